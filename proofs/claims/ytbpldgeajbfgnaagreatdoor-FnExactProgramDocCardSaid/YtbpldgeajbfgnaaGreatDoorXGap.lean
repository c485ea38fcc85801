import Derived.Test.YtbpldgeajbfgnaaGreatDoorXDsz2
set_option linter.defProp false
namespace Go.Proofs.YtbpldgeajbfgnaaGreatDoor
set_option linter.unusedVariables false
set_option linter.unusedSimpArgs false
open Go Go.Vm
open Go.IntKind (i64)
def iy{op:Int}(h:ab4 op=true):wP op≠0∧op≠61:=by
 have hc:op=60∨op=57∨op=58∨op=59∨op=55∨op=56∨op=99∨op=63∨op=48∨op=47∨op=50∨op=62∨op=49∨op=67∨op=46∨op=45∨op=44:=by simp only[ab4,Bool.or_eq_true,beq_iff_eq] at h;omega
 rcases hc with rfl|rfl|rfl|rfl|rfl|rfl|rfl|rfl|rfl|rfl|rfl|rfl|rfl|rfl|rfl|rfl|rfl<;>decide
def jy{op:Int}(h:ab5 op=true):op=54∨(38<=op∧op<=43):=by simp only[ab5,Bool.or_eq_true,GH,beq_iff_eq,decide_eq_true_eq] at h;omega
def aMP(op:Int)(t o:aC)(kids:au)(h:M.ay 1 op t o kids=some true):Cnt 1 op o kids.length:=by
 simp only[M.ay,M.aB,M.aP,M.aG,M.aV,M.aT,M.aQ,M.aH,aW,aN,dJ,bn,Int.reduceBEq,Int.reduceLE,Int.reduceLT,Int.reduceSub,Int.reduceAdd,aY,ah] at h;revert h;cases hn0:M.iI t with
 |none=>cases op==0<;>simp
 |some b0=>_
 all_goals try simp only[Int.reduceBEq,Int.reduceLE,Int.reduceLT,Int.reduceSub,Int.reduceAdd,aY,ah]
 all_goals(cases ho0:(op==0)<;>cases ht:(t==[])<;>cases hy:(o==[])<;>cases b0<;>simp_all<;>intros<;>constructor<;>intros<;>first|omega|exact iy ‹_›|exact jy ‹_›|(rw[aJ (n:=op+1) (by omega) (by omega)] at *;omega)|(simp_all<;>omega))
def aMQ(op:Int)(t o:aC)(kids:au)(h:M.ay 2 op t o kids=some true):Cnt 2 op o kids.length:=by
 simp only[M.ay,M.aB,M.aP,M.aG,M.aV,M.aT,M.aQ,M.aH,aW,aN,dJ,bn,Int.reduceBEq,Int.reduceLE,Int.reduceLT,Int.reduceSub,Int.reduceAdd,aY,ah] at h;revert h;cases hn0:M.lK 3 t 0 with
 |none=>cases op==0<;>simp
 |some b0=>_
 all_goals try simp only[Int.reduceBEq,Int.reduceLE,Int.reduceLT,Int.reduceSub,Int.reduceAdd,aY,ah]
 all_goals(cases ho0:(op==0)<;>cases ht:(t==[])<;>cases hy:(o==[])<;>cases b0<;>simp_all<;>intros<;>constructor<;>intros<;>first|omega|exact iy ‹_›|exact jy ‹_›|(rw[aJ (n:=op+1) (by omega) (by omega)] at *;omega)|(simp_all<;>omega))
def aMR(op:Int)(t o:aC)(kids:au)(h:M.ay 3 op t o kids=some true):Cnt 3 op o kids.length:=by
 simp only[M.ay,M.aB,M.aP,M.aG,M.aV,M.aT,M.aQ,M.aH,aW,aN,dJ,bn,Int.reduceBEq,Int.reduceLE,Int.reduceLT,Int.reduceSub,Int.reduceAdd,aY,ah] at h;revert h;cases hn0:M.lK 4 t 0 with
 |none=>cases op==0<;>simp
 |some b0=>_
 all_goals try simp only[Int.reduceBEq,Int.reduceLE,Int.reduceLT,Int.reduceSub,Int.reduceAdd,aY,ah]
 all_goals(cases ho0:(op==0)<;>cases ht:(t==[])<;>cases hy:(o==[])<;>cases b0<;>simp_all<;>intros<;>constructor<;>intros<;>first|omega|exact iy ‹_›|exact jy ‹_›|(rw[aJ (n:=op+1) (by omega) (by omega)] at *;omega)|(simp_all<;>omega))
def aMS(op:Int)(t o:aC)(kids:au)(h:M.ay 4 op t o kids=some true):Cnt 4 op o kids.length:=by
 simp only[M.ay,M.aB,M.aP,M.aG,M.aV,M.aT,M.aQ,M.aH,aW,aN,dJ,bn,Int.reduceBEq,Int.reduceLE,Int.reduceLT,Int.reduceSub,Int.reduceAdd,aY,ah] at h;revert h;cases hn0:M.lK 5 t 0 with
 |none=>cases op==0<;>simp
 |some b0=>_
 all_goals try simp only[Int.reduceBEq,Int.reduceLE,Int.reduceLT,Int.reduceSub,Int.reduceAdd,aY,ah]
 all_goals(cases ho0:(op==0)<;>cases ht:(t==[])<;>cases hy:(o==[])<;>cases b0<;>simp_all<;>intros<;>constructor<;>intros<;>first|omega|exact iy ‹_›|exact jy ‹_›|(rw[aJ (n:=op+1) (by omega) (by omega)] at *;omega)|(simp_all<;>omega))
def aMT(op:Int)(t o:aC)(kids:au)(h:M.ay 5 op t o kids=some true):Cnt 5 op o kids.length:=by
 simp only[M.ay,M.aB,M.aP,M.aG,M.aV,M.aT,M.aQ,M.aH,aW,aN,dJ,bn,Int.reduceBEq,Int.reduceLE,Int.reduceLT,Int.reduceSub,Int.reduceAdd,aY,ah] at h;revert h;cases hn0:M.iI t with
 |none=>cases op==0<;>simp
 |some b0=>_
 all_goals try simp only[Int.reduceBEq,Int.reduceLE,Int.reduceLT,Int.reduceSub,Int.reduceAdd,aY,ah]
 all_goals(cases ho0:(op==0)<;>cases ht:(t==[])<;>cases hy:(o==[])<;>cases b0<;>simp_all<;>intros<;>constructor<;>intros<;>first|omega|exact iy ‹_›|exact jy ‹_›|(rw[aJ (n:=op+1) (by omega) (by omega)] at *;omega)|(simp_all<;>omega))
def aMU(op:Int)(t o:aC)(kids:au)(h:M.ay 6 op t o kids=some true):Cnt 6 op o kids.length:=by
 simp only[M.ay,M.aB,M.aP,M.aG,M.aV,M.aT,M.aQ,M.aH,aW,aN,dJ,bn,Int.reduceBEq,Int.reduceLE,Int.reduceLT,Int.reduceSub,Int.reduceAdd,aY,ah] at h;revert h
 all_goals try simp only[Int.reduceBEq,Int.reduceLE,Int.reduceLT,Int.reduceSub,Int.reduceAdd,aY,ah]
 all_goals(cases ho0:(op==0)<;>cases ht:(t==[])<;>cases hy:(o==[])<;>simp_all<;>intros<;>constructor<;>intros<;>first|omega|exact iy ‹_›|exact jy ‹_›|(rw[aJ (n:=op+1) (by omega) (by omega)] at *;omega)|(simp_all<;>omega))
def aMV(op:Int)(t o:aC)(kids:au)(h:M.ay 7 op t o kids=some true):Cnt 7 op o kids.length:=by
 simp only[M.ay,M.aB,M.aP,M.aG,M.aV,M.aT,M.aQ,M.aH,aW,aN,dJ,bn,Int.reduceBEq,Int.reduceLE,Int.reduceLT,Int.reduceSub,Int.reduceAdd,aY,ah] at h;revert h;cases hn0:M.iI t with
 |none=>cases op==0<;>simp
 |some b0=>_
 all_goals try simp only[Int.reduceBEq,Int.reduceLE,Int.reduceLT,Int.reduceSub,Int.reduceAdd,aY,ah]
 all_goals(cases ho0:(op==0)<;>cases ht:(t==[])<;>cases hy:(o==[])<;>cases b0<;>simp_all<;>intros<;>constructor<;>intros<;>first|omega|exact iy ‹_›|exact jy ‹_›|(rw[aJ (n:=op+1) (by omega) (by omega)] at *;omega)|(simp_all<;>omega))
def aMW(op:Int)(t o:aC)(kids:au)(h:M.ay 8 op t o kids=some true):Cnt 8 op o kids.length:=by
 simp only[M.ay,M.aB,M.aP,M.aG,M.aV,M.aT,M.aQ,M.aH,aW,aN,dJ,bn,Int.reduceBEq,Int.reduceLE,Int.reduceLT,Int.reduceSub,Int.reduceAdd,aY,ah] at h;revert h;cases hn0:M.kZ t with
 |none=>cases op==0<;>simp
 |some b0=>_
 all_goals try simp only[Int.reduceBEq,Int.reduceLE,Int.reduceLT,Int.reduceSub,Int.reduceAdd,aY,ah]
 all_goals(cases ho0:(op==0)<;>cases ht:(t==[])<;>cases hy:(o==[])<;>cases b0<;>simp_all<;>intros<;>constructor<;>intros<;>first|omega|exact iy ‹_›|exact jy ‹_›|(rw[aJ (n:=op+1) (by omega) (by omega)] at *;omega)|(simp_all<;>omega))
def aMX(op:Int)(t o:aC)(kids:au)(h:M.ay 9 op t o kids=some true):Cnt 9 op o kids.length:=by
 simp only[M.ay,M.aB,M.aP,M.aG,M.aV,M.aT,M.aQ,M.aH,aW,aN,dJ,bn,Int.reduceBEq,Int.reduceLE,Int.reduceLT,Int.reduceSub,Int.reduceAdd,aY,ah] at h;revert h
 all_goals try simp only[Int.reduceBEq,Int.reduceLE,Int.reduceLT,Int.reduceSub,Int.reduceAdd,aY,ah]
 all_goals(cases ho0:(op==51)<;>cases ho1:(op==52)<;>cases ht:(t==[])<;>cases hy:(o==[])<;>simp_all<;>intros<;>constructor<;>intros<;>first|omega|exact iy ‹_›|exact jy ‹_›|(rw[aJ (n:=op+1) (by omega) (by omega)] at *;omega)|(simp_all<;>omega))
def awZ(op:Int)(t o:aC)(kids:au)(h:M.ay 10 op t o kids=some true):Cnt 10 op o kids.length:=by
 simp only[M.ay,M.aB,M.aP,M.aG,M.aV,M.aT,M.aQ,M.aH,aW,aN,dJ,bn,Int.reduceBEq,Int.reduceLE,Int.reduceLT,Int.reduceSub,Int.reduceAdd,aY,ah] at h;revert h
 all_goals try simp only[Int.reduceBEq,Int.reduceLE,Int.reduceLT,Int.reduceSub,Int.reduceAdd,aY,ah]
 all_goals(cases ho0:(op==51)<;>cases ho1:(op==52)<;>cases ht:(t==[])<;>cases hy:(o==[])<;>simp_all<;>intros<;>constructor<;>intros<;>first|omega|exact iy ‹_›|exact jy ‹_›|(rw[aJ (n:=op+1) (by omega) (by omega)] at *;omega)|(simp_all<;>omega))
def aw0(op:Int)(t o:aC)(kids:au)(h:M.ay 11 op t o kids=some true):Cnt 11 op o kids.length:=by
 simp only[M.ay,M.aB,M.aP,M.aG,M.aV,M.aT,M.aQ,M.aH,aW,aN,dJ,bn,Int.reduceBEq,Int.reduceLE,Int.reduceLT,Int.reduceSub,Int.reduceAdd,aY,ah] at h;revert h
 all_goals try simp only[Int.reduceBEq,Int.reduceLE,Int.reduceLT,Int.reduceSub,Int.reduceAdd,aY,ah]
 all_goals(cases ho0:(op==55)<;>cases ho1:(op==56)<;>cases ho2:(op==61)<;>cases ht:(t==[])<;>cases hy:(o==[])<;>simp_all<;>intros<;>constructor<;>intros<;>first|omega|exact iy ‹_›|exact jy ‹_›|(rw[aJ (n:=op+1) (by omega) (by omega)] at *;omega)|(simp_all<;>omega))
def aw1(op:Int)(t o:aC)(kids:au)(h:M.ay 12 op t o kids=some true):Cnt 12 op o kids.length:=by
 simp only[M.ay,M.aB,M.aP,M.aG,M.aV,M.aT,M.aQ,M.aH,aW,aN,dJ,bn,Int.reduceBEq,Int.reduceLE,Int.reduceLT,Int.reduceSub,Int.reduceAdd,aY,ah] at h;revert h
 all_goals try simp only[Int.reduceBEq,Int.reduceLE,Int.reduceLT,Int.reduceSub,Int.reduceAdd,aY,ah]
 all_goals(cases ho0:(ab4 op)<;>cases ht:(t==[])<;>cases hy:(o==[])<;>simp_all<;>intros<;>constructor<;>intros<;>first|omega|exact iy ‹_›|exact jy ‹_›|(rw[aJ (n:=op+1) (by omega) (by omega)] at *;omega)|(simp_all<;>omega))
def aw2(op:Int)(t o:aC)(kids:au)(h:M.ay 13 op t o kids=some true):Cnt 13 op o kids.length:=by
 simp only[M.ay,M.aB,M.aP,M.aG,M.aV,M.aT,M.aQ,M.aH,aW,aN,dJ,bn,Int.reduceBEq,Int.reduceLE,Int.reduceLT,Int.reduceSub,Int.reduceAdd,aY,ah] at h;revert h;cases hn0:M.iI t with
 |none=>cases op==0<;>simp
 |some b0=>_
 all_goals try simp only[Int.reduceBEq,Int.reduceLE,Int.reduceLT,Int.reduceSub,Int.reduceAdd,aY,ah]
 all_goals(cases ho0:(op==0)<;>cases ht:(t==[])<;>cases hy:(o==[])<;>cases b0<;>simp_all<;>intros<;>constructor<;>intros<;>first|omega|exact iy ‹_›|exact jy ‹_›|(rw[aJ (n:=op+1) (by omega) (by omega)] at *;omega)|(simp_all<;>omega))
def aw3(op:Int)(t o:aC)(kids:au)(h:M.ay 14 op t o kids=some true):Cnt 14 op o kids.length:=by
 simp only[M.ay,M.aB,M.aP,M.aG,M.aV,M.aT,M.aQ,M.aH,aW,aN,dJ,bn,Int.reduceBEq,Int.reduceLE,Int.reduceLT,Int.reduceSub,Int.reduceAdd,aY,ah] at h;revert h
 all_goals try simp only[Int.reduceBEq,Int.reduceLE,Int.reduceLT,Int.reduceSub,Int.reduceAdd,aY,ah]
 all_goals(cases ho0:(op==0)<;>cases ht:(t==[])<;>cases hy:(o==[])<;>simp_all<;>intros<;>constructor<;>intros<;>first|omega|exact iy ‹_›|exact jy ‹_›|(rw[aJ (n:=op+1) (by omega) (by omega)] at *;omega)|(simp_all<;>omega))
def aw4(op:Int)(t o:aC)(kids:au)(h:M.ay 15 op t o kids=some true):Cnt 15 op o kids.length:=by
 simp only[M.ay,M.aB,M.aP,M.aG,M.aV,M.aT,M.aQ,M.aH,aW,aN,dJ,bn,Int.reduceBEq,Int.reduceLE,Int.reduceLT,Int.reduceSub,Int.reduceAdd,aY,ah] at h;revert h
 all_goals try simp only[Int.reduceBEq,Int.reduceLE,Int.reduceLT,Int.reduceSub,Int.reduceAdd,aY,ah]
 all_goals(cases ho0:(ab5 op)<;>cases ht:(t==[])<;>cases hy:(o==[])<;>simp_all<;>intros<;>constructor<;>intros<;>first|omega|exact iy ‹_›|exact jy ‹_›|(rw[aJ (n:=op+1) (by omega) (by omega)] at *;omega)|(simp_all<;>omega))
def aw5(op:Int)(t o:aC)(kids:au)(h:M.ay 16 op t o kids=some true):Cnt 16 op o kids.length:=by
 simp only[M.ay,M.aB,M.aP,M.aG,M.aV,M.aT,M.aQ,M.aH,aW,aN,dJ,bn,Int.reduceBEq,Int.reduceLE,Int.reduceLT,Int.reduceSub,Int.reduceAdd,aY,ah] at h;revert h
 all_goals try simp only[Int.reduceBEq,Int.reduceLE,Int.reduceLT,Int.reduceSub,Int.reduceAdd,aY,ah]
 all_goals(cases ho0:(op==0)<;>cases ht:(t==[])<;>cases hy:(o==[])<;>simp_all<;>intros<;>constructor<;>intros<;>first|omega|exact iy ‹_›|exact jy ‹_›|(rw[aJ (n:=op+1) (by omega) (by omega)] at *;omega)|(simp_all<;>omega))
def aw6(op:Int)(t o:aC)(kids:au)(h:M.ay 20 op t o kids=some true):Cnt 20 op o kids.length:=by
 simp only[M.ay,M.aB,M.aP,M.aG,M.aV,M.aT,M.aQ,M.aH,aW,aN,dJ,bn,Int.reduceBEq,Int.reduceLE,Int.reduceLT,Int.reduceSub,Int.reduceAdd,aY,ah] at h;revert h
 all_goals try simp only[Int.reduceBEq,Int.reduceLE,Int.reduceLT,Int.reduceSub,Int.reduceAdd,aY,ah]
 all_goals(cases ho0:(op==0)<;>cases ht:(t==[])<;>cases hy:(o==[])<;>simp_all<;>intros<;>constructor<;>intros<;>first|omega|exact iy ‹_›|exact jy ‹_›|(rw[aJ (n:=op+1) (by omega) (by omega)] at *;omega)|(simp_all<;>omega))
def aw7(op:Int)(t o:aC)(kids:au)(h:M.ay 21 op t o kids=some true):Cnt 21 op o kids.length:=by
 simp only[M.ay,M.aB,M.aP,M.aG,M.aV,M.aT,M.aQ,M.aH,aW,aN,dJ,bn,Int.reduceBEq,Int.reduceLE,Int.reduceLT,Int.reduceSub,Int.reduceAdd,aY,ah] at h;revert h
 all_goals try simp only[Int.reduceBEq,Int.reduceLE,Int.reduceLT,Int.reduceSub,Int.reduceAdd,aY,ah]
 all_goals(cases ho0:(decide (0<=op))<;>cases ho1:(decide (op<=1))<;>cases ht:(t==[])<;>cases hy:(o==[])<;>cases h1:(o==[62])<;>cases h2:(o==[62,62])<;>cases h3:(o==[124])<;>simp_all<;>intros<;>constructor<;>intros<;>first|omega|exact iy ‹_›|exact jy ‹_›|(rw[aJ (n:=op+1) (by omega) (by omega)] at *;omega)|(simp_all<;>omega))
def aw8(op:Int)(t o:aC)(kids:au)(h:M.ay 22 op t o kids=some true):Cnt 22 op o kids.length:=by
 simp only[M.ay,M.aB,M.aP,M.aG,M.aV,M.aT,M.aQ,M.aH,aW,aN,dJ,bn,Int.reduceBEq,Int.reduceLE,Int.reduceLT,Int.reduceSub,Int.reduceAdd,aY,ah] at h;revert h
 all_goals try simp only[Int.reduceBEq,Int.reduceLE,Int.reduceLT,Int.reduceSub,Int.reduceAdd,aY,ah]
 all_goals(cases ho0:(op==0)<;>cases ht:(t==[])<;>cases hy:(o==[])<;>simp_all<;>intros<;>constructor<;>intros<;>first|omega|exact iy ‹_›|exact jy ‹_›|(rw[aJ (n:=op+1) (by omega) (by omega)] at *;omega)|(simp_all<;>omega))
def aw9(op:Int)(t o:aC)(kids:au)(h:M.ay 23 op t o kids=some true):Cnt 23 op o kids.length:=by
 simp only[M.ay,M.aB,M.aP,M.aG,M.aV,M.aT,M.aQ,M.aH,aW,aN,dJ,bn,Int.reduceBEq,Int.reduceLE,Int.reduceLT,Int.reduceSub,Int.reduceAdd,aY,ah] at h;revert h
 all_goals try simp only[Int.reduceBEq,Int.reduceLE,Int.reduceLT,Int.reduceSub,Int.reduceAdd,aY,ah]
 all_goals(cases ho0:(op==0)<;>cases ht:(t==[])<;>cases hy:(o==[])<;>simp_all<;>intros<;>constructor<;>intros<;>first|omega|exact iy ‹_›|exact jy ‹_›|(rw[aJ (n:=op+1) (by omega) (by omega)] at *;omega)|(simp_all<;>omega))
def axa(op:Int)(t o:aC)(kids:au)(h:M.ay 24 op t o kids=some true):Cnt 24 op o kids.length:=by
 simp only[M.ay,M.aB,M.aP,M.aG,M.aV,M.aT,M.aQ,M.aH,aW,aN,dJ,bn,Int.reduceBEq,Int.reduceLE,Int.reduceLT,Int.reduceSub,Int.reduceAdd,aY,ah] at h;revert h
 all_goals try simp only[Int.reduceBEq,Int.reduceLE,Int.reduceLT,Int.reduceSub,Int.reduceAdd,aY,ah]
 all_goals(cases ho0:(op==0)<;>cases ht:(t==[])<;>cases hy:(o==[])<;>simp_all<;>intros<;>constructor<;>intros<;>first|omega|exact iy ‹_›|exact jy ‹_›|(rw[aJ (n:=op+1) (by omega) (by omega)] at *;omega)|(simp_all<;>omega))
def axb(op:Int)(t o:aC)(kids:au)(h:M.ay 25 op t o kids=some true):Cnt 25 op o kids.length:=by
 simp only[M.ay,M.aB,M.aP,M.aG,M.aV,M.aT,M.aQ,M.aH,aW,aN,dJ,bn,Int.reduceBEq,Int.reduceLE,Int.reduceLT,Int.reduceSub,Int.reduceAdd,aY,ah] at h;revert h
 all_goals try simp only[Int.reduceBEq,Int.reduceLE,Int.reduceLT,Int.reduceSub,Int.reduceAdd,aY,ah]
 all_goals(cases ho0:(op==0)<;>cases ht:(t==[])<;>cases hy:(o==[])<;>simp_all<;>intros<;>constructor<;>intros<;>first|omega|exact iy ‹_›|exact jy ‹_›|(rw[aJ (n:=op+1) (by omega) (by omega)] at *;omega)|(simp_all<;>omega))
def axc(op:Int)(t o:aC)(kids:au)(h:M.ay 26 op t o kids=some true):Cnt 26 op o kids.length:=by
 simp only[M.ay,M.aB,M.aP,M.aG,M.aV,M.aT,M.aQ,M.aH,aW,aN,dJ,bn,Int.reduceBEq,Int.reduceLE,Int.reduceLT,Int.reduceSub,Int.reduceAdd,aY,ah] at h;revert h
 all_goals try simp only[Int.reduceBEq,Int.reduceLE,Int.reduceLT,Int.reduceSub,Int.reduceAdd,aY,ah]
 all_goals(cases ho0:(op==0)<;>cases ht:(t==[])<;>cases hy:(o==[])<;>simp_all<;>intros<;>constructor<;>intros<;>first|omega|exact iy ‹_›|exact jy ‹_›|(rw[aJ (n:=op+1) (by omega) (by omega)] at *;omega)|(simp_all<;>omega))
def axd(op:Int)(t o:aC)(kids:au)(h:M.ay 27 op t o kids=some true):Cnt 27 op o kids.length:=by
 simp only[M.ay,M.aB,M.aP,M.aG,M.aV,M.aT,M.aQ,M.aH,aW,aN,dJ,bn,Int.reduceBEq,Int.reduceLE,Int.reduceLT,Int.reduceSub,Int.reduceAdd,aY,ah] at h;revert h;cases hn0:M.iI t with
 |none=>cases op==0<;>simp
 |some b0=>_
 all_goals try simp only[Int.reduceBEq,Int.reduceLE,Int.reduceLT,Int.reduceSub,Int.reduceAdd,aY,ah]
 all_goals(cases ho0:(op==0)<;>cases ht:(t==[])<;>cases hy:(o==[])<;>cases b0<;>simp_all<;>intros<;>constructor<;>intros<;>first|omega|exact iy ‹_›|exact jy ‹_›|(rw[aJ (n:=op+1) (by omega) (by omega)] at *;omega)|(simp_all<;>omega))
def axe(op:Int)(t o:aC)(kids:au)(h:M.ay 28 op t o kids=some true):Cnt 28 op o kids.length:=by
 simp only[M.ay,M.aB,M.aP,M.aG,M.aV,M.aT,M.aQ,M.aH,aW,aN,dJ,bn,Int.reduceBEq,Int.reduceLE,Int.reduceLT,Int.reduceSub,Int.reduceAdd,aY,ah] at h;revert h
 all_goals try simp only[Int.reduceBEq,Int.reduceLE,Int.reduceLT,Int.reduceSub,Int.reduceAdd,aY,ah]
 all_goals(cases ho0:(op==0)<;>cases ht:(t==[])<;>cases hy:(o==[])<;>simp_all<;>intros<;>constructor<;>intros<;>first|omega|exact iy ‹_›|exact jy ‹_›|(rw[aJ (n:=op+1) (by omega) (by omega)] at *;omega)|(simp_all<;>omega))
def axf(op:Int)(t o:aC)(kids:au)(h:M.ay 29 op t o kids=some true):Cnt 29 op o kids.length:=by
 simp only[M.ay,M.aB,M.aP,M.aG,M.aV,M.aT,M.aQ,M.aH,aW,aN,dJ,bn,Int.reduceBEq,Int.reduceLE,Int.reduceLT,Int.reduceSub,Int.reduceAdd,aY,ah] at h;revert h
 all_goals try simp only[Int.reduceBEq,Int.reduceLE,Int.reduceLT,Int.reduceSub,Int.reduceAdd,aY,ah]
 all_goals(cases ho0:(op==0)<;>cases ht:(t==[])<;>cases hy:(o==[])<;>simp_all<;>intros<;>constructor<;>intros<;>first|omega|exact iy ‹_›|exact jy ‹_›|(rw[aJ (n:=op+1) (by omega) (by omega)] at *;omega)|(simp_all<;>omega))
def axg(op:Int)(t o:aC)(kids:au)(h:M.ay 30 op t o kids=some true):Cnt 30 op o kids.length:=by
 simp only[M.ay,M.aB,M.aP,M.aG,M.aV,M.aT,M.aQ,M.aH,aW,aN,dJ,bn,Int.reduceBEq,Int.reduceLE,Int.reduceLT,Int.reduceSub,Int.reduceAdd,aY,ah] at h;revert h
 all_goals try simp only[Int.reduceBEq,Int.reduceLE,Int.reduceLT,Int.reduceSub,Int.reduceAdd,aY,ah]
 all_goals(cases ho0:(op==0)<;>cases ht:(t==[])<;>cases hy:(o==[])<;>simp_all<;>intros<;>constructor<;>intros<;>first|omega|exact iy ‹_›|exact jy ‹_›|(rw[aJ (n:=op+1) (by omega) (by omega)] at *;omega)|(simp_all<;>omega))
def axh(op:Int)(t o:aC)(kids:au)(h:M.ay 31 op t o kids=some true):Cnt 31 op o kids.length:=by
 simp only[M.ay,M.aB,M.aP,M.aG,M.aV,M.aT,M.aQ,M.aH,aW,aN,dJ,bn,Int.reduceBEq,Int.reduceLE,Int.reduceLT,Int.reduceSub,Int.reduceAdd,aY,ah] at h;revert h
 all_goals try simp only[Int.reduceBEq,Int.reduceLE,Int.reduceLT,Int.reduceSub,Int.reduceAdd,aY,ah]
 all_goals(cases ho0:(op==0)<;>cases ht:(t==[])<;>cases hy:(o==[])<;>simp_all<;>intros<;>constructor<;>intros<;>first|omega|exact iy ‹_›|exact jy ‹_›|(rw[aJ (n:=op+1) (by omega) (by omega)] at *;omega)|(simp_all<;>omega))
def axi(op:Int)(t o:aC)(kids:au)(h:M.ay 32 op t o kids=some true):Cnt 32 op o kids.length:=by
 simp only[M.ay,M.aB,M.aP,M.aG,M.aV,M.aT,M.aQ,M.aH,aW,aN,dJ,bn,Int.reduceBEq,Int.reduceLE,Int.reduceLT,Int.reduceSub,Int.reduceAdd,aY,ah] at h;revert h;cases hn0:M.iI t with
 |none=>cases op==0<;>simp
 |some b0=>_
 cases hn1:M.iI o with
 |none=>cases b0<;>cases op==0<;>simp
 |some b1=>_
 all_goals try simp only[Int.reduceBEq,Int.reduceLE,Int.reduceLT,Int.reduceSub,Int.reduceAdd,aY,ah]
 all_goals(cases ho0:(op==0)<;>cases ht:(t==[])<;>cases hy:(o==[])<;>cases b0<;>cases b1<;>simp_all<;>intros<;>constructor<;>intros<;>first|omega|exact iy ‹_›|exact jy ‹_›|(rw[aJ (n:=op+1) (by omega) (by omega)] at *;omega)|(simp_all<;>omega))
def axj(op:Int)(t o:aC)(kids:au)(h:M.ay 33 op t o kids=some true):Cnt 33 op o kids.length:=by
 simp only[M.ay,M.aB,M.aP,M.aG,M.aV,M.aT,M.aQ,M.aH,aW,aN,dJ,bn,Int.reduceBEq,Int.reduceLE,Int.reduceLT,Int.reduceSub,Int.reduceAdd,aY,ah] at h;revert h
 all_goals try simp only[Int.reduceBEq,Int.reduceLE,Int.reduceLT,Int.reduceSub,Int.reduceAdd,aY,ah]
 all_goals(cases ho0:(op==0)<;>cases ht:(t==[])<;>cases hy:(o==[])<;>simp_all<;>intros<;>constructor<;>intros<;>first|omega|exact iy ‹_›|exact jy ‹_›|(rw[aJ (n:=op+1) (by omega) (by omega)] at *;omega)|(simp_all<;>omega))
def axk(op:Int)(t o:aC)(kids:au)(h:M.ay 34 op t o kids=some true):Cnt 34 op o kids.length:=by
 simp only[M.ay,M.aB,M.aP,M.aG,M.aV,M.aT,M.aQ,M.aH,aW,aN,dJ,bn,Int.reduceBEq,Int.reduceLE,Int.reduceLT,Int.reduceSub,Int.reduceAdd,aY,ah] at h;revert h;cases hn0:M.lK 2 t 0 with
 |none=>cases op==0<;>simp
 |some b0=>_
 all_goals try simp only[Int.reduceBEq,Int.reduceLE,Int.reduceLT,Int.reduceSub,Int.reduceAdd,aY,ah]
 all_goals(cases ho0:(op==0)<;>cases ht:(t==[])<;>cases hy:(o==[])<;>cases b0<;>simp_all<;>intros<;>constructor<;>intros<;>first|omega|exact iy ‹_›|exact jy ‹_›|(rw[aJ (n:=op+1) (by omega) (by omega)] at *;omega)|(simp_all<;>omega))
def axl(op:Int)(t o:aC)(kids:au)(h:M.ay 40 op t o kids=some true):Cnt 40 op o kids.length:=by
 simp only[M.ay,M.aB,M.aP,M.aG,M.aV,M.aT,M.aQ,M.aH,aW,aN,dJ,bn,Int.reduceBEq,Int.reduceLE,Int.reduceLT,Int.reduceSub,Int.reduceAdd,aY,ah] at h;revert h
 all_goals try simp only[Int.reduceBEq,Int.reduceLE,Int.reduceLT,Int.reduceSub,Int.reduceAdd,aY,ah]
 all_goals(cases ho0:(op==0)<;>cases ht:(t==[])<;>cases hy:(o==[])<;>simp_all<;>intros<;>constructor<;>intros<;>first|omega|exact iy ‹_›|exact jy ‹_›|(rw[aJ (n:=op+1) (by omega) (by omega)] at *;omega)|(simp_all<;>omega))
def axn(op:Int)(t o:aC)(kids:au)(h:M.ay 41 op t o kids=some true):Cnt 41 op o kids.length:=by
 simp only[M.ay,M.aB,M.aP,M.aG,M.aV,M.aT,M.aQ,M.aH,aW,aN,dJ,bn,Int.reduceBEq,Int.reduceLE,Int.reduceLT,Int.reduceSub,Int.reduceAdd,aY,ah] at h;revert h
 all_goals try simp only[Int.reduceBEq,Int.reduceLE,Int.reduceLT,Int.reduceSub,Int.reduceAdd,aY,ah]
 all_goals(cases ho0:(op==0)<;>cases ht:(t==[])<;>cases hy:(o==[])<;>simp_all<;>intros<;>constructor<;>intros<;>first|omega|exact iy ‹_›|exact jy ‹_›|(rw[aJ (n:=op+1) (by omega) (by omega)] at *;omega)|(simp_all<;>omega))
def axo(op:Int)(t o:aC)(kids:au)(h:M.ay 42 op t o kids=some true):Cnt 42 op o kids.length:=by have hc:=afx h;have hr:=hc.rule rfl;constructor<;>intros<;>omega
def axp(op:Int)(t o:aC)(kids:au)(h:M.ay 43 op t o kids=some true):Cnt 43 op o kids.length:=by have hc:=afx h;have hr:=hc.range rfl;constructor<;>intros<;>omega
def axq(op:Int)(t o:aC)(kids:au)(h:M.ay 44 op t o kids=some true):Cnt 44 op o kids.length:=by
 simp only[M.ay,M.aB,M.aP,M.aG,M.aV,M.aT,M.aQ,M.aH,aW,aN,dJ,bn,Int.reduceBEq,Int.reduceLE,Int.reduceLT,Int.reduceSub,Int.reduceAdd,aY,ah] at h;revert h;cases hn0:M.iI t with
 |none=>cases op==0<;>simp
 |some b0=>_
 all_goals try simp only[Int.reduceBEq,Int.reduceLE,Int.reduceLT,Int.reduceSub,Int.reduceAdd,aY,ah]
 all_goals(cases ho0:(op==0)<;>cases ht:(t==[])<;>cases hy:(o==[])<;>cases b0<;>simp_all<;>intros<;>constructor<;>intros<;>first|omega|exact iy ‹_›|exact jy ‹_›|(rw[aJ (n:=op+1) (by omega) (by omega)] at *;omega)|(simp_all<;>omega))
def axr(op:Int)(t o:aC)(kids:au)(h:M.ay 45 op t o kids=some true):Cnt 45 op o kids.length:=by
 simp only[M.ay,M.aB,M.aP,M.aG,M.aV,M.aT,M.aQ,M.aH,aW,aN,dJ,bn,Int.reduceBEq,Int.reduceLE,Int.reduceLT,Int.reduceSub,Int.reduceAdd,aY,ah] at h;revert h
 all_goals try simp only[Int.reduceBEq,Int.reduceLE,Int.reduceLT,Int.reduceSub,Int.reduceAdd,aY,ah]
 all_goals(cases ho0:(op==0)<;>cases ht:(t==[])<;>cases hy:(o==[])<;>simp_all<;>intros<;>constructor<;>intros<;>first|omega|exact iy ‹_›|exact jy ‹_›|(rw[aJ (n:=op+1) (by omega) (by omega)] at *;omega)|(simp_all<;>omega))
def aMY(op:Int)(t o:aC)(kids:au)(j:Nat)(d:Int)(hj:j<kids.length)(hl:kids.length<=400)(hc:Cnt 1 op o kids.length)(h:M.aF 1 op t o kids (j:Int) d=some true):iZ (cls 1 op kids.length j) d:=by
 have hw:i64.wrap ((kids.length:Int) - 1)=(kids.length:Int) - 1:=aJ (by omega) (by omega);simp only[M.aF,M.aO,bC,bD,bF,aU,aW,aN,Int.reduceBEq,Int.reduceLE,Int.reduceLT,Int.reduceSub,Int.reduceAdd,aY,ah] at h
 try rw[hw] at h
 have:=hc.non (by omega);omega
def aMZ(op:Int)(t o:aC)(kids:au)(j:Nat)(d:Int)(hj:j<kids.length)(hl:kids.length<=400)(hc:Cnt 2 op o kids.length)(h:M.aF 2 op t o kids (j:Int) d=some true):iZ (cls 2 op kids.length j) d:=by
 have hw:i64.wrap ((kids.length:Int) - 1)=(kids.length:Int) - 1:=aJ (by omega) (by omega);simp only[M.aF,M.aO,bC,bD,bF,aU,aW,aN,Int.reduceBEq,Int.reduceLE,Int.reduceLT,Int.reduceSub,Int.reduceAdd,aY,ah] at h
 try rw[hw] at h
 have:=hc.non (by omega);omega
def aM0(op:Int)(t o:aC)(kids:au)(j:Nat)(d:Int)(hj:j<kids.length)(hl:kids.length<=400)(hc:Cnt 3 op o kids.length)(h:M.aF 3 op t o kids (j:Int) d=some true):iZ (cls 3 op kids.length j) d:=by
 have hw:i64.wrap ((kids.length:Int) - 1)=(kids.length:Int) - 1:=aJ (by omega) (by omega);simp only[M.aF,M.aO,bC,bD,bF,aU,aW,aN,Int.reduceBEq,Int.reduceLE,Int.reduceLT,Int.reduceSub,Int.reduceAdd,aY,ah] at h
 try rw[hw] at h
 have:=hc.non (by omega);omega
def aM1(op:Int)(t o:aC)(kids:au)(j:Nat)(d:Int)(hj:j<kids.length)(hl:kids.length<=400)(hc:Cnt 4 op o kids.length)(h:M.aF 4 op t o kids (j:Int) d=some true):iZ (cls 4 op kids.length j) d:=by
 have hw:i64.wrap ((kids.length:Int) - 1)=(kids.length:Int) - 1:=aJ (by omega) (by omega);simp only[M.aF,M.aO,bC,bD,bF,aU,aW,aN,Int.reduceBEq,Int.reduceLE,Int.reduceLT,Int.reduceSub,Int.reduceAdd,aY,ah] at h
 try rw[hw] at h
 have:=hc.non (by omega);omega
def aM2(op:Int)(t o:aC)(kids:au)(j:Nat)(d:Int)(hj:j<kids.length)(hl:kids.length<=400)(hc:Cnt 5 op o kids.length)(h:M.aF 5 op t o kids (j:Int) d=some true):iZ (cls 5 op kids.length j) d:=by
 have hw:i64.wrap ((kids.length:Int) - 1)=(kids.length:Int) - 1:=aJ (by omega) (by omega);simp only[M.aF,M.aO,bC,bD,bF,aU,aW,aN,Int.reduceBEq,Int.reduceLE,Int.reduceLT,Int.reduceSub,Int.reduceAdd,aY,ah] at h
 try rw[hw] at h
 simp[cls,iZ,mD,Ar,F6,isIt,Bool.cond_eq_ite] at h⊢
 all_goals first|omega|((repeat' split at h)<;>simp_all<;>omega)
def aM3(op:Int)(t o:aC)(kids:au)(j:Nat)(d:Int)(hj:j<kids.length)(hl:kids.length<=400)(hc:Cnt 6 op o kids.length)(h:M.aF 6 op t o kids (j:Int) d=some true):iZ (cls 6 op kids.length j) d:=by
 have hw:i64.wrap ((kids.length:Int) - 1)=(kids.length:Int) - 1:=aJ (by omega) (by omega);simp only[M.aF,M.aO,bC,bD,bF,aU,aW,aN,Int.reduceBEq,Int.reduceLE,Int.reduceLT,Int.reduceSub,Int.reduceAdd,aY,ah] at h
 try rw[hw] at h
 simp[cls,iZ,mD,Ar,F6,isIt,Bool.cond_eq_ite] at h⊢
 all_goals first|omega|((repeat' split at h)<;>simp_all<;>omega)
def aM4(op:Int)(t o:aC)(kids:au)(j:Nat)(d:Int)(hj:j<kids.length)(hl:kids.length<=400)(hc:Cnt 7 op o kids.length)(h:M.aF 7 op t o kids (j:Int) d=some true):iZ (cls 7 op kids.length j) d:=by
 have hw:i64.wrap ((kids.length:Int) - 1)=(kids.length:Int) - 1:=aJ (by omega) (by omega);simp only[M.aF,M.aO,bC,bD,bF,aU,aW,aN,Int.reduceBEq,Int.reduceLE,Int.reduceLT,Int.reduceSub,Int.reduceAdd,aY,ah] at h
 try rw[hw] at h
 simp[cls,iZ,mD,Ar,F6,isIt,Bool.cond_eq_ite] at h⊢
 all_goals first|omega|((repeat' split at h)<;>simp_all<;>omega)
def aM5(op:Int)(t o:aC)(kids:au)(j:Nat)(d:Int)(hj:j<kids.length)(hl:kids.length<=400)(hc:Cnt 8 op o kids.length)(h:M.aF 8 op t o kids (j:Int) d=some true):iZ (cls 8 op kids.length j) d:=by
 have hw:i64.wrap ((kids.length:Int) - 1)=(kids.length:Int) - 1:=aJ (by omega) (by omega);simp only[M.aF,M.aO,bC,bD,bF,aU,aW,aN,Int.reduceBEq,Int.reduceLE,Int.reduceLT,Int.reduceSub,Int.reduceAdd,aY,ah] at h
 try rw[hw] at h
 simp[cls,iZ,mD,Ar,F6,isIt,Bool.cond_eq_ite] at h⊢
 all_goals first|omega|((repeat' split at h)<;>simp_all<;>omega)
def aM6(op:Int)(t o:aC)(kids:au)(j:Nat)(d:Int)(hj:j<kids.length)(hl:kids.length<=400)(hc:Cnt 9 op o kids.length)(h:M.aF 9 op t o kids (j:Int) d=some true):iZ (cls 9 op kids.length j) d:=by
 have hw:i64.wrap ((kids.length:Int) - 1)=(kids.length:Int) - 1:=aJ (by omega) (by omega);simp only[M.aF,M.aO,bC,bD,bF,aU,aW,aN,Int.reduceBEq,Int.reduceLE,Int.reduceLT,Int.reduceSub,Int.reduceAdd,aY,ah] at h
 try rw[hw] at h
 have hn:=hc.one (by omega);obtain rfl:j=0:=by omega
 all_goals(simp[cls,iZ,mD,Ar,F6,isIt,Bool.cond_eq_ite] at h⊢<;>first|omega|(repeat' split at h)<;>simp_all<;>omega)
def axt(op:Int)(t o:aC)(kids:au)(j:Nat)(d:Int)(hj:j<kids.length)(hl:kids.length<=400)(hc:Cnt 10 op o kids.length)(h:M.aF 10 op t o kids (j:Int) d=some true):iZ (cls 10 op kids.length j) d:=by
 have hw:i64.wrap ((kids.length:Int) - 1)=(kids.length:Int) - 1:=aJ (by omega) (by omega);simp only[M.aF,M.aO,bC,bD,bF,aU,aW,aN,Int.reduceBEq,Int.reduceLE,Int.reduceLT,Int.reduceSub,Int.reduceAdd,aY,ah] at h
 try rw[hw] at h
 have hn:=hc.one (by omega);obtain rfl:j=0:=by omega
 all_goals(simp[cls,iZ,mD,Ar,F6,isIt,Bool.cond_eq_ite] at h⊢<;>first|omega|(repeat' split at h)<;>simp_all<;>omega)
def axu(op:Int)(t o:aC)(kids:au)(j:Nat)(d:Int)(hj:j<kids.length)(hl:kids.length<=400)(hc:Cnt 11 op o kids.length)(h:M.aF 11 op t o kids (j:Int) d=some true):iZ (cls 11 op kids.length j) d:=by
 have hw:i64.wrap ((kids.length:Int) - 1)=(kids.length:Int) - 1:=aJ (by omega) (by omega);simp only[M.aF,M.aO,bC,bD,bF,aU,aW,aN,Int.reduceBEq,Int.reduceLE,Int.reduceLT,Int.reduceSub,Int.reduceAdd,aY,ah] at h
 try rw[hw] at h
 simp[cls,iZ,mD,Ar,F6,isIt,Bool.cond_eq_ite] at h⊢
 all_goals first|omega|((repeat' split at h)<;>simp_all<;>omega)
def axv(op:Int)(t o:aC)(kids:au)(j:Nat)(d:Int)(hj:j<kids.length)(hl:kids.length<=400)(hc:Cnt 12 op o kids.length)(h:M.aF 12 op t o kids (j:Int) d=some true):iZ (cls 12 op kids.length j) d:=by
 have hw:i64.wrap ((kids.length:Int) - 1)=(kids.length:Int) - 1:=aJ (by omega) (by omega);simp only[M.aF,M.aO,bC,bD,bF,aU,aW,aN,Int.reduceBEq,Int.reduceLE,Int.reduceLT,Int.reduceSub,Int.reduceAdd,aY,ah] at h
 try rw[hw] at h
 simp[cls,iZ,mD,Ar,F6,isIt,Bool.cond_eq_ite] at h⊢
 all_goals first|omega|((repeat' split at h)<;>simp_all<;>omega)
def axw(op:Int)(t o:aC)(kids:au)(j:Nat)(d:Int)(hj:j<kids.length)(hl:kids.length<=400)(hc:Cnt 13 op o kids.length)(h:M.aF 13 op t o kids (j:Int) d=some true):iZ (cls 13 op kids.length j) d:=by
 have hw:i64.wrap ((kids.length:Int) - 1)=(kids.length:Int) - 1:=aJ (by omega) (by omega);simp only[M.aF,M.aO,bC,bD,bF,aU,aW,aN,Int.reduceBEq,Int.reduceLE,Int.reduceLT,Int.reduceSub,Int.reduceAdd,aY,ah] at h
 try rw[hw] at h
 simp[cls,iZ,mD,Ar,F6,isIt,Bool.cond_eq_ite] at h⊢
 all_goals first|omega|((repeat' split at h)<;>simp_all<;>omega)
def axx(op:Int)(t o:aC)(kids:au)(j:Nat)(d:Int)(hj:j<kids.length)(hl:kids.length<=400)(hc:Cnt 14 op o kids.length)(h:M.aF 14 op t o kids (j:Int) d=some true):iZ (cls 14 op kids.length j) d:=by
 have hw:i64.wrap ((kids.length:Int) - 1)=(kids.length:Int) - 1:=aJ (by omega) (by omega);simp only[M.aF,M.aO,bC,bD,bF,aU,aW,aN,Int.reduceBEq,Int.reduceLE,Int.reduceLT,Int.reduceSub,Int.reduceAdd,aY,ah] at h
 try rw[hw] at h
 simp[cls,iZ,mD,Ar,F6,isIt,Bool.cond_eq_ite] at h⊢
 all_goals first|omega|((repeat' split at h)<;>simp_all<;>omega)
def axy(op:Int)(t o:aC)(kids:au)(j:Nat)(d:Int)(hj:j<kids.length)(hl:kids.length<=400)(hc:Cnt 15 op o kids.length)(h:M.aF 15 op t o kids (j:Int) d=some true):iZ (cls 15 op kids.length j) d:=by
 have hw:i64.wrap ((kids.length:Int) - 1)=(kids.length:Int) - 1:=aJ (by omega) (by omega);simp only[M.aF,M.aO,bC,bD,bF,aU,aW,aN,Int.reduceBEq,Int.reduceLE,Int.reduceLT,Int.reduceSub,Int.reduceAdd,aY,ah] at h
 try rw[hw] at h
 have hn:=hc.two (by omega);obtain rfl|rfl:j=0∨j=1:=by omega
 all_goals(simp[cls,iZ,mD,Ar,F6,isIt,Bool.cond_eq_ite] at h⊢<;>first|omega|(repeat' split at h)<;>simp_all<;>omega)
def axz(op:Int)(t o:aC)(kids:au)(j:Nat)(d:Int)(hj:j<kids.length)(hl:kids.length<=400)(hc:Cnt 16 op o kids.length)(h:M.aF 16 op t o kids (j:Int) d=some true):iZ (cls 16 op kids.length j) d:=by
 have hw:i64.wrap ((kids.length:Int) - 1)=(kids.length:Int) - 1:=aJ (by omega) (by omega);simp only[M.aF,M.aO,bC,bD,bF,aU,aW,aN,Int.reduceBEq,Int.reduceLE,Int.reduceLT,Int.reduceSub,Int.reduceAdd,aY,ah] at h
 try rw[hw] at h
 have:=hc.non (by omega);omega
def axA(op:Int)(t o:aC)(kids:au)(j:Nat)(d:Int)(hj:j<kids.length)(hl:kids.length<=400)(hc:Cnt 20 op o kids.length)(h:M.aF 20 op t o kids (j:Int) d=some true):iZ (cls 20 op kids.length j) d:=by
 have hw:i64.wrap ((kids.length:Int) - 1)=(kids.length:Int) - 1:=aJ (by omega) (by omega);simp only[M.aF,M.aO,bC,bD,bF,aU,aW,aN,Int.reduceBEq,Int.reduceLE,Int.reduceLT,Int.reduceSub,Int.reduceAdd,aY,ah] at h
 try rw[hw] at h
 simp[cls,iZ,mD,Ar,F6,isIt,Bool.cond_eq_ite] at h⊢
 all_goals first|omega|((repeat' split at h)<;>simp_all<;>omega)
def axB(op:Int)(t o:aC)(kids:au)(j:Nat)(d:Int)(hj:j<kids.length)(hl:kids.length<=400)(hc:Cnt 21 op o kids.length)(h:M.aF 21 op t o kids (j:Int) d=some true):iZ (cls 21 op kids.length j) d:=by
 have hw:i64.wrap ((kids.length:Int) - 1)=(kids.length:Int) - 1:=aJ (by omega) (by omega);simp only[M.aF,M.aO,bC,bD,bF,aU,aW,aN,Int.reduceBEq,Int.reduceLE,Int.reduceLT,Int.reduceSub,Int.reduceAdd,aY,ah] at h
 try rw[hw] at h
 simp[cls,iZ,mD,Ar,F6,isIt,Bool.cond_eq_ite] at h⊢
 all_goals first|omega|((repeat' split at h)<;>simp_all<;>omega)
def axC(op:Int)(t o:aC)(kids:au)(j:Nat)(d:Int)(hj:j<kids.length)(hl:kids.length<=400)(hc:Cnt 22 op o kids.length)(h:M.aF 22 op t o kids (j:Int) d=some true):iZ (cls 22 op kids.length j) d:=by
 have hw:i64.wrap ((kids.length:Int) - 1)=(kids.length:Int) - 1:=aJ (by omega) (by omega);simp only[M.aF,M.aO,bC,bD,bF,aU,aW,aN,Int.reduceBEq,Int.reduceLE,Int.reduceLT,Int.reduceSub,Int.reduceAdd,aY,ah] at h
 try rw[hw] at h
 have:=hc.non (by omega);omega
def axD(op:Int)(t o:aC)(kids:au)(j:Nat)(d:Int)(hj:j<kids.length)(hl:kids.length<=400)(hc:Cnt 23 op o kids.length)(h:M.aF 23 op t o kids (j:Int) d=some true):iZ (cls 23 op kids.length j) d:=by
 have hw:i64.wrap ((kids.length:Int) - 1)=(kids.length:Int) - 1:=aJ (by omega) (by omega);simp only[M.aF,M.aO,bC,bD,bF,aU,aW,aN,Int.reduceBEq,Int.reduceLE,Int.reduceLT,Int.reduceSub,Int.reduceAdd,aY,ah] at h
 try rw[hw] at h
 simp[cls,iZ,mD,Ar,F6,isIt,Bool.cond_eq_ite] at h⊢
 all_goals first|omega|((repeat' split at h)<;>simp_all<;>omega)
def axE(op:Int)(t o:aC)(kids:au)(j:Nat)(d:Int)(hj:j<kids.length)(hl:kids.length<=400)(hc:Cnt 24 op o kids.length)(h:M.aF 24 op t o kids (j:Int) d=some true):iZ (cls 24 op kids.length j) d:=by
 have hw:i64.wrap ((kids.length:Int) - 1)=(kids.length:Int) - 1:=aJ (by omega) (by omega);simp only[M.aF,M.aO,bC,bD,bF,aU,aW,aN,Int.reduceBEq,Int.reduceLE,Int.reduceLT,Int.reduceSub,Int.reduceAdd,aY,ah] at h
 try rw[hw] at h
 simp[cls,iZ,mD,Ar,F6,isIt,Bool.cond_eq_ite] at h⊢
 all_goals first|omega|((repeat' split at h)<;>simp_all<;>omega)
def axF(op:Int)(t o:aC)(kids:au)(j:Nat)(d:Int)(hj:j<kids.length)(hl:kids.length<=400)(hc:Cnt 25 op o kids.length)(h:M.aF 25 op t o kids (j:Int) d=some true):iZ (cls 25 op kids.length j) d:=by
 have hw:i64.wrap ((kids.length:Int) - 1)=(kids.length:Int) - 1:=aJ (by omega) (by omega);simp only[M.aF,M.aO,bC,bD,bF,aU,aW,aN,Int.reduceBEq,Int.reduceLE,Int.reduceLT,Int.reduceSub,Int.reduceAdd,aY,ah] at h
 try rw[hw] at h
 have:=hc.non (by omega);omega
def axG(op:Int)(t o:aC)(kids:au)(j:Nat)(d:Int)(hj:j<kids.length)(hl:kids.length<=400)(hc:Cnt 26 op o kids.length)(h:M.aF 26 op t o kids (j:Int) d=some true):iZ (cls 26 op kids.length j) d:=by
 have hw:i64.wrap ((kids.length:Int) - 1)=(kids.length:Int) - 1:=aJ (by omega) (by omega);simp only[M.aF,M.aO,bC,bD,bF,aU,aW,aN,Int.reduceBEq,Int.reduceLE,Int.reduceLT,Int.reduceSub,Int.reduceAdd,aY,ah] at h
 try rw[hw] at h
 have:=hc.non (by omega);omega
def axH(op:Int)(t o:aC)(kids:au)(j:Nat)(d:Int)(hj:j<kids.length)(hl:kids.length<=400)(hc:Cnt 27 op o kids.length)(h:M.aF 27 op t o kids (j:Int) d=some true):iZ (cls 27 op kids.length j) d:=by
 have hw:i64.wrap ((kids.length:Int) - 1)=(kids.length:Int) - 1:=aJ (by omega) (by omega);simp only[M.aF,M.aO,bC,bD,bF,aU,aW,aN,Int.reduceBEq,Int.reduceLE,Int.reduceLT,Int.reduceSub,Int.reduceAdd,aY,ah] at h
 try rw[hw] at h
 simp[cls,iZ,mD,Ar,F6,isIt,Bool.cond_eq_ite] at h⊢
 all_goals first|omega|((repeat' split at h)<;>simp_all<;>omega)
def axI(op:Int)(t o:aC)(kids:au)(j:Nat)(d:Int)(hj:j<kids.length)(hl:kids.length<=400)(hc:Cnt 28 op o kids.length)(h:M.aF 28 op t o kids (j:Int) d=some true):iZ (cls 28 op kids.length j) d:=by
 have hw:i64.wrap ((kids.length:Int) - 1)=(kids.length:Int) - 1:=aJ (by omega) (by omega);simp only[M.aF,M.aO,bC,bD,bF,aU,aW,aN,Int.reduceBEq,Int.reduceLE,Int.reduceLT,Int.reduceSub,Int.reduceAdd,aY,ah] at h
 try rw[hw] at h
 have hn:=hc.cnd (by omega);obtain rfl|rfl|rfl:j=0∨j=1∨j=2:=by omega
 all_goals(simp[cls,iZ,mD,Ar,F6,isIt,Bool.cond_eq_ite] at h⊢<;>first|omega|(repeat' split at h)<;>simp_all<;>omega)
def axJ(op:Int)(t o:aC)(kids:au)(j:Nat)(d:Int)(hj:j<kids.length)(hl:kids.length<=400)(hc:Cnt 29 op o kids.length)(h:M.aF 29 op t o kids (j:Int) d=some true):iZ (cls 29 op kids.length j) d:=by
 have hw:i64.wrap ((kids.length:Int) - 1)=(kids.length:Int) - 1:=aJ (by omega) (by omega);simp only[M.aF,M.aO,bC,bD,bF,aU,aW,aN,Int.reduceBEq,Int.reduceLE,Int.reduceLT,Int.reduceSub,Int.reduceAdd,aY,ah] at h
 try rw[hw] at h
 have hn:=hc.two (by omega);obtain rfl|rfl:j=0∨j=1:=by omega
 all_goals(simp[cls,iZ,mD,Ar,F6,isIt,Bool.cond_eq_ite] at h⊢<;>first|omega|(repeat' split at h)<;>simp_all<;>omega)
def axK(op:Int)(t o:aC)(kids:au)(j:Nat)(d:Int)(hj:j<kids.length)(hl:kids.length<=400)(hc:Cnt 30 op o kids.length)(h:M.aF 30 op t o kids (j:Int) d=some true):iZ (cls 30 op kids.length j) d:=by
 have hw:i64.wrap ((kids.length:Int) - 1)=(kids.length:Int) - 1:=aJ (by omega) (by omega);simp only[M.aF,M.aO,bC,bD,bF,aU,aW,aN,Int.reduceBEq,Int.reduceLE,Int.reduceLT,Int.reduceSub,Int.reduceAdd,aY,ah] at h
 try rw[hw] at h
 have hn:=hc.two (by omega);obtain rfl|rfl:j=0∨j=1:=by omega
 all_goals(simp[cls,iZ,mD,Ar,F6,isIt,Bool.cond_eq_ite] at h⊢<;>first|omega|(repeat' split at h)<;>simp_all<;>omega)
def axL(op:Int)(t o:aC)(kids:au)(j:Nat)(d:Int)(hj:j<kids.length)(hl:kids.length<=400)(hc:Cnt 31 op o kids.length)(h:M.aF 31 op t o kids (j:Int) d=some true):iZ (cls 31 op kids.length j) d:=by
 have hw:i64.wrap ((kids.length:Int) - 1)=(kids.length:Int) - 1:=aJ (by omega) (by omega);simp only[M.aF,M.aO,bC,bD,bF,aU,aW,aN,Int.reduceBEq,Int.reduceLE,Int.reduceLT,Int.reduceSub,Int.reduceAdd,aY,ah] at h
 try rw[hw] at h
 have hn:=hc.four (by omega);obtain rfl|rfl|rfl|rfl:j=0∨j=1∨j=2∨j=3:=by omega
 all_goals(simp[cls,iZ,mD,Ar,F6,isIt,Bool.cond_eq_ite] at h⊢<;>first|omega|(repeat' split at h)<;>simp_all<;>omega)
def axM(op:Int)(t o:aC)(kids:au)(j:Nat)(d:Int)(hj:j<kids.length)(hl:kids.length<=400)(hc:Cnt 32 op o kids.length)(h:M.aF 32 op t o kids (j:Int) d=some true):iZ (cls 32 op kids.length j) d:=by
 have hw:i64.wrap ((kids.length:Int) - 1)=(kids.length:Int) - 1:=aJ (by omega) (by omega);simp only[M.aF,M.aO,bC,bD,bF,aU,aW,aN,Int.reduceBEq,Int.reduceLE,Int.reduceLT,Int.reduceSub,Int.reduceAdd,aY,ah] at h
 try rw[hw] at h
 simp[cls,iZ,mD,Ar,F6,isIt,Bool.cond_eq_ite] at h⊢
 all_goals first|omega|((repeat' split at h)<;>simp_all<;>omega)
def axN(op:Int)(t o:aC)(kids:au)(j:Nat)(d:Int)(hj:j<kids.length)(hl:kids.length<=400)(hc:Cnt 33 op o kids.length)(h:M.aF 33 op t o kids (j:Int) d=some true):iZ (cls 33 op kids.length j) d:=by
 have hw:i64.wrap ((kids.length:Int) - 1)=(kids.length:Int) - 1:=aJ (by omega) (by omega);simp only[M.aF,M.aO,bC,bD,bF,aU,aW,aN,Int.reduceBEq,Int.reduceLE,Int.reduceLT,Int.reduceSub,Int.reduceAdd,aY,ah] at h
 try rw[hw] at h
 simp[cls,iZ,mD,Ar,F6,isIt,Bool.cond_eq_ite] at h⊢
 all_goals first|omega|((repeat' split at h)<;>simp_all<;>omega)
def axO(op:Int)(t o:aC)(kids:au)(j:Nat)(d:Int)(hj:j<kids.length)(hl:kids.length<=400)(hc:Cnt 34 op o kids.length)(h:M.aF 34 op t o kids (j:Int) d=some true):iZ (cls 34 op kids.length j) d:=by
 have hw:i64.wrap ((kids.length:Int) - 1)=(kids.length:Int) - 1:=aJ (by omega) (by omega);simp only[M.aF,M.aO,bC,bD,bF,aU,aW,aN,Int.reduceBEq,Int.reduceLE,Int.reduceLT,Int.reduceSub,Int.reduceAdd,aY,ah] at h
 try rw[hw] at h
 have:=hc.non (by omega);omega
def axP(op:Int)(t o:aC)(kids:au)(j:Nat)(d:Int)(hj:j<kids.length)(hl:kids.length<=400)(hc:Cnt 40 op o kids.length)(h:M.aF 40 op t o kids (j:Int) d=some true):iZ (cls 40 op kids.length j) d:=by
 have hw:i64.wrap ((kids.length:Int) - 1)=(kids.length:Int) - 1:=aJ (by omega) (by omega);simp only[M.aF,M.aO,bC,bD,bF,aU,aW,aN,Int.reduceBEq,Int.reduceLE,Int.reduceLT,Int.reduceSub,Int.reduceAdd,aY,ah] at h
 try rw[hw] at h
 simp[cls,iZ,mD,Ar,F6,isIt,Bool.cond_eq_ite] at h⊢
 all_goals first|omega|((repeat' split at h)<;>simp_all<;>omega)
def axQ(op:Int)(t o:aC)(kids:au)(j:Nat)(d:Int)(hj:j<kids.length)(hl:kids.length<=400)(hc:Cnt 41 op o kids.length)(h:M.aF 41 op t o kids (j:Int) d=some true):iZ (cls 41 op kids.length j) d:=by
 have hw:i64.wrap ((kids.length:Int) - 1)=(kids.length:Int) - 1:=aJ (by omega) (by omega);simp only[M.aF,M.aO,bC,bD,bF,aU,aW,aN,Int.reduceBEq,Int.reduceLE,Int.reduceLT,Int.reduceSub,Int.reduceAdd,aY,ah] at h
 try rw[hw] at h
 simp[cls,iZ,mD,Ar,F6,isIt,Bool.cond_eq_ite] at h⊢
 all_goals first|omega|((repeat' split at h)<;>simp_all<;>omega)
def axR(op:Int)(t o:aC)(kids:au)(j:Nat)(d:Int)(hj:j<kids.length)(hl:kids.length<=400)(hc:Cnt 42 op o kids.length)(h:M.aF 42 op t o kids (j:Int) d=some true):iZ (cls 42 op kids.length j) d:=by
 have hw:i64.wrap ((kids.length:Int) - 1)=(kids.length:Int) - 1:=aJ (by omega) (by omega);simp only[M.aF,M.aO,bC,bD,bF,aU,aW,aN,Int.reduceBEq,Int.reduceLE,Int.reduceLT,Int.reduceSub,Int.reduceAdd,aY,ah] at h
 try rw[hw] at h
 rcases hc.rule rfl with⟨rfl,h1⟩|⟨rfl,h1⟩|⟨rfl,h1⟩
 ·obtain rfl:j=0:=by omega
  all_goals(simp[cls,iZ,mD,Ar,F6,isIt,Bool.cond_eq_ite,h1] at h⊢<;>first|omega|(repeat' split at h)<;>simp_all<;>omega)
 ·obtain rfl:j=0:=by omega
  all_goals(simp[cls,iZ,mD,Ar,F6,isIt,Bool.cond_eq_ite,h1] at h⊢<;>first|omega|(repeat' split at h)<;>simp_all<;>omega)
 ·obtain rfl|rfl:j=0∨j=1:=by omega
  all_goals(simp[cls,iZ,mD,Ar,F6,isIt,Bool.cond_eq_ite,h1] at h⊢<;>first|omega|(repeat' split at h)<;>simp_all<;>omega)
def axS(op:Int)(t o:aC)(kids:au)(j:Nat)(d:Int)(hj:j<kids.length)(hl:kids.length<=400)(hc:Cnt 43 op o kids.length)(h:M.aF 43 op t o kids (j:Int) d=some true):iZ (cls 43 op kids.length j) d:=by
 have hw:i64.wrap ((kids.length:Int) - 1)=(kids.length:Int) - 1:=aJ (by omega) (by omega);simp only[M.aF,M.aO,bC,bD,bF,aU,aW,aN,Int.reduceBEq,Int.reduceLE,Int.reduceLT,Int.reduceSub,Int.reduceAdd,aY,ah] at h
 try rw[hw] at h
 rcases hc.range rfl with⟨rfl,h1⟩|⟨rfl,h1⟩
 ·obtain rfl|rfl:j=0∨j=1:=by omega
  all_goals(simp[cls,iZ,mD,Ar,F6,isIt,Bool.cond_eq_ite,h1] at h⊢<;>first|omega|(repeat' split at h)<;>simp_all<;>omega)
 ·obtain rfl|rfl|rfl:j=0∨j=1∨j=2:=by omega
  all_goals(simp[cls,iZ,mD,Ar,F6,isIt,Bool.cond_eq_ite,h1] at h⊢<;>first|omega|(repeat' split at h)<;>simp_all<;>omega)
def axT(op:Int)(t o:aC)(kids:au)(j:Nat)(d:Int)(hj:j<kids.length)(hl:kids.length<=400)(hc:Cnt 44 op o kids.length)(h:M.aF 44 op t o kids (j:Int) d=some true):iZ (cls 44 op kids.length j) d:=by
 have hw:i64.wrap ((kids.length:Int) - 1)=(kids.length:Int) - 1:=aJ (by omega) (by omega);simp only[M.aF,M.aO,bC,bD,bF,aU,aW,aN,Int.reduceBEq,Int.reduceLE,Int.reduceLT,Int.reduceSub,Int.reduceAdd,aY,ah] at h
 try rw[hw] at h
 by_cases h1:j+1=kids.length
 ·have e:((j:Int)==(kids.length:Int) - 1)=true:=by rw[beq_iff_eq];omega
  rw[e] at h;simp[cls,iZ,h1,Bool.cond_eq_ite] at h⊢
  first|omega|skip
 ·have e:((j:Int)==(kids.length:Int) - 1)=false:=by rw[VZ];omega
  rw[e] at h;simp[cls,iZ,h1,Bool.cond_eq_ite] at h⊢
  first|omega|skip
def axU(op:Int)(t o:aC)(kids:au)(j:Nat)(d:Int)(hj:j<kids.length)(hl:kids.length<=400)(hc:Cnt 45 op o kids.length)(h:M.aF 45 op t o kids (j:Int) d=some true):iZ (cls 45 op kids.length j) d:=by
 have hw:i64.wrap ((kids.length:Int) - 1)=(kids.length:Int) - 1:=aJ (by omega) (by omega);simp only[M.aF,M.aO,bC,bD,bF,aU,aW,aN,Int.reduceBEq,Int.reduceLE,Int.reduceLT,Int.reduceSub,Int.reduceAdd,aY,ah] at h
 try rw[hw] at h
 simp[cls,iZ,mD,Ar,F6,isIt,Bool.cond_eq_ite] at h⊢
 all_goals first|omega|((repeat' split at h)<;>simp_all<;>omega)
def ai1{k op:Int}{t o:aC}{kids:au}(h:M.ay k op t o kids=some true):Yg k:=by
 by_cases hk:Yg k
 ·exact hk
 ·exfalso;have e1:(decide (k>=1) && decide (k<=16))=false:=by
   cases hq:(decide (k>=1) && decide (k<=16)) with
   |false=>rfl
   |true=>rw[GH,decide_eq_true_eq,decide_eq_true_eq] at hq;exact absurd (Or.inl hq) hk
  have e2:(decide (k>=20) && decide (k<=34))=false:=by
   cases hq:(decide (k>=20) && decide (k<=34)) with
   |false=>rfl
   |true=>rw[GH,decide_eq_true_eq,decide_eq_true_eq] at hq;exact absurd (Or.inr (Or.inl hq)) hk
  have e3:(decide (k>=40) && decide (k<=45))=false:=by
   cases hq:(decide (k>=40) && decide (k<=45)) with
   |false=>rfl
   |true=>rw[GH,decide_eq_true_eq,decide_eq_true_eq] at hq;exact absurd (Or.inr (Or.inr hq)) hk
  simp only[M.ay,M.aB,aW,e1,e2,e3,ah,dO] at h;cases hm:M.aP k op t o kids with
  |none=>rw[hm] at h;cases h
  |some r=>rw[hm,ah] at h;cases h
def axV{k op:Int}{t o:aC}{kids:au}(h:M.ay k op t o kids=some true):Cnt k op o kids.length:=by
 have hk:k=1∨k=2∨k=3∨k=4∨k=5∨k=6∨k=7∨k=8∨k=9∨k=10∨k=11∨k=12∨k=13∨k=14∨k=15∨k=16∨k=20∨k=21∨k=22∨k=23∨k=24∨k=25∨k=26∨k=27∨k=28∨k=29∨k=30∨k=31∨k=32∨k=33∨k=34∨k=40∨k=41∨k=42∨k=43∨k=44∨k=45:=by have:=ai1 h;unfold Yg at this;omega
 rcases hk with rfl|rfl|rfl|rfl|rfl|rfl|rfl|rfl|rfl|rfl|rfl|rfl|rfl|rfl|rfl|rfl|rfl|rfl|rfl|rfl|rfl|rfl|rfl|rfl|rfl|rfl|rfl|rfl|rfl|rfl|rfl|rfl|rfl|rfl|rfl|rfl|rfl
 ·exact aMP _ _ _ _ h
 ·exact aMQ _ _ _ _ h
 ·exact aMR _ _ _ _ h
 ·exact aMS _ _ _ _ h
 ·exact aMT _ _ _ _ h
 ·exact aMU _ _ _ _ h
 ·exact aMV _ _ _ _ h
 ·exact aMW _ _ _ _ h
 ·exact aMX _ _ _ _ h
 ·exact awZ _ _ _ _ h
 ·exact aw0 _ _ _ _ h
 ·exact aw1 _ _ _ _ h
 ·exact aw2 _ _ _ _ h
 ·exact aw3 _ _ _ _ h
 ·exact aw4 _ _ _ _ h
 ·exact aw5 _ _ _ _ h
 ·exact aw6 _ _ _ _ h
 ·exact aw7 _ _ _ _ h
 ·exact aw8 _ _ _ _ h
 ·exact aw9 _ _ _ _ h
 ·exact axa _ _ _ _ h
 ·exact axb _ _ _ _ h
 ·exact axc _ _ _ _ h
 ·exact axd _ _ _ _ h
 ·exact axe _ _ _ _ h
 ·exact axf _ _ _ _ h
 ·exact axg _ _ _ _ h
 ·exact axh _ _ _ _ h
 ·exact axi _ _ _ _ h
 ·exact axj _ _ _ _ h
 ·exact axk _ _ _ _ h
 ·exact axl _ _ _ _ h
 ·exact axn _ _ _ _ h
 ·exact axo _ _ _ _ h
 ·exact axp _ _ _ _ h
 ·exact axq _ _ _ _ h
 ·exact axr _ _ _ _ h
def axW{k op:Int}{t o:aC}{kids:au}{j:Nat}{d:Int}(hk:Yg k)(hj:j<kids.length)(hl:kids.length<=400)(hc:Cnt k op o kids.length)(h:M.aF k op t o kids (j:Int) d=some true):iZ (cls k op kids.length j) d:=by
 have hk:k=1∨k=2∨k=3∨k=4∨k=5∨k=6∨k=7∨k=8∨k=9∨k=10∨k=11∨k=12∨k=13∨k=14∨k=15∨k=16∨k=20∨k=21∨k=22∨k=23∨k=24∨k=25∨k=26∨k=27∨k=28∨k=29∨k=30∨k=31∨k=32∨k=33∨k=34∨k=40∨k=41∨k=42∨k=43∨k=44∨k=45:=by unfold Yg at hk;omega
 rcases hk with rfl|rfl|rfl|rfl|rfl|rfl|rfl|rfl|rfl|rfl|rfl|rfl|rfl|rfl|rfl|rfl|rfl|rfl|rfl|rfl|rfl|rfl|rfl|rfl|rfl|rfl|rfl|rfl|rfl|rfl|rfl|rfl|rfl|rfl|rfl|rfl|rfl
 ·exact aMY _ _ _ _ _ _ hj hl hc h
 ·exact aMZ _ _ _ _ _ _ hj hl hc h
 ·exact aM0 _ _ _ _ _ _ hj hl hc h
 ·exact aM1 _ _ _ _ _ _ hj hl hc h
 ·exact aM2 _ _ _ _ _ _ hj hl hc h
 ·exact aM3 _ _ _ _ _ _ hj hl hc h
 ·exact aM4 _ _ _ _ _ _ hj hl hc h
 ·exact aM5 _ _ _ _ _ _ hj hl hc h
 ·exact aM6 _ _ _ _ _ _ hj hl hc h
 ·exact axt _ _ _ _ _ _ hj hl hc h
 ·exact axu _ _ _ _ _ _ hj hl hc h
 ·exact axv _ _ _ _ _ _ hj hl hc h
 ·exact axw _ _ _ _ _ _ hj hl hc h
 ·exact axx _ _ _ _ _ _ hj hl hc h
 ·exact axy _ _ _ _ _ _ hj hl hc h
 ·exact axz _ _ _ _ _ _ hj hl hc h
 ·exact axA _ _ _ _ _ _ hj hl hc h
 ·exact axB _ _ _ _ _ _ hj hl hc h
 ·exact axC _ _ _ _ _ _ hj hl hc h
 ·exact axD _ _ _ _ _ _ hj hl hc h
 ·exact axE _ _ _ _ _ _ hj hl hc h
 ·exact axF _ _ _ _ _ _ hj hl hc h
 ·exact axG _ _ _ _ _ _ hj hl hc h
 ·exact axH _ _ _ _ _ _ hj hl hc h
 ·exact axI _ _ _ _ _ _ hj hl hc h
 ·exact axJ _ _ _ _ _ _ hj hl hc h
 ·exact axK _ _ _ _ _ _ hj hl hc h
 ·exact axL _ _ _ _ _ _ hj hl hc h
 ·exact axM _ _ _ _ _ _ hj hl hc h
 ·exact axN _ _ _ _ _ _ hj hl hc h
 ·exact axO _ _ _ _ _ _ hj hl hc h
 ·exact axP _ _ _ _ _ _ hj hl hc h
 ·exact axQ _ _ _ _ _ _ hj hl hc h
 ·exact axR _ _ _ _ _ _ hj hl hc h
 ·exact axS _ _ _ _ _ _ hj hl hc h
 ·exact axT _ _ _ _ _ _ hj hl hc h
 ·exact axU _ _ _ _ _ _ hj hl hc h
def acA{α:Type}{p:Nat->α->Bool}:∀{l:List α} {i j:Nat} {x:α},Rt p l i=true->l[j]? =some x->p (i+j) x=true
 |[],_,j,_,_,h=>by simp at h
 |y::l,i,0,x,h,e=>by rw[Rt,GH] at h;cases e;exact h.1
 |y::l,i,j+1,x,h,e=>by
  rw[Rt,GH] at h;rw[List.getElem?_cons_succ] at e;have:=acA h.2 e
  rwa [show i+1+j=i+(j+1) by omega] at this
def ap0{k op:Int}{n:Nat}:∀{ks:List Tn} {j:Nat},(∀i t,ks[i]? =some t->iZ (cls k op n (j+i)) t.kind∧CJ t)->oks k op n ks j
 |[],_,_=>by rw[oks];trivial
 |t::ts,j,h=>by
  rw[oks];have h0:=h 0 t rfl;refine⟨h0.1,h0.2,ap0 λi u hu=> ?_⟩;have:=h (i+1) u (by rw[List.getElem?_cons_succ];exact hu)
  rwa [show j+(i+1)=j+1+i by omega] at this
def asr{l:List Nd}(hall:Rt (np l) l 0=true)(hsm:∀n,n∈l->Small n)(hkl:∀n,n∈l->n.kids.length<=400)(t:Tn):∀b,Lies l b t->CJ t:=by
 refine Tn.ind (P:=λt=>∀b,Lies l b t->CJ t) ?_ t;intro k op x y ks ih b h;have hr:=h.root;have hm:=Au hr;have hn:=acA hall hr;unfold np at hn;rw[GH] at hn;have hf:=(afC (hsm _ hm) (hkl _ hm)).1;rw[hn.1] at hf;have hc:=axV hf;rw[dh,gu] at hc;have hkn:=ai1 hf;rw[CJ];refine⟨hkn,hc,ap0 λi u hu=>⟨?_,ih u (Au hu) _ (Lies.QW h hu)⟩⟩;have he:=afF (b:=b) hu;have hlt:=(MG.1 hu).1;have hk:=acA hn.2 he;have hroot:=Lies.root' (Lies.QW h hu);unfold kp at hk;rw[Yq] at hk;have hnd:(Un l (b+sizes (ks.take i)+sizes u.kids)).kind=u.kind:=by rw[Un,hroot]
 rw[hnd] at hk;have hko:=(ajZ (hsm _ hm) (hkl _ hm) hn.1 (0+i) (by rw[gu];omega) u.kind).1;rw[hk] at hko;have:=axW (j:=0+i) hkn (by rw[dh,gu];omega) (by rw[dh];exact hkl _ hm) (by rw[dh,gu];exact hc) hko;rw[dh,gu] at this;exact this
def aj8{t:Tn}(h:QV (t.flat 0)=true)(hsm:∀n,n∈t.flat 0->Small n):CJ t:=by unfold QV at h;rw[GH,GH] at h;obtain⟨r,hv⟩:=afA h.1;exact asr h.2.2 hsm hv.acg t 0 (Lies.whole t)
noncomputable def mkNode(k:Int)(n:Nd):Nd:=⟨k,k+1,mk (k+2),mk (k+3),zl (k+4) n.kids.length⟩
def wK:List Nd->Nat
 |[]=>0
 |n::l=>4+n.kids.length+wK l
def Yj:∀a b:List Nd,wK (a++b)=wK a+wK b
 |[],b=>by simp[wK]
 |n::a,b=>by rw[Ru,wK,wK,Yj a b];omega
noncomputable def wM(k:Int):List Nd->List Nd
 |[]=>[]
 |n::l=>mkNode k n::wM (k+4+n.kids.length) l
def Tt(k:Int)(l:List Nd):(wM k l).length=l.length:=by
 induction l generalizing k with
 |nil=>rfl
 |cons n l ih=>rw[wM,mZ,ih,mZ]
def acB(k:Int)(a b:List Nd):wM k (a++b)=wM k a++wM (k+wK a) b:=by
 induction a generalizing k with
 |nil=>simp[wM,wK]
 |cons n a ih=>
  have e:k+4+(n.kids.length:Int)+(wK a:Int)=k+(wK (n::a):Int):=by rw[wK];omega
  rw[Ru,wM,wM,ih,e,Ru]
def aj9{l:List Nd}{i:Nat}{n:Nd}(h:l[i]? =some n):wK (l.take i)+4+n.kids.length<=wK l:=by
 obtain⟨hi,rfl⟩:=MG.1 h;have e:l=l.take i++l[i]::l.drop (i+1):=by rw[<-List.drop_eq_getElem_cons hi,List.take_append_drop]
 have:=congrArg wK e;rw[Yj,wK] at this;omega
def ap1:∀l:List Nd,l.length<=wK l
 |[]=>Nat.le_refl _
 |n::l=>by have:=ap1 l;rw[wK,mZ];omega
def asu{l:List Nd}{i:Nat}{n:Nd}(h:l[i]? =some n):wK (l.take (i+1))=wK (l.take i)+(4+n.kids.length):=by rw[List.take_add_one,h,Yj];rfl
def afI(k:Int)(l:List Nd)(h0:0<=k)(h1:k+wK l<=900000000):M.sS k (dF true l)=some (k+wK l,dF true (wM k l)):=by
 simp only[M.sS,M.FW];have hwl:=ap1 l;have hloop:=iV (b:=M.zA) (t:=(k+wK l,(l.length:Int),dF true (wM k l))) (λi=>(k+wK (l.take i),(i:Int),dF true (wM k (l.take i))++dF true (l.drop i))) l.length
  (by
   intro i hi;obtain⟨n,hn⟩:∃n,l[i]? =some n:=⟨l[i],by simp[hi]⟩
   have hd:l.drop i=n::l.drop (i+1):=by rw[List.drop_eq_getElem_cons hi];rw[List.getElem?_eq_getElem hi] at hn;rw[Option.some.inj hn]
   have hla:(dF true (wM k (l.take i))).length=i:=by rw[iE,Tt,PE];omega
   have hw:=aj9 hn;generalize hK:k+(wK (l.take i):Int)=K;have w1:i64.wrap (K+1)=K+1:=aJ (by omega) (by omega);have w2:i64.wrap (K+1+1)=K+2:=(aJ (by omega) (by omega)).trans (by omega);have w3:i64.wrap (K+2+1)=K+3:=(aJ (by omega) (by omega)).trans (by omega);have w4:i64.wrap (K+3+1)=K+4:=(aJ (by omega) (by omega)).trans (by omega);have hm:=Zd (K+4) n.kids (by omega) (by omega) (by omega);have hlen:decide ((i:Int)<((dF true (wM k (l.take i))++MN true n::dF true (l.drop (i+1))).length:Int))=true:=zdt (by rw[uq,hla,mZ];omega);have he:dF true (n::l.drop (i+1))=MN true n::dF true (l.drop (i+1)):=rfl;have s0:splice (MN true n) 0 [D.int .i64 K]=[.int .i64 K,.int .i64 n.op,.str n.text,.str n.other,.sl true 1 (encI n.kids)]:=rfl;have s1:splice [D.int .i64 K,.int .i64 n.op,.str n.text,.str n.other,.sl true 1 (encI n.kids)] 1 [D.int .i64 (K+1)]=[.int .i64 K,.int .i64 (K+1),.str n.text,.str n.other,.sl true 1 (encI n.kids)]:=rfl;have s2:splice [D.int .i64 K,.int .i64 (K+1),.str n.text,.str n.other,.sl true 1 (encI n.kids)] 2 [D.str (mk (K+2))]=[.int .i64 K,.int .i64 (K+1),.str (mk (K+2)),.str n.other,.sl true 1 (encI n.kids)]:=rfl;have s3:splice [D.int .i64 K,.int .i64 (K+1),.str (mk (K+2)),.str n.other,.sl true 1 (encI n.kids)] 3 [D.str (mk (K+3))]=[.int .i64 K,.int .i64 (K+1),.str (mk (K+2)),.str (mk (K+3)),.sl true 1 (encI n.kids)]:=rfl;have s4:∀r,splice [D.int .i64 K,.int .i64 (K+1),.str (mk (K+2)),.str (mk (K+3)),.sl true 1 (encI n.kids)] 4 [D.sl true 1 r]=[.int .i64 K,.int .i64 (K+1),.str (mk (K+2)),.str (mk (K+3)),.sl true 1 r]:=λ_=>rfl
   have c4:aeN 1 [D.int .i64 K,.int .i64 (K+1),.str (mk (K+2)),.str (mk (K+3)),.sl true 1 (encI n.kids)] 4=some (encI n.kids):=rfl;have hb:(Nat.beq 1 1 &&(true==true &&(true && true)))=true:=rfl;simp only[hd,M.zA,M.uI,hlen,cO,he,apY _ _ _ hla,Yq,apZ _ _ _ hla,at_set _ _ _ _ hla,ah,s0,s1,s2,s3,s4,c4,w1,w2,w3,w4,O9 (K+2) (by omega),O9 (K+3) (by omega),Ja,aeu,hm,hb];rw[aJ (by omega) (by omega),asu hn,List.take_add_one,hn,Option.toList_some,acB,afD];have e2:wM (k+(wK (l.take i):Int)) [n]=[mkNode K n]:=by rw[hK];rfl
   have e3:dF true [mkNode K n]=[[D.int .i64 K,.int .i64 (K+1),.str (mk (K+2)),.str (mk (K+3)),.sl true 1 (encI (zl (K+4) n.kids.length))]]:=rfl;rw[e2,e3,Gp];congr 3;omega)
  (by simp only[M.zA,M.uI,List.take_length,List.drop_length];have hlen:decide ((l.length:Int)<((dF true (wM k l)++dF true []).length:Int))=false:=uw (by rw[uq,iE,Tt];simp[dF]);rw[hlen,dO];simp[dF]) 0 (Nat.zero_le _)
 have e0:dF true (wM k (l.take 0))++dF true (l.drop 0)=dF true l:=by simp[wM,dF]
 have e1:k+(wK (l.take 0):Int)=k:=by simp[wK]
 rw[e0,e1,qP] at hloop;rw[M.D5,hloop,ah]
structure Ok(l:List Nd):Prop where
 len:l.length<=1048576
 kids:∀n,n∈l->n.kids.length<=1048576∧∀e,e∈n.kids->I64 e
 sm:∀n,n∈l->Small n
 w:wK l<=10000000
def Ok.k{l:List Nd}(h:Ok l):∀n,n∈l->n.kids.length<=1048576:=λn hn=>by have:=(h.kids n hn).1;omega
def afJ{l:List Nd}(h:QV l=true):Eo l=true:=by unfold QV at h;rw[GH] at h;exact h.1
def aM7{l:List Nd}(hs:(l.length+wNs l:Int)<=1048576)(hf:∀n,n∈l->Fit n)(hl:l.length<=1048576)(hk:∀n,n∈l->n.kids.length<=1048576):Ok l:=by
 have hw:∀l:List Nd,wK l<=4 * l.length+wNs l:=by
  intro l;induction l with
  |nil=>exact Nat.le_refl _
  |cons n l ih=>rw[wK,wNs,wN,mZ];omega
 have:=hw l;exact⟨hl,λn hn=>⟨hk n hn,(hf n hn).kid⟩,λn hn=>by have h1:=ak3 hn;have h2:wN n=n.text.length+n.other.length+n.kids.length:=rfl;exact⟨by omega,by omega⟩,by omega⟩
def Uo(o:Bool)(n:Nd):Row:=[.int .i64 n.kind,.int .i64 n.op,.str n.text,.sl o 1 (encI n.kids)]
def fD(o:Bool)(l:List Nd):au:=l.map (Uo o)
section
variable (o:Bool) (n:Nd) (l:List Nd) (i:Int)
@[simp] theorem lS:(fD o l).length=l.length:=by simp[fD]
@[simp] theorem aym:idx (fD o l) i=(idx l i).map (Uo o):=aan _ _ _
@[simp] theorem Qm(j:Nat):(fD o l)[j]? =(l[j]?).map (Uo o):=by simp[fD]
@[simp] theorem cD0:fB .i64 (Uo o n) 0=some n.kind:=rfl
@[simp] theorem cD1:fB .i64 (Uo o n) 1=some n.op:=rfl
@[simp] theorem cD2:cStr (Uo o n) 2=some n.text:=rfl
@[simp] theorem cD3:TL 1 (Uo o n) 3=some (encI n.kids):=rfl
@[simp] theorem acC:bM (fD o l)=fD false l:=by
 induction l with
 |nil=>rfl
 |cons x l ih=>simp only[fD,Ug,bM] at ih⊢;rw[ih];simp[Uo,sD,D.fz,akJ]
end
def afK(n:Nd)(hk:n.kids.length<=maxLen):M.xO n.kind n.op n.text (encI n.kids) n.kind n.op n.text (encI n.kids)=some true:=by simp only[M.xO,M.J6,bne_self_eq_false,dO,beq_self_eq_true,Bool.not_true];rw[Y9 _ hk];rfl
def adw(l:List Nd)(o o':Bool)(hl:l.length<=maxLen)(hk:∀n,n∈l->n.kids.length<=maxLen):M.pq (fD o l) (fD o' l)=some true:=by
 unfold maxLen at hl;simp only[M.pq,M.Ir,lS,bne_self_eq_false,dO];have hloop:=iV (b:=M.BR (fD o l) (fD o' l)) (t:=.inr ((l.length:Int))) (λi=>(i:Int)) l.length
  (by
   intro i hi;obtain⟨x,hx⟩:∃x,l[i]? =some x:=⟨l[i],by simp[hi]⟩
   simp only[M.BR,M.wE,lS,fQ,Qm,hx,Qq,ah,cD0,cD1,cD2,cD3,afK x (hk x (Au hx)),Bool.not_true,dO];rw[zdt (by omega),cO,aJ (by omega) (by omega)];simp)
  (by simp only[M.BR,M.wE,lS];rw[uw (by omega),dO]) 0 (Nat.zero_le _)
 have h0':((0:Nat):Int)=0:=rfl;rw[h0'] at hloop;rw[M.FU,hloop,ah];rfl
noncomputable def mkD(k:Int)(n:Nd):Nd:=⟨k,k+1,mk (k+2),[],zl (k+3) n.kids.length⟩
def wD:List Nd->Nat
 |[]=>0
 |n::l=>3+n.kids.length+wD l
def Qn:∀a b:List Nd,wD (a++b)=wD a+wD b
 |[],b=>by simp[wD]
 |n::a,b=>by rw[Ru,wD,wD,Qn a b];omega
noncomputable def Kw(k:Int):List Nd->List Nd
 |[]=>[]
 |n::l=>mkD k n::Kw (k+3+n.kids.length) l
def MR(k:Int)(l:List Nd):(Kw k l).length=l.length:=by
 induction l generalizing k with
 |nil=>rfl
 |cons n l ih=>rw[Kw,mZ,ih,mZ]
def Ze(k:Int)(a b:List Nd):Kw k (a++b)=Kw k a++Kw (k+wD a) b:=by
 induction a generalizing k with
 |nil=>simp[Kw,wD]
 |cons n a ih=>
  have e:k+3+(n.kids.length:Int)+(wD a:Int)=k+(wD (n::a):Int):=by rw[wD];omega
  rw[Ru,Kw,Kw,ih,e,Ru]
def ap2(k:Int){l:List Nd}{i:Nat}{n:Nd}(h:l[i]? =some n):(Kw k l)[i]? =some (mkD (k+wD (l.take i)) n):=by
 obtain⟨hi,rfl⟩:=MG.1 h;have e:l=l.take i++l[i]::l.drop (i+1):=by rw[<-List.drop_eq_getElem_cons hi,List.take_append_drop]
 have hl:(Kw k (l.take i)).length=i:=by rw[MR,PE];omega
 have h2:Kw k l=Kw k (l.take i)++Kw (k+wD (l.take i)) (l[i]::l.drop (i+1)):=by rw[<-Ze,<-e]
 rw[h2,List.getElem?_append_right (by omega),hl,Nat.sub_self,Kw];rfl
def F8(o:Bool)(a b:List Nd):fD o (a++b)=fD o a++fD o b:=by simp[fD]
def acD{l:List Nd}{i:Nat}{n:Nd}(h:l[i]? =some n):wD (l.take i)+3+n.kids.length<=wD l:=by
 obtain⟨hi,rfl⟩:=MG.1 h;have e:l=l.take i++l[i]::l.drop (i+1):=by rw[<-List.drop_eq_getElem_cons hi,List.take_append_drop]
 have:=congrArg wD e;rw[Qn,wD] at this;omega
def afL:∀l:List Nd,l.length<=wD l
 |[]=>Nat.le_refl _
 |n::l=>by have:=afL l;rw[wD,mZ];omega
def ak8{l:List Nd}{i:Nat}{n:Nd}(h:l[i]? =some n):wD (l.take (i+1))=wD (l.take i)+(3+n.kids.length):=by rw[List.take_add_one,h,Qn];rfl
def adx(k:Int)(l:List Nd)(h0:0<=k)(h1:k+wD l<=900000000):M.qJ k (fD true l)=some (k+wD l,fD true (Kw k l)):=by
 simp only[M.qJ,M.D6];have hwl:=afL l;have hloop:=iV (b:=M.yG) (t:=(k+wD l,(l.length:Int),fD true (Kw k l))) (λi=>(k+wD (l.take i),(i:Int),fD true (Kw k (l.take i))++fD true (l.drop i))) l.length
  (by
   intro i hi;obtain⟨n,hn⟩:∃n,l[i]? =some n:=⟨l[i],by simp[hi]⟩
   have hd:l.drop i=n::l.drop (i+1):=by rw[List.drop_eq_getElem_cons hi];rw[List.getElem?_eq_getElem hi] at hn;rw[Option.some.inj hn]
   have hla:(fD true (Kw k (l.take i))).length=i:=by rw[lS,MR,PE];omega
   have hw:=acD hn;generalize hK:k+(wD (l.take i):Int)=K;have w1:i64.wrap (K+1)=K+1:=aJ (by omega) (by omega);have w2:i64.wrap (K+1+1)=K+2:=(aJ (by omega) (by omega)).trans (by omega);have w3:i64.wrap (K+2+1)=K+3:=(aJ (by omega) (by omega)).trans (by omega);have hm:=Zd (K+3) n.kids (by omega) (by omega) (by omega);have hlen:decide ((i:Int)<((fD true (Kw k (l.take i))++Uo true n::fD true (l.drop (i+1))).length:Int))=true:=zdt (by rw[uq,hla,mZ];omega);have he:fD true (n::l.drop (i+1))=Uo true n::fD true (l.drop (i+1)):=rfl;have s0:splice (Uo true n) 0 [D.int .i64 K]=[.int .i64 K,.int .i64 n.op,.str n.text,.sl true 1 (encI n.kids)]:=rfl;have s1:splice [D.int .i64 K,.int .i64 n.op,.str n.text,.sl true 1 (encI n.kids)] 1 [D.int .i64 (K+1)]=[.int .i64 K,.int .i64 (K+1),.str n.text,.sl true 1 (encI n.kids)]:=rfl;have s2:splice [D.int .i64 K,.int .i64 (K+1),.str n.text,.sl true 1 (encI n.kids)] 2 [D.str (mk (K+2))]=[.int .i64 K,.int .i64 (K+1),.str (mk (K+2)),.sl true 1 (encI n.kids)]:=rfl;have s4:∀r,splice [D.int .i64 K,.int .i64 (K+1),.str (mk (K+2)),.sl true 1 (encI n.kids)] 3 [D.sl true 1 r]=[.int .i64 K,.int .i64 (K+1),.str (mk (K+2)),.sl true 1 r]:=λ_=>rfl
   have c4:aeN 1 [D.int .i64 K,.int .i64 (K+1),.str (mk (K+2)),.sl true 1 (encI n.kids)] 3=some (encI n.kids):=rfl;have hb:(Nat.beq 1 1 &&(true==true &&(true && true)))=true:=rfl;simp only[hd,M.yG,M.sW,hlen,cO,he,apY _ _ _ hla,Yq,apZ _ _ _ hla,at_set _ _ _ _ hla,ah,s0,s1,s2,s4,c4,w1,w2,w3,O9 (K+2) (by omega),Ja,aeu,hm,hb];rw[aJ (by omega) (by omega),ak8 hn,List.take_add_one,hn,Option.toList_some,Ze,F8];have e2:Kw (k+(wD (l.take i):Int)) [n]=[mkD K n]:=by rw[hK];rfl
   have e3:fD true [mkD K n]=[[D.int .i64 K,.int .i64 (K+1),.str (mk (K+2)),.sl true 1 (encI (zl (K+3) n.kids.length))]]:=rfl;rw[e2,e3,Gp];congr 3;omega)
  (by simp only[M.yG,M.sW,List.take_length,List.drop_length];have hlen:decide ((l.length:Int)<((fD true (Kw k l)++fD true []).length:Int))=false:=uw (by rw[uq,lS,MR];simp[fD]);rw[hlen,dO];simp[fD]) 0 (Nat.zero_le _)
 have e0:fD true (Kw k (l.take 0))++fD true (l.drop 0)=fD true l:=by simp[Kw,fD]
 have e1:k+(wD (l.take 0):Int)=k:=by simp[wD]
 rw[e0,e1,qP] at hloop;rw[M.BZ,hloop,ah]
def ady(k:Int)(l:List Nd)(h0:0<=k)(h1:k+wD l<=900000000):M.oC (bM (fD true (Kw k l))) k=some (k+wD l):=by
 simp only[M.oC,M.D7,acC];have hwl:=afL l;have hloop:=iV (b:=M.yH (fD false (Kw k l))) (t:=.inr (k+wD l,(l.length:Int))) (λi=>(k+wD (l.take i),(i:Int))) l.length
  (by
   intro i hi;obtain⟨n,hn⟩:∃n,l[i]? =some n:=⟨l[i],by simp[hi]⟩
   have hw:=acD hn;have hg:=ap2 k hn;generalize hK:k+(wD (l.take i):Int)=K at hg⊢;have w1:i64.wrap (K+1)=K+1:=aJ (by omega) (by omega);have w2:i64.wrap (K+1+1)=K+2:=(aJ (by omega) (by omega)).trans (by omega);have w3:i64.wrap (K+2+1)=K+3:=(aJ (by omega) (by omega)).trans (by omega);have hm:=aiZ (K+3) n.kids.length (by omega) (by omega) (by omega);have d1:decide (K+3+(n.kids.length:Int)<0)=false:=uw (by omega);have hlen:decide ((i:Int)<((fD false (Kw k l)).length:Int))=true:=zdt (by rw[lS,MR];omega);have hr:idx (fD false (Kw k l)) (i:Int)=some [D.int .i64 K,.int .i64 (K+1),.str (mk (K+2)),.sl false 1 (encI (zl (K+3) n.kids.length))]:=by rw[fQ,Qm,hg];rfl
   have c0:fB .i64 [D.int .i64 K,.int .i64 (K+1),.str (mk (K+2)),.sl false 1 (encI (zl (K+3) n.kids.length))] 0=some K:=rfl;have c1:fB .i64 [D.int .i64 K,.int .i64 (K+1),.str (mk (K+2)),.sl false 1 (encI (zl (K+3) n.kids.length))] 1=some (K+1):=rfl;have c2:cStr [D.int .i64 K,.int .i64 (K+1),.str (mk (K+2)),.sl false 1 (encI (zl (K+3) n.kids.length))] 2=some (mk (K+2)):=rfl;have c4:TL 1 [D.int .i64 K,.int .i64 (K+1),.str (mk (K+2)),.sl false 1 (encI (zl (K+3) n.kids.length))] 3=some (encI (zl (K+3) n.kids.length)):=rfl;simp only[M.yH,M.sZ,hlen,cO,dO,hr,ah,c0,c1,c2,c4,w1,w2,w3,bne_self_eq_false,O9 (K+2) (by omega),beq_self_eq_true,Bool.not_true,hm,d1];rw[aJ (by omega) (by omega),ak8 hn];congr 3;omega)
  (by have hlen:decide ((l.length:Int)<((fD false (Kw k l)).length:Int))=false:=uw (by rw[lS,MR];omega);simp only[M.yH,M.sZ,List.take_length,hlen,dO]) 0 (Nat.zero_le _)
 have e1:k+(wD (l.take 0):Int)=k:=by simp[wD]
 rw[e1,qP] at hloop;rw[M.Cc,hloop,ah];rfl
def acE:∀l:List Nd,CG (fD true l)=true
 |[]=>rfl
 |n::l=>by have:fD true (n::l)=Uo true n::fD true l:=rfl;rw[this,CG,acE l];simp[Uo,dQ,D.pure]
def aeA(l:List Nd):[[D.sl true 4 (fD true l)]].all dQ=true:=by simp[dQ,D.pure,acE]
def asv(l:List Nd)(o:Bool)(d:Int)(hl:l.length<=90000000)(hk:∀n,n∈l->n.kids.length<=90000000∧∀e,e∈n.kids-> -4000000000<=e+d∧e+d<=4000000000):
  M.oZ (fD o l) d=some (fD true (l.map (Nd.up d))):=by
 simp only[M.oZ,M.Hu];have hloop:=iV (b:=M.BH (fD o l) d) (t:=((l.length:Int),fD true (l.map (Nd.up d)))) (λi=>((i:Int),fD true ((l.take i).map (Nd.up d)))) l.length
  (by
   intro i hi;obtain⟨n,hn⟩:∃n,l[i]? =some n:=⟨l[i],by simp[hi]⟩
   obtain⟨hkl,hke⟩:=hk n (Au hn);have hin:=iV (b:=M.BG (fD o l) d (i:Int) (fD true ((l.take i).map (Nd.up d))) n.kind n.op n.text) (t:=((n.kids.length:Int),encI (n.kids.map (· +d)))) (λj=>((j:Int),encI ((n.kids.take j).map (· +d)))) n.kids.length
    (by
     intro j hj;obtain⟨e,he⟩:∃e,n.kids[j]? =some e:=⟨n.kids[j],by simp[hj]⟩
     have:=hke e (Au he);simp only[jY,M.BG,M.vU,fQ,Qm,hn,Qq,ah,cD3,dh,sH,he,KG,List.length_map,PE,OJ];rw[zdt (by omega),cO,dP (by omega),cO,dP (by omega),cO,aJ (by omega) (by omega),aJ (by omega) (by omega),jo he];simp[encI])
    (by simp only[jY,M.BG,M.vU,fQ,Qm,hn,Qq,ah,cD3,dh];rw[uw (by omega),dO,List.take_length]) 0 (Nat.zero_le _)
   simp only[qP,List.take_zero,List.map_nil] at hin;have hin':M.Fh (fD o l) d (i:Int) (fD true ((l.take i).map (Nd.up d))) n.kind n.op n.text (0,[])=some ((n.kids.length:Int),encI (n.kids.map (· +d))):=hin;simp only[jY,M.BH,M.vV,lS,fQ,Qm,hn,Qq,ah,cD0,cD1,cD2,cD3,hin',Ja,cO,List.length_map,PE,OJ];rw[zdt (by omega),cO,dP (by omega),cO,dP (by omega),cO,aJ (by omega) (by omega),jo hn,List.map_append,F8];rfl)
  (by simp only[jY,M.BH,M.vV,lS];rw[uw (by omega),dO,List.take_length]) 0 (Nat.zero_le _)
 simp only[qP,List.take_zero,List.map_nil] at hloop;have zh:M.Fj (fD o l) d (0,[])=some ((l.length:Int),fD true (l.map (Nd.up d))):=hloop;rw[zh,ah]
def qx(ts:List Tn):au:=ts.map λt=>[.sl false 4 (fD false (t.flat 0))]
def afM(t:Tn)(n:Nd)(hn:n∈t.flat 0):n.kids.length<=t.size∧∀e,e∈n.kids->0<=e∧e<t.size:=by obtain⟨h1,h2⟩:=aew t 0 n hn;refine⟨by omega,λe he=> ?_⟩;have:=h2 e he;omega
def akb(k op:Int)(ts:List Tn)(hs:sizes ts<=90000000):M.aS k op (qx ts)=some (fD true ((Tn.mk k op [] [] ts).flat 0)):=by
 have htl:=lW ts;simp only[jY,M.aS,M.JG];have hpl:(qx ts).length=ts.length:=by simp[qx]
 have hloop:=iV (b:=M.x9)
  (t:=if ts=[] then .inl (qx ts,0,[],k,op,[]) else .inr (qx ts,(ts.length:Int),fD true (lV ts 0),k,op,[],encI (ends ts 0)))
  (λj=>if j=0 then .inl (qx ts,0,[],k,op,[]) else .inr (qx ts,(j:Int),fD true (lV (ts.take j) 0),k,op,[],encI (ends (ts.take j) 0))) ts.length
  (by
   intro j hj;obtain⟨t,ht⟩:∃t,ts[j]? =some t:=⟨ts[j],by simp[hj]⟩
   have hst:=OG ht;have hp:=t.size_pos;have hr:(qx ts)[j]? =some [.sl false 4 (fD false (t.flat 0))]:=by simp[qx,ht]
   have c0:TL 4 [D.sl false 4 (fD false (t.flat 0))] 0=some (fD false (t.flat 0)):=rfl;have hfl:(fD true (lV (ts.take j) 0)).length=sizes (ts.take j):=by rw[lS,nZ]
   have hsh:M.oZ (fD false (t.flat 0)) ((sizes (ts.take j):Nat):Int)=some (fD true (t.flat (sizes (ts.take j)))):=by
    rw[asv (t.flat 0) false _ (by rw[t.flat_length];omega) (λn hn=> ?_)]
    ·rw[t.akL 0 (sizes (ts.take j))];congr 4<;>omega
    ·obtain⟨h1,h2⟩:=afM t n hn;refine⟨by omega,λe he=> ?_⟩;have:=h2 e he;omega
   have hrl:(fD true (t.flat (sizes (ts.take j)))).length=t.size:=by rw[lS,t.flat_length]
   have hel:(encI (ends (ts.take j) 0)).length=j:=by rw[dh,gu,PE];omega
   rw[if_neg (show¬j+1=0 by omega),aev ht,acn ht]
   by_cases h0:j=0
   ·subst h0;have hi:idx (qx ts) 0=some [.sl false 4 (fD false (t.flat 0))]:=by have:=fQ (qx ts) 0;rw[qP] at this;rw[this,hr]
    rw[if_pos rfl];have z:sizes (ts.take 0)=0:=rfl;rw[z] at hsh hrl;have z2:(([]:au).length:Int)=((0:Nat):Int):=rfl;simp only[jY,M.x9,M.tJ,hpl,hi,ah,c0,z2,hsh,hrl,List.nil_append,xq,Nat.zero_add];rw[zdt (by omega),cO,dP (by omega),cO,dP (by omega),cO,aJ (by omega) (by omega),aJ (by omega) (by omega)];simp[encI,fD,lV,ends,sizes]
   ·rw[if_neg h0];simp only[jY,M.x9,M.tJ,hpl,fQ,hr,ah,c0,hfl,hsh,hrl,hel,uq,OJ];rw[zdt (by omega),cO,dP (by omega),cO,dP (by omega),cO,dP (by omega),cO,dP (by omega),cO,aJ (by omega) (by omega),aJ (by omega) (by omega),F8,Nat.zero_add];simp[encI])
  (by
   by_cases h0:ts=[]
   ·rw[if_pos (by rw[h0];rfl),if_pos h0];subst h0;rfl
   ·have h1:¬ts.length=0:=λe=>h0 (List.length_eq_zero_iff.1 e)
    rw[if_neg h1,if_neg h0,List.take_length];simp only[jY,M.x9,M.tJ,hpl];rw[uw (by omega),dO]) 0 (Nat.zero_le _)
 rw[if_pos rfl] at hloop;rw[M.Hw,hloop,ah]
 by_cases h0:ts=[]
 ·rw[if_pos h0];subst h0;rfl
 ·rw[if_neg h0];simp only[yS,letE,Ja,cO,lS,nZ,OJ];rw[dP (by omega),cO,dP (by omega),cO,Tn.flat,F8];rfl
mutual
def yP(w:Bool):Tn->Row
 | .mk k n x _ ks=>[.int .i64 k,.int .i64 n,.str x,.sl w 5 (mQ w ks),.int .i64 0]
def mQ(w:Bool):List Tn->au
 |[]=>[]
 |t::ts=>yP w t::mQ w ts
end
def Ub(w:Bool):∀ts:List Tn,mQ w ts=ts.map (yP w)
 |[]=>rfl
 |t::ts=>by rw[mQ,Ub w ts];rfl
def uQ(w:Bool)(a:List Tn):(mQ w a).length=a.length:=by simp[Ub]
mutual
def asw(w:Bool):∀t:Tn,sD (yP w t)=yP false t
 | .mk k n x y ks=>by have:=acF w ks;simp only[yP,sD,D.fz,this]
def acF(w:Bool):∀ts:List Tn,bM (mQ w ts)=mQ false ts
 |[]=>rfl
 |t::ts=>by rw[mQ,bM,asw w t,acF w ts,mQ]
end
def aM8(t:Tn):∀(f:Nat) (w:Bool) (p:List Nd),t.size<=f->p.length+t.size<=90000000->
  M.kP f t.kind t.op t.text (mQ w t.kids) 0 (fD true p)=some (fD true (p++t.flat p.length)):=by
 refine Tn.ind (P:=λt=>∀(f:Nat) (w:Bool) (p:List Nd),t.size<=f->p.length+t.size<=90000000->M.kP f t.kind t.op t.text (mQ w t.kids) 0 (fD true p)=some (fD true (p++t.flat p.length))) ?_ t;intro k op x y ks ih f w p hf hp;cases f with
 |zero=>rw[Tn.size] at hf;omega
 |succ f=>
  rw[Tn.size] at hf hp;have hkl:=lW ks;simp only[jY,M.kP,M.EK,Tn.kids,Tn.kind,Tn.op,Tn.text,uQ];have hrec:∀j t,ks[j]? =some t->M.kP f t.kind t.op t.text (mQ w t.kids) 0 (fD true (p++lV (ks.take j) p.length))=some (fD true (p++lV (ks.take (j+1)) p.length)):=by
   intro j t hj;have hst:=OG hj;have hfl:(p++lV (ks.take j) p.length).length=p.length+sizes (ks.take j):=by rw[uq,nZ]
   have:=ih t (Au hj) f w (p++lV (ks.take j) p.length) (by omega) (by rw[hfl];omega);rw[this,hfl,acn hj,Gp]
  have hloop:=iV (b:=M.tV (M.kP f))
   (t:=if ks=[] then .inl (mQ w ks,(ks.length:Int),0,fD true p,k,op,x) else .inr (mQ w ks,(ks.length:Int),(ks.length:Int),fD true (p++lV ks p.length),k,op,x,encI (ends ks p.length)))
   (λj=>if j=0 then .inl (mQ w ks,(ks.length:Int),0,fD true p,k,op,x) else .inr (mQ w ks,(ks.length:Int),(j:Int),fD true (p++lV (ks.take j) p.length),k,op,x,encI (ends (ks.take j) p.length))) ks.length
   (by
    intro j hj;obtain⟨t,ht⟩:∃t,ks[j]? =some t:=⟨ks[j],by simp⟩
    have hr:=hrec j t ht;have hst:=OG ht;have hp1:=t.size_pos;have hg:(mQ w ks)[j]? =some (yP w t):=by rw[Ub];simp[ht]
    have hc0:fB .i64 (yP w t) 0=some t.kind:=by cases t;rfl
    have hc1:fB .i64 (yP w t) 1=some t.op:=by cases t;rfl
    have hc2:cStr (yP w t) 2=some t.text:=by cases t;rfl
    have hc3:TL 5 (yP w t) 3=some (mQ w t.kids):=by cases t;rfl
    have hc4:fB .i64 (yP w t) 4=some 0:=by cases t;rfl
    have hfl:(fD true (p++lV (ks.take (j+1)) p.length)).length=p.length+sizes (ks.take j)+t.size:=by rw[lS,uq,nZ,jo ht,nY,sizes,sizes];omega
    rw[if_neg (show¬j+1=0 by omega),aev ht]
    by_cases h0:j=0
    ·subst h0;rw[if_pos rfl];have hi:idx (mQ w ks) 0=some (yP w t):=by have:=fQ (mQ w ks) 0;rw[qP] at this;rw[this,hg]
     have hr0:M.kP f t.kind t.op t.text (mQ w t.kids) 0 (fD true p)=some (fD true (p++lV (ks.take (0+1)) p.length)):=by rw[<-hr];simp[lV]
     simp only[jY,M.tV,M.qo,hi,ah,hc0,hc1,hc2,hc3,hc4,hr0,hfl];rw[zdt (by omega),cO,aJ (by omega) (by omega),aJ (by omega) (by omega)];rfl
    ·rw[if_neg h0];simp only[jY,M.tV,M.qo,fQ,hg,ah,hc0,hc1,hc2,hc3,hc4,hr,hfl,dh,gu,PE,OJ];rw[zdt (by omega),cO,dP (by omega),cO,dP (by omega),cO,aJ (by omega) (by omega),aJ (by omega) (by omega)];simp[encI])
   (by
    by_cases h0:ks.length=0
    ·have he:ks=[]:=List.length_eq_zero_iff.1 h0;rw[if_pos h0,if_pos he];simp only[jY,M.tV,M.qo];rw[uw (by omega),dO]
    ·have he:¬ks=[]:=λe=>h0 (by rw[e];rfl)
     rw[if_neg h0,if_neg he,List.take_length];simp only[jY,M.tV,M.qo];rw[uw (by omega),dO]) 0 (Nat.zero_le _)
  rw[if_pos rfl] at hloop;rw[M.Ip,hloop,ah]
  by_cases he:ks=[]
  ·rw[if_pos he];subst he;simp only[yS,lS,OJ];rw[dP (by omega),cO,dP (by omega),cO,F8];rfl
  ·rw[if_neg he];simp only[yS,letE,lS,uq,nZ,OJ,Ja,cO];rw[dP (by omega),cO,dP (by omega),cO,Tn.flat,<-Gp];simp only[F8];rfl
def VQ{a b:Int×Int}(c:Bool)(ha:(1<=a.1∧a.1<=14)∧1<=a.2∧a.2<=14)(hb:(1<=b.1∧b.1<=14)∧1<=b.2∧b.2<=14):(1<=(bif c then a else b).1∧(bif c then a else b).1<=14)∧1<=(bif c then a else b).2∧(bif c then a else b).2<=14:=by cases c<;>assumption
def ai2(op:Int):(1<=(sides op).1∧(sides op).1<=14)∧1<=(sides op).2∧(sides op).2<=14:=by unfold sides;exact VQ _ (by decide) (VQ _ (by decide) (VQ _ (by decide) (VQ _ (by decide) (VQ _ (by decide) (VQ _ (by decide) (VQ _ (by decide) (by decide)))))))
def afN(k op:Int)(j:Nat):1<=QX k op j∧QX k op j<=14:=by have h:=ai2 op;unfold QX;exact Gy _ (Gy _ (by decide) (by decide)) (Gy _ (Gy _ (by decide) (by decide)) (Gy _ (by decide) (Gy _ (by decide) (Gy _ (Gy _ h.1 h.2) (by decide)))))
def tY{k op:Int}{n j:Nat}{p:Ps}(hp:l9 p=true)(hj:j<n)(hl:lvl k op≠0):l9 (eP k op n j p)=true:=by
 have h1:Nat.blt j n=true:=by rw[Nat.blt_eq];exact hj
 have h2:(lvl k op==0)=false:=by simpa using hl
 unfold eP;rw[hp,h1,h2];simp only[Bool.not_true,Bool.or_false,dO];cases(lvl k op==15||(k==13 && Nat.blt 1 n)) with
 |true=>rfl
 |false=>
  have hr:=afN k op j;simp only[dO,l9];rw[zdt hr.1,zdt (show QX k op j<=15 by omega)]
  by_cases h6:k=6
  ·subst h6;rfl
  ·have:(k==6)=false:=by simpa using h6
   rw[this];rfl
def Tv{k op:Int}{n:Nat}{p q:Ps}(h:∀j,j<n->eP k op n j p=eP k op n j q):∀(ts:List Tn) (j:Nat),j+ts.length=n->jF k op n p ts j=jF k op n q ts j
 |[],_,_=>by rw[jF,jF]
 |t::ts,j,hj=>by rw[mZ] at hj;rw[jF,jF,h j (by omega),Tv h ts (j+1) (by omega)]
def Zf{k op:Int}{n:Nat}{p q:Ps}(h:∀j,j<n->eP k op n j p=eP k op n j q):∀(ts:List Tn) (j:Nat),j+ts.length=n->rF k op n p ts j=rF k op n q ts j
 |[],_,_=>by rw[rF,rF]
 |t::ts,j,hj=>by rw[mZ] at hj;rw[rF,rF,h j (by omega),Zf h ts (j+1) (by omega)]
def EP{k op:Int}{n j:Nat}{p:Ps}(hp:l9 p=true)(hj:j<n)(hl:lvl k op=15):eP k op n j p=.top:=by
 have h1:Nat.blt j n=true:=by rw[Nat.blt_eq];exact hj
 unfold eP;rw[hp,h1,hl];rfl
def QZ{k op:Int}(h:13<=lvl k op)(he:1<=k∧k<=15):lvl k op=15∨k=6∨k=9∨k=10:=by
 have hk:k=1∨k=2∨k=3∨k=4∨k=5∨k=6∨k=7∨k=8∨k=9∨k=10∨k=11∨k=12∨k=13∨k=14∨k=15:=by omega
 rcases hk with rfl|rfl|rfl|rfl|rfl|rfl|rfl|rfl|rfl|rfl|rfl|rfl|rfl|rfl|rfl
 all_goals first
  |(left;rfl)
  |(right;simp;done)
  |(exfalso;have h2:=(acu op).2;have h3:lvl 12 op=wP op:=rfl;omega)
  |(exfalso;revert h;simp[lvl];done)
def afO{k op:Int}(h:k=1∨k=5∨k=6):13<=lvl k op∧(1<=k∧k<=15):=by rcases h with rfl|rfl|rfl<;>simp[lvl]
def Zg{k op:Int}{a b c:Bool}{i j:Bool}(hl:lvl k op≠0):fits k op ⟨14,true,a,b,false⟩=fits k op ⟨14,true,i,j,false⟩:=by
 have e:∀a b,fits k op ⟨14,true,a,b,false⟩=(k==9||decide (14<=lvl k op)):=by
  intro a b;have h2:(lvl k op==0)=false:=by simpa using hl
  unfold fits;rw[h2,show l9 ⟨14,true,a,b,false⟩=true from rfl];simp only[Bool.not_true,Bool.or_false,dO,Bool.false_and,Bool.true_and]
  by_cases h13:k=13
  ·subst h13;have:lvl 13 op=5:=rfl;rw[this];cases a<;>cases b<;>rfl
  ·have e13:(k==13)=false:=by simpa using h13
   rw[e13,Bool.and_false,dO]
   by_cases h12:k=12∧op=62
   ·obtain⟨rfl,rfl⟩:=h12;cases b<;>rfl
   ·have e12:(k==12 && op==62)=false:=by rw[Bool.and_eq_false_iff,VZ,VZ];omega
    rw[e12,Bool.and_false,dO]
 rw[e,e]
def akc(t:Tn):(CJ t)->13<=lvl t.kind t.op->(Rw t)->∀p q,l9 p=true->l9 q=true->tX t p=tX t q:=by
 refine Tn.ind (P:=λt=>(CJ t)->13<=lvl t.kind t.op->(Rw t)->∀p q,l9 p=true->l9 q=true->tX t p=tX t q) ?_ t;intro k op x y ks ih hok hl he p q hp hq;simp only[Tn.kind,Tn.op] at hl;simp only[Rw,Tn.kind] at he;rw[tX,tX];congr 1;rcases QZ hl he with h|h
 ·exact Tv (λj hj=>by rw[EP hp hj h,EP hq hj h]) ks 0 (by omega)
 ·have hn:ks.length=1:=(KZ hok).one (by omega);obtain⟨u,rfl⟩:=Xx.1 hn;obtain⟨hue,huo⟩:=Xo hok he (i:=0) (t:=u) rfl;obtain⟨huc,_⟩:=IV hok (i:=0) (t:=u) rfl;have hlu:1<=lvl u.kind u.op∧lvl u.kind u.op<=15:=by cases u;exact Pg hue (KZ huo)
  have hlk:lvl k op≠0:=by omega
  have kp:=tY (n:=[u].length) (j:=0) hp (by simp) hlk;have kq:=tY (n:=[u].length) (j:=0) hq (by simp) hlk;rw[jF,jF,jF,jF];congr 1;rcases h with rfl|h
  ·have e1:∀r:Ps,l9 r=true->eP 6 op [u].length 0 r=⟨14,true,r.qp,r.qw,false⟩:=by intro r hr;unfold eP;rw[hr];rfl
   rw[e1 p hp] at kp⊢;rw[e1 q hq] at kq⊢;have ht:oG 6 0=false:=rfl;rw[ht,Bool.false_or,Bool.false_or,Zg (c:=false) (i:=q.qp) (j:=q.qw) (by omega)];cases hf:fits u.kind u.op ⟨14,true,q.qp,q.qw,false⟩ with
   |false=>rfl
   |true=>
    have axX:13<=lvl u.kind u.op:=by
     unfold fits at hf;revert hf;cases(!(l9 ⟨14,true,q.qp,q.qw,false⟩)||lvl u.kind u.op==0)<;>cases(q.qp && u.kind==13)<;>cases(q.qw &&(u.kind==12 && u.op==62))<;>simp;intro hf;rcases hf with h9|h14
     ·rw[h9];exact(show(13:Int)<=13 by omega)
     ·omega
    rw[cO,cO];exact ih u (by simp) huo axX hue _ _ kp kq
  ·have ht:oG k 0=true:=by rcases h with rfl|rfl<;>rfl
   rw[ht,Bool.true_or,cO,Bool.true_or,cO];have hc6:cls k op [u].length 0=6:=by unfold cls;rw[if_pos (by omega)]
   rw[hc6] at huc;exact ih u (by simp) huo (afO huc).1 hue _ _ kp kq
def akd(t:Tn):(CJ t)->13<=lvl t.kind t.op->(Rw t)->∀p q,l9 p=true->l9 q=true->qL t p=qL t q:=by
 refine Tn.ind (P:=λt=>(CJ t)->13<=lvl t.kind t.op->(Rw t)->∀p q,l9 p=true->l9 q=true->qL t p=qL t q) ?_ t;intro k op x y ks ih hok hl he p q hp hq;simp only[Tn.kind,Tn.op] at hl;simp only[Rw,Tn.kind] at he;have hT:jF k op ks.length p ks 0=jF k op ks.length q ks 0∨k=6∨k=9∨k=10:=by
  rcases QZ hl he with h|h
  ·exact .inl (Tv (λj hj=>by rw[EP hp hj h,EP hq hj h]) ks 0 (by omega))
  ·exact .inr h
 rw[qL,qL];have hg:∀g g' L,k≠11->VO k op ks.length x g L=VO k op ks.length x g' L:=by
  intro g g' L h11;have:(k==11)=false:=by simpa using h11
  unfold VO;rw[this];rfl
 have h11:k≠11:=by
  rcases QZ hl he with h|h
  ·rintro rfl;exact absurd h (by change¬(11:Int)=15;decide)
  ·omega
 rw[hg _ (aex op (jF k op ks.length q ks 0)) _ h11];congr 1;rcases QZ hl he with h|h
 ·exact Zf (λj hj=>by rw[EP hp hj h,EP hq hj h]) ks 0 (by omega)
 ·have hn:ks.length=1:=(KZ hok).one (by omega);obtain⟨u,rfl⟩:=Xx.1 hn;obtain⟨hue,huo⟩:=Xo hok he (i:=0) (t:=u) rfl;obtain⟨huc,_⟩:=IV hok (i:=0) (t:=u) rfl;have hlu:1<=lvl u.kind u.op∧lvl u.kind u.op<=15:=by cases u;exact Pg hue (KZ huo)
  have hlk:lvl k op≠0:=by omega
  have kp:=tY (n:=[u].length) (j:=0) hp (by simp) hlk;have kq:=tY (n:=[u].length) (j:=0) hq (by simp) hlk;rw[rF,rF,rF,rF];congr 1;rcases h with rfl|h
  ·have e1:∀r:Ps,l9 r=true->eP 6 op [u].length 0 r=⟨14,true,r.qp,r.qw,false⟩:=by intro r hr;unfold eP;rw[hr];rfl
   rw[e1 p hp] at kp⊢;rw[e1 q hq] at kq⊢;have ht:oG 6 0=false:=rfl;rw[ht,Bool.false_or,Bool.false_or,Zg (c:=false) (i:=q.qp) (j:=q.qw) (by omega)];cases hf:fits u.kind u.op ⟨14,true,q.qp,q.qw,false⟩ with
   |false=>rfl
   |true=>
    have axX:13<=lvl u.kind u.op:=by
     unfold fits at hf;revert hf;cases(!(l9 ⟨14,true,q.qp,q.qw,false⟩)||lvl u.kind u.op==0)<;>cases(q.qp && u.kind==13)<;>cases(q.qw &&(u.kind==12 && u.op==62))<;>simp;intro hf;rcases hf with h9|h14
     ·rw[h9];exact(show(13:Int)<=13 by omega)
     ·omega
    rw[cO,cO];exact ih u (by simp) huo axX hue _ _ kp kq
  ·have ht:oG k 0=true:=by rcases h with rfl|rfl<;>rfl
   rw[ht,Bool.true_or,cO,Bool.true_or,cO];have hc6:cls k op [u].length 0=6:=by unfold cls;rw[if_pos (by omega)]
   rw[hc6] at huc;exact ih u (by simp) huo (afO huc).1 hue _ _ kp kq
def VR{α:Type}(a b:Bool)(x y:α):(bif a||b then x else y)=bif a then x else bif b then x else y:=by cases a<;>rfl
def afP{α:Type}(a b:Bool)(x y:α):(bif a && b then x else y)=bif a then(bif b then x else y) else y:=by cases a<;>rfl
def Qo{α:Type}(a:Bool)(x y:α):some (bif a then x else y)=bif a then some x else some y:=by cases a<;>rfl
def Q5(op:Int):M.mO op=some (wP op)∧M.rO op=some (wP op):=by simp only[M.mO,M.ED,M.rO,M.JC,wP,VR,Qo];constructor<;>first|trivial|rfl
def Q7(k op:Int)(x y:aC)(r:au):M.nC k op x y r=some (lvl k op)∧M.dW k op x y r=some (lvl k op):=by simp only[M.nC,M.JX,M.dW,M.JD,lvl,VR,Qo,(Q5 op).1,(Q5 op).2,ah];constructor<;>first|trivial|rfl
def Xr(p:Ps):M.y5 p.level p.lQ p.qp p.qw p.kU=some (l9 p)∧M.yU p.level p.lQ p.qp p.qw p.kU=some (l9 p):=by simp only[M.y5,M.NP,M.yU,M.NI,aW,aN,ah,l9,ge_iff_le];cases(decide (1<=p.level) && decide (p.level<=15))<;>cases p.lQ<;>exact⟨rfl,rfl⟩
def zi:M.qN=some (1,false,false,false,false)∧M.iw=some (1,false,false,false,false):=⟨rfl,rfl⟩
def asx(k op:Int)(p:Ps):fits k op p=bif !(l9 p) then false else bif lvl k op==0 then false else bif p.qp && k==13 then false else bif p.qw &&(k==12 && op==62) then false else
  bif p.kU &&(k==11||(k==9||k==4)) then false else bif p.lQ && k==9 then true else decide (p.level<=lvl k op):=by
 unfold fits;rw[VR];cases(p.lQ && k==9)<;>rfl
def aar(k op:Int)(x y:aC)(r:au)(p:Ps):M.Di k op x y r p.level p.lQ p.qp p.qw p.kU=some (fits k op p)∧M.Dh k op x y r p.level p.lQ p.qp p.qw p.kU=some (fits k op p):=by rw[asx];simp only[M.Di,M.O5,M.Dh,M.O1,(Q7 k op x y r).1,(Q7 k op x y r).2,(Xr p).1,(Xr p).2,ah,VR,afP,Qo];constructor<;>first|trivial|rfl
def nb0(j:Nat):((j:Int)==0)=Nat.beq j 0:=by cases j<;>rfl
def nb1(j:Nat):((j:Int)==1)=Nat.beq j 1:=by
 rcases j with _|_|j
 ·rfl
 ·rfl
 ·rw[VZ.2 (by omega)];rfl
def gt0(j:Nat):decide ((j:Int)>0)= !(Nat.beq j 0):=by
 cases j with
 |zero=>rfl
 |succ j=>rw[zdt (by omega)];rfl
def ai3(op:Int)(j:Nat):M.uZ op (j:Int)=some (bif Nat.beq j 0 then(sides op).1 else(sides op).2):=by simp only[M.uZ,M.Ii,(Q5 op).1,ah,nb0,sides];cases wP op==3<;>cases wP op==4<;>cases wP op==6<;>cases wP op==7<;>cases wP op==8<;>cases wP op==9<;>cases wP op==10<;>cases Nat.beq j 0<;>rfl
def ake(op:Int):M.uM op=some (sides op):=by simp only[M.uM,M.JH,(Q5 op).2,ah,sides,Qo]
def ai4(k op:Int)(x y:aC)(r:au)(j:Nat):M.rU k op x y r (j:Int)=some (QX k op j):=by simp only[M.rU,M.Ij,ai3,ah,QX,gt0];cases k==15<;>cases k==14<;>cases k==13<;>cases k==11<;>cases k==12<;>cases Nat.beq j 0<;>rfl
def Ps.zo(p:Ps):Int×Bool×Bool×Bool×Bool:=(p.level,p.lQ,p.qp,p.qw,p.kU)
def ak9(j n:Nat)(h:n<=1048576):(decide ((j:Int)>=0) && decide ((j:Int)<=i64.wrap ((n:Int) - 1)))=Nat.blt j n:=by
 rw[aJ (by omega) (by omega)];cases hb:Nat.blt j n with
 |true=>rw[Nat.blt_eq] at hb;rw[zdt (by omega),zdt (by omega)];rfl
 |false=>
  have:¬j<n:=by rw[<-Nat.blt_eq,hb];simp
  rw[uw (show¬(j:Int)<=(n:Int) - 1 by omega),Bool.and_false]
def many(n:Nat):decide ((n:Int)>1)=Nat.blt 1 n:=by
 cases hb:Nat.blt 1 n with
 |true=>rw[Nat.blt_eq] at hb;exact zdt (by omega)
 |false=>
  have:¬1<n:=by rw[<-Nat.blt_eq,hb];simp
  exact uw (by omega)
def Tz(k op:Int)(x y:aC)(r:au)(j:Nat)(p:Ps)(hr:r.length<=1048576):M.vg k op x y r (j:Int) p.level p.lQ p.qp p.qw p.kU=some (eP k op r.length j p).zo:=by
 simp only[M.vg,M.L8,(Xr p).1,aN,(Q7 k op x y r).1,ai4,zi.1,ah,ak9 j r.length hr,many,nb0,nb1,eP];cases l9 p with
 |false=>rfl
 |true=>
  cases Nat.blt j r.length with
  |false=>rfl
  |true=>
   cases hz:(lvl k op==0) with
   |true=>rfl
   |false=>
    cases h15:(lvl k op==15) with
    |true=>rfl
    |false=>
     simp only[Bool.not_true,dO,Bool.false_or];have fin:∀z:Int,(bif k==11 then some (z,k==6,p.qp,p.qw,false) else bif k==9 then some (z,k==6,p.qp,p.qw,false) else bif k==10 then some (z,k==6,p.qp,p.qw,false) else bif k==6 then some (z,k==6,p.qp,p.qw,false) else
       bif Nat.beq j 0 then(bif p.kU then some (z,k==6,p.qp,p.qw,true) else bif Nat.beq j 1 then(bif k==12 then some (z,k==6,p.qp,p.qw,op==99) else some (z,k==6,p.qp,p.qw,false)) else some (z,k==6,p.qp,p.qw,false)) else
       bif Nat.beq j 1 then(bif k==12 then some (z,k==6,p.qp,p.qw,op==99) else some (z,k==6,p.qp,p.qw,false)) else some (z,k==6,p.qp,p.qw,false))=
       some (z,k==6,p.qp,p.qw,bif k==11||(k==9||(k==10||k==6)) then false else(Nat.beq j 0 && p.kU)||(Nat.beq j 1 &&(k==12 && op==99))):=by
      intro z;cases h11:(k==11) with
      |true=>rfl
      |false=>cases h9:(k==9) with
       |true=>rfl
       |false=>cases h10:(k==10) with
        |true=>rfl
        |false=>cases h6:(k==6) with
         |true=>rfl
         |false=>simp only[dO,Bool.or_false];cases Nat.beq j 0<;>cases p.kU<;>cases Nat.beq j 1<;>cases(k==12)<;>simp
     cases h13:(k==13) with
     |true=>
      cases Nat.blt 1 r.length with
      |true=>rfl
      |false=>exact fin _
     |false=>exact fin _
def Zh(k op:Int)(x y:aC)(r:au)(j:Nat):M.o9 k op x y r (j:Int)=some (oG k j):=by simp only[M.o9,M.Ik,nb0,oG];cases Nat.beq j 0<;>cases k==9<;>cases k==10<;>rfl
def lH(k:Int)(hk:I64 k):M.jr k=some (k,spell k,0)∧M.dZ k=some (k,spell k,0):=by simp only[M.jr,M.O6,M.dZ,M.LP,(mX k hk).1,(mX k hk).2,ah];constructor<;>first|trivial|rfl
def opF(s:aC):List (aC)->Nat->Int->Nat->Int×Nat
 |[],_,k,m=>(k,m)
 |g::l,i,k,m=>bif Nat.blt m g.length && g.isPrefixOf s then opF s l (i+1) (30+(i:Int)) g.length else opF s l (i+1) k m
def aas(s:aC):∀(l:List (aC)) (i:Nat) (k:Int) (m:Nat),(opF s l i k m).2=acr s l m
 |[],_,_,_=>rfl
 |g::l,i,k,m=>by
  rw[opF,acr];cases(Nat.blt m g.length && g.isPrefixOf s) with
  |true=>rw[cO,cO,aas s l]
  |false=>rw[dO,dO,aas s l]
def ala(s:aC)(L:List (aC)){b:Int×Int×Int->Option (Int×Int×Int⊕Int×Int×Int)}
  (hb:∀(i:Nat) g k (m:Nat),L[i]? =some g->m<=2->b (k,(m:Int),(i:Int))=some (.inl (bif Nat.blt m g.length && g.isPrefixOf s then(30+(i:Int),(g.length:Int),(i:Int)+1) else(k,(m:Int),(i:Int)+1))))
  (he:∀k m,b (k,m,(L.length:Int))=some (.inr (k,m,(L.length:Int)))) (h2:∀g,g∈L->g.length<=2):
  iT b (0,0,0)=some ((opF s L 0 0 0).1,((opF s L 0 0 0).2:Int),(L.length:Int)):=by
 have key:∀(t:List (aC)) (i:Nat) (k:Int) (m:Nat),L.drop i=t->i<=L.length->m<=2->iT b (k,(m:Int),(i:Int))=some ((opF s t i k m).1,((opF s t i k m).2:Int),(L.length:Int)):=by
  intro t;induction t with
  |nil=>
   intro i k m hd hi hm;have:i=L.length:=by have:=congrArg List.length hd;simp at this;omega
   subst this;exact jq (he _ _)
  |cons g t ih=>
   intro i k m hd hi hm;have hx:L[i]? =some g:=by
    have:(L.drop i)[0]? =some g:=by rw[hd];rfl
    simpa using this
   have hlt:i<L.length:=(MG.1 hx).1;have hd':L.drop (i+1)=t:=by rw[<-List.drop_drop,hd];rfl
   have hs:=hb i g k m hx hm;have hg:=h2 g (Au hx);rw[opF];cases hc:(Nat.blt m g.length && g.isPrefixOf s) with
   |true=>rw[hc,cO] at hs;rw[kQ hs,cO,show(i:Int)+1=((i+1:Nat):Int) by omega,ih (i+1) _ _ hd' hlt hg]
   |false=>rw[hc,dO] at hs;rw[kQ hs,dO,show(i:Int)+1=((i+1:Nat):Int) by omega,ih (i+1) _ _ hd' hlt hm]
 have:=key L 0 0 0 rfl (Nat.zero_le _) (by omega);rw[qP] at this;exact this
def amu{α:Type}(s:List α)(n:Nat)(h:n<=s.length):cut s 0 (n:Int)=some (s.take n):=by unfold cut;rw[zdt (by omega),zdt (by omega),zdt (by omega)];simp
def pre_eq:∀(g s:aC),g.length<=s.length->(s.take g.length==g)=g.isPrefixOf s
 |[],s,_=>by simp
 |x::g,[],h=>by simp at h
 |x::g,y::s,h=>by
  have hr:=pre_eq g s (by simpa using h);have hxy:(y==x)=(x==y):=by rw[Bool.eq_iff_iff,beq_iff_eq,beq_iff_eq];exact⟨Eq.symm,Eq.symm⟩
  rw[List.isPrefixOf,mZ,List.take_succ_cons,<-hr,<-hxy];rfl
def aeB(g s:aC)(h:s.length<g.length):g.isPrefixOf s=false:=by
 cases hp:g.isPrefixOf s with
 |false=>rfl
 |true=>have:=(List.isPrefixOf_iff_prefix.1 hp).length_le;omega
def afQ(s g:aC):M.strings_HasPrefix s g=some (g.isPrefixOf s):=by
 simp only[M.strings_HasPrefix,M.zy,M.ji,M.mP]
 by_cases h:g.length<=s.length
 ·rw[zdt (by omega),cO,amu s g.length h,ah,ah,pre_eq g s h]
 ·rw[uw (by omega),dO,ah,aeB g s (by omega)]
def ap3:∀g,g∈Qj->g.length<=2:=by decide+kernel
def Uc(m n:Nat):decide ((n:Int)>(m:Int))=Nat.blt m n:=by
 cases hb:Nat.blt m n with
 |true=>rw[Nat.blt_eq] at hb;exact zdt (by omega)
 |false=>
  have:¬m<n:=by rw[<-Nat.blt_eq,hb];simp
  exact uw (by omega)
def afR(s:aC)(h0:s≠[])(hs:s.length<=4000000):M.qX s 0=some ((opF s Qj 0 0 0).1,((acr s Qj 0:Nat):Int)):=by
 have hl:Qj.length=39:=rfl;have hn:1<=s.length:=by cases s with|nil=>exact absurd rfl h0|cons=>simp
 simp only[M.qX,M.O7,M.NR,aN,ah];rw[aJ (by omega) (by omega),zdt (by omega),zdt (by omega),Bool.and_self,Bool.not_true,dO];have hc:=amu s s.length (Nat.le_refl _);rw[List.take_length] at hc;rw[ala s Qj (λi g k m hg hm=> ?_) (λk m=> ?_) ap3,ah,aas]
 ·have hi:=(MG.1 hg).1;rw[hl] at hi;have hsc:=ak2 i hi;simp only[Ol,hg] at hsc;simp only[M.SX,M.JZ,Yq,hsc,ah,hc,afQ,Uc];rw[zdt (by omega),zdt (by omega),aJ (by omega) (by omega),aJ (by omega) (by omega)];cases Nat.blt m g.length<;>cases g.isPrefixOf s<;>rfl
 ·rw[hl];rfl
def ai5{s:aC}(h:s≠[])(hl:s.length<=2000000):∃c,idx s (i64.wrap ((s.length:Int) - 1))=some c∧lastB s=(c.toNat:Int):=by
 have hn:1<=s.length:=by cases s with|nil=>exact absurd rfl h|cons=>simp
 obtain⟨c,hc⟩:∃c,s[s.length - 1]? =some c:=⟨s[s.length - 1],by simp⟩
 refine⟨c, ?_, ?_⟩
 ·rw[aJ (by omega) (by omega),show((s.length:Int) - 1)=((s.length - 1:Nat):Int) by omega,fQ,hc]
 ·rw[lastB,List.getLast?_eq_getElem?,hc]
def alb{s:aC}(h:s≠[]):∃c,idx s 0=some c∧aj2 s=(c.toNat:Int):=by
 cases s with
 |nil=>exact absurd rfl h
 |cons c s=>exact⟨c,rfl,rfl⟩
def alc(c:UInt8):i64.wrap (c.toNat:Int)=(c.toNat:Int):=by have:=aiJ c;exact aJ (by omega) (by omega)
def Zi(a b:Tk):EL a b=bif a.text==[] then false else bif b.text==[] then false else bif a.kind==2 then false else bif a.kind==1 then false else bif b.kind==1 then false else
 bif isW (lastB a.text) && isW (aj2 b.text) then true else
 bif a.kind==3 &&(isW (aj2 b.text)||aj2 b.text==46) then true else
 bif a.kind==6 && b.kind==32 then true else
 bif !(decide (30<=a.kind) && decide (a.kind<=68)) then false else Nat.blt a.text.length (acr (a.text++b.text) Qj 0):=by
 unfold EL;simp only[VR]
def Yk(a b:Tk)(ha:a.text.length<=2000000)(hb:b.text.length<=2000000):M.rV a.kind a.text a.at_ b.kind b.text b.at_=some (EL a b):=by
 rw[Zi];simp only[M.rV,M.Il]
 by_cases h1:a.text=[]
 ·rw[show(a.text==[])=true by simpa using h1,cO,cO]
 ·rw[show(a.text==[])=false by simpa using h1,dO,dO]
  by_cases h2:b.text=[]
  ·rw[show(b.text==[])=true by simpa using h2,cO,cO]
  ·obtain⟨c,hc,hc'⟩:=ai5 h1 ha;obtain⟨d,hd,hd'⟩:=alb h2;have hop:=afR (a.text++b.text) (by simp[h1]) (by simp only[uq];omega);rw[show(b.text==[])=false by simpa using h2,dO,dO,hc',hd'];simp only[hc,hd,ah,alc,MC,M.iU,M.yA,aN,hop,Uc,ge_iff_le,VR,afP,Qo,dP (show a.text.length+b.text.length<=9223372036854775807 by omega),cO]
end Go.Proofs.YtbpldgeajbfgnaaGreatDoor
