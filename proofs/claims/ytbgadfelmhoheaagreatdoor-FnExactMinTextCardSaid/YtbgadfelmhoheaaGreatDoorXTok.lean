import Derived.Test.YtbgadfelmhoheaaGreatDoorXLay
set_option linter.defProp false
namespace Go.Proofs.YtbgadfelmhoheaaGreatDoor
set_option linter.unusedVariables false
set_option linter.unusedSimpArgs false
open Go Go.Vm
open Go.IntKind (i64)
open Int (reduceLE reduceLT reduceSub reduceAdd)
def y5{op:Int}(h:aia op=true):Aa op≠0∧op≠61:=by
 have hc:op=60∨op=57∨op=58∨op=59∨op=55∨op=56∨op=99∨op=63∨op=48∨op=47∨op=50∨op=62∨op=49∨op=67∨op=46∨op=45∨op=44:=by simp only[aia,Bool.or_eq_true,beq_iff_eq] at h;omega
 rcases hc with rfl|rfl|rfl|rfl|rfl|rfl|rfl|rfl|rfl|rfl|rfl|rfl|rfl|rfl|rfl|rfl|rfl<;>decide
def ET{op:Int}(h:aib op=true):op=54∨(38<=op∧op<=43):=by simp only[aib,Bool.or_eq_true,EU,beq_iff_eq,decide_eq_true_eq] at h;omega
def aed(k:Int)(op:Int)(t o:aB)(kids:aA)(h:M.aK k op t o kids=some true)(hk:k=1∨k=5∨k=7∨k=13∨k=27∨k=44):Cnt k op o kids.length:=by
 rcases hk with rfl|rfl|rfl|rfl|rfl|rfl
 all_goals
  simp only[M.aK,M.aZ,M.dh,M.bP,M.eX,M.dV,M.dn,M.bU,gG,dH,CY,pW,Int.reduceBEq,reduceLE,reduceLT,reduceSub,reduceAdd,fO,ah] at h;revert h;cases hn0:M.jT t with
  |none=>cases op==0<;>simp
  |some b0=>_
  all_goals try simp only[Int.reduceBEq,reduceLE,reduceLT,reduceSub,reduceAdd,fO,ah]
  all_goals(cases ho0:(op==0)<;>cases ht:(t==[])<;>cases hy:(o==[])<;>cases b0<;>simp_all<;>intros<;>constructor<;>intros<;>first|omega|exact y5 ‹_›|exact ET ‹_›|(rw[aC (n:=op+1) ak ak] at *;omega)|(simp_all<;>omega))
def a0i(op:Int)(t o:aB)(kids:aA)(h:M.aK 2 op t o kids=some true):Cnt 2 op o kids.length:=by
 simp only[M.aK,M.aZ,M.dh,M.bP,M.eX,M.dV,M.dn,M.bU,gG,dH,CY,pW,Int.reduceBEq,reduceLE,reduceLT,reduceSub,reduceAdd,fO,ah] at h;revert h;cases hn0:M.mZ 3 t 0 with
 |none=>cases op==0<;>simp
 |some b0=>_
 all_goals try simp only[Int.reduceBEq,reduceLE,reduceLT,reduceSub,reduceAdd,fO,ah]
 all_goals(cases ho0:(op==0)<;>cases ht:(t==[])<;>cases hy:(o==[])<;>cases b0<;>simp_all<;>intros<;>constructor<;>intros<;>first|omega|exact y5 ‹_›|exact ET ‹_›|(rw[aC (n:=op+1) ak ak] at *;omega)|(simp_all<;>omega))
def a0j(op:Int)(t o:aB)(kids:aA)(h:M.aK 3 op t o kids=some true):Cnt 3 op o kids.length:=by
 simp only[M.aK,M.aZ,M.dh,M.bP,M.eX,M.dV,M.dn,M.bU,gG,dH,CY,pW,Int.reduceBEq,reduceLE,reduceLT,reduceSub,reduceAdd,fO,ah] at h;revert h;cases hn0:M.mZ 4 t 0 with
 |none=>cases op==0<;>simp
 |some b0=>_
 all_goals try simp only[Int.reduceBEq,reduceLE,reduceLT,reduceSub,reduceAdd,fO,ah]
 all_goals(cases ho0:(op==0)<;>cases ht:(t==[])<;>cases hy:(o==[])<;>cases b0<;>simp_all<;>intros<;>constructor<;>intros<;>first|omega|exact y5 ‹_›|exact ET ‹_›|(rw[aC (n:=op+1) ak ak] at *;omega)|(simp_all<;>omega))
def a0k(op:Int)(t o:aB)(kids:aA)(h:M.aK 4 op t o kids=some true):Cnt 4 op o kids.length:=by
 simp only[M.aK,M.aZ,M.dh,M.bP,M.eX,M.dV,M.dn,M.bU,gG,dH,CY,pW,Int.reduceBEq,reduceLE,reduceLT,reduceSub,reduceAdd,fO,ah] at h;revert h;cases hn0:M.mZ 5 t 0 with
 |none=>cases op==0<;>simp
 |some b0=>_
 all_goals try simp only[Int.reduceBEq,reduceLE,reduceLT,reduceSub,reduceAdd,fO,ah]
 all_goals(cases ho0:(op==0)<;>cases ht:(t==[])<;>cases hy:(o==[])<;>cases b0<;>simp_all<;>intros<;>constructor<;>intros<;>first|omega|exact y5 ‹_›|exact ET ‹_›|(rw[aC (n:=op+1) ak ak] at *;omega)|(simp_all<;>omega))
def JO(k:Int)(op:Int)(t o:aB)(kids:aA)(h:M.aK k op t o kids=some true)(hk:k=6∨k=14∨k=16∨k=20∨k=22∨k=23∨k=24∨k=25∨k=26∨k=28∨k=29∨k=30∨k=31∨k=33∨k=40∨k=41∨k=45):Cnt k op o kids.length:=by
 rcases hk with rfl|rfl|rfl|rfl|rfl|rfl|rfl|rfl|rfl|rfl|rfl|rfl|rfl|rfl|rfl|rfl|rfl
 all_goals
  simp only[M.aK,M.aZ,M.dh,M.bP,M.eX,M.dV,M.dn,M.bU,gG,dH,CY,pW,Int.reduceBEq,reduceLE,reduceLT,reduceSub,reduceAdd,fO,ah] at h;revert h
  all_goals try simp only[Int.reduceBEq,reduceLE,reduceLT,reduceSub,reduceAdd,fO,ah]
  all_goals(cases ho0:(op==0)<;>cases ht:(t==[])<;>cases hy:(o==[])<;>simp_all<;>intros<;>constructor<;>intros<;>first|omega|exact y5 ‹_›|exact ET ‹_›|(rw[aC (n:=op+1) ak ak] at *;omega)|(simp_all<;>omega))
def a0l(op:Int)(t o:aB)(kids:aA)(h:M.aK 8 op t o kids=some true):Cnt 8 op o kids.length:=by
 simp only[M.aK,M.aZ,M.dh,M.bP,M.eX,M.dV,M.dn,M.bU,gG,dH,CY,pW,Int.reduceBEq,reduceLE,reduceLT,reduceSub,reduceAdd,fO,ah] at h;revert h;cases hn0:M.kK t with
 |none=>cases op==0<;>simp
 |some b0=>_
 all_goals try simp only[Int.reduceBEq,reduceLE,reduceLT,reduceSub,reduceAdd,fO,ah]
 all_goals(cases ho0:(op==0)<;>cases ht:(t==[])<;>cases hy:(o==[])<;>cases b0<;>simp_all<;>intros<;>constructor<;>intros<;>first|omega|exact y5 ‹_›|exact ET ‹_›|(rw[aC (n:=op+1) ak ak] at *;omega)|(simp_all<;>omega))
def ayT(k:Int)(op:Int)(t o:aB)(kids:aA)(h:M.aK k op t o kids=some true)(hk:k=9∨k=10):Cnt k op o kids.length:=by
 rcases hk with rfl|rfl
 all_goals
  simp only[M.aK,M.aZ,M.dh,M.bP,M.eX,M.dV,M.dn,M.bU,gG,dH,CY,pW,Int.reduceBEq,reduceLE,reduceLT,reduceSub,reduceAdd,fO,ah] at h;revert h
  all_goals try simp only[Int.reduceBEq,reduceLE,reduceLT,reduceSub,reduceAdd,fO,ah]
  all_goals(cases ho0:(op==51)<;>cases ho1:(op==52)<;>cases ht:(t==[])<;>cases hy:(o==[])<;>simp_all<;>intros<;>constructor<;>intros<;>first|omega|exact y5 ‹_›|exact ET ‹_›|(rw[aC (n:=op+1) ak ak] at *;omega)|(simp_all<;>omega))
def aHT(op:Int)(t o:aB)(kids:aA)(h:M.aK 11 op t o kids=some true):Cnt 11 op o kids.length:=by
 simp only[M.aK,M.aZ,M.dh,M.bP,M.eX,M.dV,M.dn,M.bU,gG,dH,CY,pW,Int.reduceBEq,reduceLE,reduceLT,reduceSub,reduceAdd,fO,ah] at h;revert h
 all_goals try simp only[Int.reduceBEq,reduceLE,reduceLT,reduceSub,reduceAdd,fO,ah]
 all_goals(cases ho0:(op==55)<;>cases ho1:(op==56)<;>cases ho2:(op==61)<;>cases ht:(t==[])<;>cases hy:(o==[])<;>simp_all<;>intros<;>constructor<;>intros<;>first|omega|exact y5 ‹_›|exact ET ‹_›|(rw[aC (n:=op+1) ak ak] at *;omega)|(simp_all<;>omega))
def aHU(op:Int)(t o:aB)(kids:aA)(h:M.aK 12 op t o kids=some true):Cnt 12 op o kids.length:=by
 simp only[M.aK,M.aZ,M.dh,M.bP,M.eX,M.dV,M.dn,M.bU,gG,dH,CY,pW,Int.reduceBEq,reduceLE,reduceLT,reduceSub,reduceAdd,fO,ah] at h;revert h
 all_goals try simp only[Int.reduceBEq,reduceLE,reduceLT,reduceSub,reduceAdd,fO,ah]
 all_goals(cases ho0:(aia op)<;>cases ht:(t==[])<;>cases hy:(o==[])<;>simp_all<;>intros<;>constructor<;>intros<;>first|omega|exact y5 ‹_›|exact ET ‹_›|(rw[aC (n:=op+1) ak ak] at *;omega)|(simp_all<;>omega))
def aHV(op:Int)(t o:aB)(kids:aA)(h:M.aK 15 op t o kids=some true):Cnt 15 op o kids.length:=by
 simp only[M.aK,M.aZ,M.dh,M.bP,M.eX,M.dV,M.dn,M.bU,gG,dH,CY,pW,Int.reduceBEq,reduceLE,reduceLT,reduceSub,reduceAdd,fO,ah] at h;revert h
 all_goals try simp only[Int.reduceBEq,reduceLE,reduceLT,reduceSub,reduceAdd,fO,ah]
 all_goals(cases ho0:(aib op)<;>cases ht:(t==[])<;>cases hy:(o==[])<;>simp_all<;>intros<;>constructor<;>intros<;>first|omega|exact y5 ‹_›|exact ET ‹_›|(rw[aC (n:=op+1) ak ak] at *;omega)|(simp_all<;>omega))
def aHW(op:Int)(t o:aB)(kids:aA)(h:M.aK 21 op t o kids=some true):Cnt 21 op o kids.length:=by
 simp only[M.aK,M.aZ,M.dh,M.bP,M.eX,M.dV,M.dn,M.bU,gG,dH,CY,pW,Int.reduceBEq,reduceLE,reduceLT,reduceSub,reduceAdd,fO,ah] at h;revert h
 all_goals try simp only[Int.reduceBEq,reduceLE,reduceLT,reduceSub,reduceAdd,fO,ah]
 all_goals(cases ho0:(decide (0<=op))<;>cases ho1:(decide (op<=1))<;>cases ht:(t==[])<;>cases hy:(o==[])<;>cases h1:(o==[62])<;>cases h2:(o==[62,62])<;>cases h3:(o==[124])<;>simp_all<;>intros<;>constructor<;>intros<;>first|omega|exact y5 ‹_›|exact ET ‹_›|(rw[aC (n:=op+1) ak ak] at *;omega)|(simp_all<;>omega))
def aHX(op:Int)(t o:aB)(kids:aA)(h:M.aK 32 op t o kids=some true):Cnt 32 op o kids.length:=by
 simp only[M.aK,M.aZ,M.dh,M.bP,M.eX,M.dV,M.dn,M.bU,gG,dH,CY,pW,Int.reduceBEq,reduceLE,reduceLT,reduceSub,reduceAdd,fO,ah] at h;revert h;cases hn0:M.jT t with
 |none=>cases op==0<;>simp
 |some b0=>_
 cases hn1:M.jT o with
 |none=>cases b0<;>cases op==0<;>simp
 |some b1=>_
 all_goals try simp only[Int.reduceBEq,reduceLE,reduceLT,reduceSub,reduceAdd,fO,ah]
 all_goals(cases ho0:(op==0)<;>cases ht:(t==[])<;>cases hy:(o==[])<;>cases b0<;>cases b1<;>simp_all<;>intros<;>constructor<;>intros<;>first|omega|exact y5 ‹_›|exact ET ‹_›|(rw[aC (n:=op+1) ak ak] at *;omega)|(simp_all<;>omega))
def aHY(op:Int)(t o:aB)(kids:aA)(h:M.aK 34 op t o kids=some true):Cnt 34 op o kids.length:=by
 simp only[M.aK,M.aZ,M.dh,M.bP,M.eX,M.dV,M.dn,M.bU,gG,dH,CY,pW,Int.reduceBEq,reduceLE,reduceLT,reduceSub,reduceAdd,fO,ah] at h;revert h;cases hn0:M.mZ 2 t 0 with
 |none=>cases op==0<;>simp
 |some b0=>_
 all_goals try simp only[Int.reduceBEq,reduceLE,reduceLT,reduceSub,reduceAdd,fO,ah]
 all_goals(cases ho0:(op==0)<;>cases ht:(t==[])<;>cases hy:(o==[])<;>cases b0<;>simp_all<;>intros<;>constructor<;>intros<;>first|omega|exact y5 ‹_›|exact ET ‹_›|(rw[aC (n:=op+1) ak ak] at *;omega)|(simp_all<;>omega))
def aHZ(op:Int)(t o:aB)(kids:aA)(h:M.aK 42 op t o kids=some true):Cnt 42 op o kids.length:=by have hc:=amB h;have hr:=hc.rule rfl;constructor<;>intros<;>omega
def aH0(op:Int)(t o:aB)(kids:aA)(h:M.aK 43 op t o kids=some true):Cnt 43 op o kids.length:=by have hc:=amB h;have hr:=hc.range rfl;constructor<;>intros<;>omega
def Yc(k:Int)(op:Int)(t o:aB)(kids:aA)(j:Nat)(d:Int)(hj:j<kids.length)(hl:kids.length<=400)(hc:Cnt k op o kids.length)(h:M.bI k op t o kids (j:Int) d=some true)(hk:k=1∨k=2∨k=3∨k=4∨k=16∨k=22∨k=25∨k=26∨k=34):DJ (cls k op kids.length j) d:=by
 rcases hk with rfl|rfl|rfl|rfl|rfl|rfl|rfl|rfl|rfl
 all_goals
  have hw:i64.wrap ((kids.length:Int) - 1)=(kids.length:Int) - 1:=aC ak ak;simp only[M.bI,M.cO,iF,iG,iH,eu,gG,dH,Int.reduceBEq,reduceLE,reduceLT,reduceSub,reduceAdd,fO,ah] at h
  try rw[hw] at h
  have:=hc.non ak;omega
def Ia(k:Int)(op:Int)(t o:aB)(kids:aA)(j:Nat)(d:Int)(hj:j<kids.length)(hl:kids.length<=400)(hc:Cnt k op o kids.length)(h:M.bI k op t o kids (j:Int) d=some true)(hk:k=5∨k=6∨k=7∨k=8∨k=11∨k=12∨k=13∨k=14∨k=20∨k=21∨k=23∨k=24∨k=27∨k=32∨k=33∨k=40∨k=41∨k=45):DJ (cls k op kids.length j) d:=by
 rcases hk with rfl|rfl|rfl|rfl|rfl|rfl|rfl|rfl|rfl|rfl|rfl|rfl|rfl|rfl|rfl|rfl|rfl|rfl
 all_goals
  have hw:i64.wrap ((kids.length:Int) - 1)=(kids.length:Int) - 1:=aC ak ak;simp only[M.bI,M.cO,iF,iG,iH,eu,gG,dH,Int.reduceBEq,reduceLE,reduceLT,reduceSub,reduceAdd,fO,ah] at h
  try rw[hw] at h
  simp[cls,DJ,LZ,XY,acS,isIt,Bool.cond_eq_ite] at h⊢
  all_goals first|omega|((repeat' split at h)<;>simp_all<;>omega)
def ayU(k:Int)(op:Int)(t o:aB)(kids:aA)(j:Nat)(d:Int)(hj:j<kids.length)(hl:kids.length<=400)(hc:Cnt k op o kids.length)(h:M.bI k op t o kids (j:Int) d=some true)(hk:k=9∨k=10):DJ (cls k op kids.length j) d:=by
 rcases hk with rfl|rfl
 all_goals
  have hw:i64.wrap ((kids.length:Int) - 1)=(kids.length:Int) - 1:=aC ak ak;simp only[M.bI,M.cO,iF,iG,iH,eu,gG,dH,Int.reduceBEq,reduceLE,reduceLT,reduceSub,reduceAdd,fO,ah] at h
  try rw[hw] at h
  have hn:=hc.one ak;obtain rfl:j=0:=ak
  all_goals(simp[cls,DJ,LZ,XY,acS,isIt,Bool.cond_eq_ite] at h⊢<;>first|omega|(repeat' split at h)<;>simp_all<;>omega)
def arR(k:Int)(op:Int)(t o:aB)(kids:aA)(j:Nat)(d:Int)(hj:j<kids.length)(hl:kids.length<=400)(hc:Cnt k op o kids.length)(h:M.bI k op t o kids (j:Int) d=some true)(hk:k=15∨k=29∨k=30):DJ (cls k op kids.length j) d:=by
 rcases hk with rfl|rfl|rfl
 all_goals
  have hw:i64.wrap ((kids.length:Int) - 1)=(kids.length:Int) - 1:=aC ak ak;simp only[M.bI,M.cO,iF,iG,iH,eu,gG,dH,Int.reduceBEq,reduceLE,reduceLT,reduceSub,reduceAdd,fO,ah] at h
  try rw[hw] at h
  have hn:=hc.two ak;obtain rfl|rfl:j=0∨j=1:=ak
  all_goals(simp[cls,DJ,LZ,XY,acS,isIt,Bool.cond_eq_ite] at h⊢<;>first|omega|(repeat' split at h)<;>simp_all<;>omega)
def aH1(op:Int)(t o:aB)(kids:aA)(j:Nat)(d:Int)(hj:j<kids.length)(hl:kids.length<=400)(hc:Cnt 28 op o kids.length)(h:M.bI 28 op t o kids (j:Int) d=some true):DJ (cls 28 op kids.length j) d:=by
 have hw:i64.wrap ((kids.length:Int) - 1)=(kids.length:Int) - 1:=aC ak ak;simp only[M.bI,M.cO,iF,iG,iH,eu,gG,dH,Int.reduceBEq,reduceLE,reduceLT,reduceSub,reduceAdd,fO,ah] at h
 try rw[hw] at h
 have hn:=hc.cnd ak;obtain rfl|rfl|rfl:j=0∨j=1∨j=2:=ak
 all_goals(simp[cls,DJ,LZ,XY,acS,isIt,Bool.cond_eq_ite] at h⊢<;>first|omega|(repeat' split at h)<;>simp_all<;>omega)
def aH2(op:Int)(t o:aB)(kids:aA)(j:Nat)(d:Int)(hj:j<kids.length)(hl:kids.length<=400)(hc:Cnt 31 op o kids.length)(h:M.bI 31 op t o kids (j:Int) d=some true):DJ (cls 31 op kids.length j) d:=by
 have hw:i64.wrap ((kids.length:Int) - 1)=(kids.length:Int) - 1:=aC ak ak;simp only[M.bI,M.cO,iF,iG,iH,eu,gG,dH,Int.reduceBEq,reduceLE,reduceLT,reduceSub,reduceAdd,fO,ah] at h
 try rw[hw] at h
 have hn:=hc.four ak;obtain rfl|rfl|rfl|rfl:j=0∨j=1∨j=2∨j=3:=ak
 all_goals(simp[cls,DJ,LZ,XY,acS,isIt,Bool.cond_eq_ite] at h⊢<;>first|omega|(repeat' split at h)<;>simp_all<;>omega)
def aH3(op:Int)(t o:aB)(kids:aA)(j:Nat)(d:Int)(hj:j<kids.length)(hl:kids.length<=400)(hc:Cnt 42 op o kids.length)(h:M.bI 42 op t o kids (j:Int) d=some true):DJ (cls 42 op kids.length j) d:=by
 have hw:i64.wrap ((kids.length:Int) - 1)=(kids.length:Int) - 1:=aC ak ak;simp only[M.bI,M.cO,iF,iG,iH,eu,gG,dH,Int.reduceBEq,reduceLE,reduceLT,reduceSub,reduceAdd,fO,ah] at h
 try rw[hw] at h
 rcases hc.rule rfl with⟨rfl,h1⟩|⟨rfl,h1⟩|⟨rfl,h1⟩
 ·obtain rfl:j=0:=ak
  all_goals(simp[cls,DJ,LZ,XY,acS,isIt,Bool.cond_eq_ite,h1] at h⊢<;>first|omega|(repeat' split at h)<;>simp_all<;>omega)
 ·obtain rfl:j=0:=ak
  all_goals(simp[cls,DJ,LZ,XY,acS,isIt,Bool.cond_eq_ite,h1] at h⊢<;>first|omega|(repeat' split at h)<;>simp_all<;>omega)
 ·obtain rfl|rfl:j=0∨j=1:=ak
  all_goals(simp[cls,DJ,LZ,XY,acS,isIt,Bool.cond_eq_ite,h1] at h⊢<;>first|omega|(repeat' split at h)<;>simp_all<;>omega)
def aH4(op:Int)(t o:aB)(kids:aA)(j:Nat)(d:Int)(hj:j<kids.length)(hl:kids.length<=400)(hc:Cnt 43 op o kids.length)(h:M.bI 43 op t o kids (j:Int) d=some true):DJ (cls 43 op kids.length j) d:=by
 have hw:i64.wrap ((kids.length:Int) - 1)=(kids.length:Int) - 1:=aC ak ak;simp only[M.bI,M.cO,iF,iG,iH,eu,gG,dH,Int.reduceBEq,reduceLE,reduceLT,reduceSub,reduceAdd,fO,ah] at h
 try rw[hw] at h
 rcases hc.range rfl with⟨rfl,h1⟩|⟨rfl,h1⟩
 ·obtain rfl|rfl:j=0∨j=1:=ak
  all_goals(simp[cls,DJ,LZ,XY,acS,isIt,Bool.cond_eq_ite,h1] at h⊢<;>first|omega|(repeat' split at h)<;>simp_all<;>omega)
 ·obtain rfl|rfl|rfl:j=0∨j=1∨j=2:=ak
  all_goals(simp[cls,DJ,LZ,XY,acS,isIt,Bool.cond_eq_ite,h1] at h⊢<;>first|omega|(repeat' split at h)<;>simp_all<;>omega)
def aH5(op:Int)(t o:aB)(kids:aA)(j:Nat)(d:Int)(hj:j<kids.length)(hl:kids.length<=400)(hc:Cnt 44 op o kids.length)(h:M.bI 44 op t o kids (j:Int) d=some true):DJ (cls 44 op kids.length j) d:=by
 have hw:i64.wrap ((kids.length:Int) - 1)=(kids.length:Int) - 1:=aC ak ak;simp only[M.bI,M.cO,iF,iG,iH,eu,gG,dH,Int.reduceBEq,reduceLE,reduceLT,reduceSub,reduceAdd,fO,ah] at h
 try rw[hw] at h
 by_cases h1:j+1=kids.length
 ·have e:((j:Int)==(kids.length:Int) - 1)=true:=by rw[beq_iff_eq];omega
  rw[e] at h;simp[cls,DJ,h1,Bool.cond_eq_ite] at h⊢
  first|omega|skip
 ·have e:((j:Int)==(kids.length:Int) - 1)=false:=by rw[JX];omega
  rw[e] at h;simp[cls,DJ,h1,Bool.cond_eq_ite] at h⊢
  first|omega|skip
def aqj{k op:Int}{t o:aB}{kids:aA}(h:M.aK k op t o kids=some true):ad9 k:=by
 by_cases hk:ad9 k
 ·exact hk
 ·exfalso;have e1:(decide (k>=1) && decide (k<=16))=false:=by
   cases hq:(decide (k>=1) && decide (k<=16)) with
   |false=>rfl
   |true=>rw[EU,decide_eq_true_eq,decide_eq_true_eq] at hq;exact absurd (Or.inl hq) hk
  have e2:(decide (k>=20) && decide (k<=34))=false:=by
   cases hq:(decide (k>=20) && decide (k<=34)) with
   |false=>rfl
   |true=>rw[EU,decide_eq_true_eq,decide_eq_true_eq] at hq;exact absurd (Or.inr (Or.inl hq)) hk
  have e3:(decide (k>=40) && decide (k<=45))=false:=by
   cases hq:(decide (k>=40) && decide (k<=45)) with
   |false=>rfl
   |true=>rw[EU,decide_eq_true_eq,decide_eq_true_eq] at hq;exact absurd (Or.inr (Or.inr hq)) hk
  simp only[M.aK,M.aZ,gG,e1,e2,e3,ah,aS] at h;cases hm:M.dh k op t o kids with
  |none=>rw[hm] at h;cases h
  |some r=>rw[hm,ah] at h;cases h
def aH6{k op:Int}{t o:aB}{kids:aA}(h:M.aK k op t o kids=some true):Cnt k op o kids.length:=by
 have hk:k=1∨k=2∨k=3∨k=4∨k=5∨k=6∨k=7∨k=8∨k=9∨k=10∨k=11∨k=12∨k=13∨k=14∨k=15∨k=16∨k=20∨k=21∨k=22∨k=23∨k=24∨k=25∨k=26∨k=27∨k=28∨k=29∨k=30∨k=31∨k=32∨k=33∨k=34∨k=40∨k=41∨k=42∨k=43∨k=44∨k=45:=by have:=aqj h;unfold ad9 at this;omega
 rcases hk with rfl|rfl|rfl|rfl|rfl|rfl|rfl|rfl|rfl|rfl|rfl|rfl|rfl|rfl|rfl|rfl|rfl|rfl|rfl|rfl|rfl|rfl|rfl|rfl|rfl|rfl|rfl|rfl|rfl|rfl|rfl|rfl|rfl|rfl|rfl|rfl|rfl
 ·exact aed _ _ _ _ _ h ak
 ·exact a0i _ _ _ _ h
 ·exact a0j _ _ _ _ h
 ·exact a0k _ _ _ _ h
 ·exact aed _ _ _ _ _ h ak
 ·exact JO _ _ _ _ _ h ak
 ·exact aed _ _ _ _ _ h ak
 ·exact a0l _ _ _ _ h
 ·exact ayT _ _ _ _ _ h ak
 ·exact ayT _ _ _ _ _ h ak
 ·exact aHT _ _ _ _ h
 ·exact aHU _ _ _ _ h
 ·exact aed _ _ _ _ _ h ak
 ·exact JO _ _ _ _ _ h ak
 ·exact aHV _ _ _ _ h
 ·exact JO _ _ _ _ _ h ak
 ·exact JO _ _ _ _ _ h ak
 ·exact aHW _ _ _ _ h
 ·exact JO _ _ _ _ _ h ak
 ·exact JO _ _ _ _ _ h ak
 ·exact JO _ _ _ _ _ h ak
 ·exact JO _ _ _ _ _ h ak
 ·exact JO _ _ _ _ _ h ak
 ·exact aed _ _ _ _ _ h ak
 ·exact JO _ _ _ _ _ h ak
 ·exact JO _ _ _ _ _ h ak
 ·exact JO _ _ _ _ _ h ak
 ·exact JO _ _ _ _ _ h ak
 ·exact aHX _ _ _ _ h
 ·exact JO _ _ _ _ _ h ak
 ·exact aHY _ _ _ _ h
 ·exact JO _ _ _ _ _ h ak
 ·exact JO _ _ _ _ _ h ak
 ·exact aHZ _ _ _ _ h
 ·exact aH0 _ _ _ _ h
 ·exact aed _ _ _ _ _ h ak
 ·exact JO _ _ _ _ _ h ak
def aH7{k op:Int}{t o:aB}{kids:aA}{j:Nat}{d:Int}(hk:ad9 k)(hj:j<kids.length)(hl:kids.length<=400)(hc:Cnt k op o kids.length)(h:M.bI k op t o kids (j:Int) d=some true):DJ (cls k op kids.length j) d:=by
 have hk:k=1∨k=2∨k=3∨k=4∨k=5∨k=6∨k=7∨k=8∨k=9∨k=10∨k=11∨k=12∨k=13∨k=14∨k=15∨k=16∨k=20∨k=21∨k=22∨k=23∨k=24∨k=25∨k=26∨k=27∨k=28∨k=29∨k=30∨k=31∨k=32∨k=33∨k=34∨k=40∨k=41∨k=42∨k=43∨k=44∨k=45:=by unfold ad9 at hk;omega
 rcases hk with rfl|rfl|rfl|rfl|rfl|rfl|rfl|rfl|rfl|rfl|rfl|rfl|rfl|rfl|rfl|rfl|rfl|rfl|rfl|rfl|rfl|rfl|rfl|rfl|rfl|rfl|rfl|rfl|rfl|rfl|rfl|rfl|rfl|rfl|rfl|rfl|rfl
 ·exact Yc _ _ _ _ _ _ _ hj hl hc h ak
 ·exact Yc _ _ _ _ _ _ _ hj hl hc h ak
 ·exact Yc _ _ _ _ _ _ _ hj hl hc h ak
 ·exact Yc _ _ _ _ _ _ _ hj hl hc h ak
 ·exact Ia _ _ _ _ _ _ _ hj hl hc h ak
 ·exact Ia _ _ _ _ _ _ _ hj hl hc h ak
 ·exact Ia _ _ _ _ _ _ _ hj hl hc h ak
 ·exact Ia _ _ _ _ _ _ _ hj hl hc h ak
 ·exact ayU _ _ _ _ _ _ _ hj hl hc h ak
 ·exact ayU _ _ _ _ _ _ _ hj hl hc h ak
 ·exact Ia _ _ _ _ _ _ _ hj hl hc h ak
 ·exact Ia _ _ _ _ _ _ _ hj hl hc h ak
 ·exact Ia _ _ _ _ _ _ _ hj hl hc h ak
 ·exact Ia _ _ _ _ _ _ _ hj hl hc h ak
 ·exact arR _ _ _ _ _ _ _ hj hl hc h ak
 ·exact Yc _ _ _ _ _ _ _ hj hl hc h ak
 ·exact Ia _ _ _ _ _ _ _ hj hl hc h ak
 ·exact Ia _ _ _ _ _ _ _ hj hl hc h ak
 ·exact Yc _ _ _ _ _ _ _ hj hl hc h ak
 ·exact Ia _ _ _ _ _ _ _ hj hl hc h ak
 ·exact Ia _ _ _ _ _ _ _ hj hl hc h ak
 ·exact Yc _ _ _ _ _ _ _ hj hl hc h ak
 ·exact Yc _ _ _ _ _ _ _ hj hl hc h ak
 ·exact Ia _ _ _ _ _ _ _ hj hl hc h ak
 ·exact aH1 _ _ _ _ _ _ hj hl hc h
 ·exact arR _ _ _ _ _ _ _ hj hl hc h ak
 ·exact arR _ _ _ _ _ _ _ hj hl hc h ak
 ·exact aH2 _ _ _ _ _ _ hj hl hc h
 ·exact Ia _ _ _ _ _ _ _ hj hl hc h ak
 ·exact Ia _ _ _ _ _ _ _ hj hl hc h ak
 ·exact Yc _ _ _ _ _ _ _ hj hl hc h ak
 ·exact Ia _ _ _ _ _ _ _ hj hl hc h ak
 ·exact Ia _ _ _ _ _ _ _ hj hl hc h ak
 ·exact aH3 _ _ _ _ _ _ hj hl hc h
 ·exact aH4 _ _ _ _ _ _ hj hl hc h
 ·exact aH5 _ _ _ _ _ _ hj hl hc h
 ·exact Ia _ _ _ _ _ _ _ hj hl hc h ak
def aix{α:Type}{p:Nat->α->Bool}:∀{l:List α} {i j:Nat} {x:α},Xi p l i=true->l[j]? =some x->p (i+j) x=true
 |[],_,j,_,_,h=>by simp at h
 |y::l,i,0,x,h,e=>by rw[Xi,EU] at h;cases e;exact h.1
 |y::l,i,j+1,x,h,e=>by
  rw[Xi,EU] at h;rw[List.getElem?_cons_succ] at e;have:=aix h.2 e
  rwa [show i+1+j=i+(j+1) by omega] at this
def ayV{k op:Int}{n:Nat}:∀{ks:List Tn} {j:Nat},(∀i t,ks[i]? =some t->DJ (cls k op n (j+i)) t.kind∧Gw t)->oks k op n ks j
 |[],_,_=>by rw[oks];trivial
 |t::ts,j,h=>by
  rw[oks];have h0:=h 0 t rfl;refine⟨h0.1,h0.2,ayV λi u hu=> ?_⟩;have:=h (i+1) u (by rw[List.getElem?_cons_succ];exact hu)
  rwa [show j+(i+1)=j+1+i by omega] at this
def aCb{l:List Nd}(hall:Xi (np l) l 0=true)(hsm:∀n,n∈l->Small n)(hkl:∀n,n∈l->n.kids.length<=400)(t:Tn):∀b,Lies l b t->Gw t:=by
 refine Tn.ind (P:=λt=>∀b,Lies l b t->Gw t) ?_ t;intro k op x y ks ih b h;have hr:=h.root;have hm:=zZ hr;have hn:=aix hall hr;unfold np at hn;rw[EU] at hn;have hf:=(amF (hsm _ hm) (hkl _ hm)).1;rw[hn.1] at hf;have hc:=aH6 hf;rw[aU,dQ] at hc;have hkn:=aqj hf;rw[Gw];refine⟨hkn,hc,ayV λi u hu=>⟨?_,ih u (zZ hu) _ (Lies.QM h hu)⟩⟩;have he:=VX (b:=b) hu;have hlt:=(Md.1 hu).1;have hk:=aix hn.2 he;have hroot:=Lies.root' (Lies.QM h hu);unfold kp at hk;rw[U0] at hk;have hnd:(aal l (b+sizes (ks.take i)+sizes u.kids)).kind=u.kind:=by rw[aal,hroot]
 rw[hnd] at hk;have hko:=(arI (hsm _ hm) (hkl _ hm) hn.1 (0+i) (by rw[dQ];omega) u.kind).1;rw[hk] at hko;have:=aH7 (j:=0+i) hkn (by rw[aU,dQ];omega) (by rw[aU];exact hkl _ hm) (by rw[aU,dQ];exact hc) hko;rw[aU,dQ] at this;exact this
def arS{t:Tn}(h:JJ (t.flat 0)=true)(hsm:∀n,n∈t.flat 0->Small n):Gw t:=by unfold JJ at h;rw[EU,EU] at h;obtain⟨r,hv⟩:=amD h.1;exact aCb h.2.2 hsm hv.ain t 0 (Lies.whole t)
def wK:List Nd->Nat
 |[]=>0
 |n::l=>4+n.kids.length+wK l
def aee:∀a b:List Nd,wK (a++b)=wK a+wK b
 |[],b=>by simp[wK]
 |n::a,b=>by rw[VE,wK,wK,aee a b];omega
def aiy:∀l:List Nd,Az (aT true l)=true
 |[]=>rfl
 |n::l=>by have:aT true (n::l)=TK true n::aT true l:=rfl;rw[this,Az,aiy l];simp[TK,bM,D.pure]
def aef(l:List Nd):[[D.sl true 5 (aT true l)]].all bM=true:=by simp[bM,D.pure,aiy]
structure Ok(l:List Nd):Prop where
 len:l.length<=1048576
 kids:∀n,n∈l->n.kids.length<=1048576∧∀e,e∈n.kids->I64 e
 sm:∀n,n∈l->Small n
 w:wK l<=10000000
def Ok.k{l:List Nd}(h:Ok l):∀n,n∈l->n.kids.length<=1048576:=λn hn=>by have:=(h.kids n hn).1;omega
def ac2{l:List Nd}(h:JJ l=true):Jj l=true:=by unfold JJ at h;rw[EU] at h;exact h.1
def a0m{l:List Nd}(hs:(l.length+wNs l:Int)<=1048576)(hf:∀n,n∈l->Fit n)(hl:l.length<=1048576)(hk:∀n,n∈l->n.kids.length<=1048576):Ok l:=by
 have hw:∀l:List Nd,wK l<=4 * l.length+wNs l:=by
  intro l;induction l with
  |nil=>exact Nat.le_refl _
  |cons n l ih=>rw[wK,wNs,wN,lU];omega
 have:=hw l;exact⟨hl,λn hn=>⟨hk n hn,(hf n hn).kid⟩,λn hn=>by have h1:=as8 hn;have h2:wN n=n.text.length+n.other.length+n.kids.length:=rfl;exact⟨ak,ak⟩,ak⟩
def aeg(o:Bool)(n:Nd):Row:=[.int .i64 n.kind,.int .i64 n.op,.str n.text,.sl o 1 (encI n.kids)]
def dw(o:Bool)(l:List Nd):aA:=l.map (aeg o)
section
variable (o:Bool) (n:Nd) (l:List Nd) (i:Int)
@[simp] theorem jA:(dw o l).length=l.length:=by simp[dw]
@[simp] theorem aIH:idx (dw o l) i=(idx l i).map (aeg o):=agj _ _ _
@[simp] theorem vg(j:Nat):(dw o l)[j]? =(l[j]?).map (aeg o):=by simp[dw]
@[simp] theorem cD0:aY .i64 (aeg o n) 0=some n.kind:=rfl
@[simp] theorem cD1:aY .i64 (aeg o n) 1=some n.op:=rfl
@[simp] theorem cD2:cStr (aeg o n) 2=some n.text:=rfl
@[simp] theorem cD3:OE 1 (aeg o n) 3=some (encI n.kids):=rfl
@[simp] theorem aqk:aP (dw o l)=dw false l:=by
 induction l with
 |nil=>rfl
 |cons x l ih=>simp only[dw,Rh,aP] at ih⊢;rw[ih];simp[aeg,qg,D.fz,asB]
end
def QO(o:Bool)(a b:List Nd):dw o (a++b)=dw o a++dw o b:=by simp[dw]
def aiz:∀l:List Nd,Az (dw true l)=true
 |[]=>rfl
 |n::l=>by have:dw true (n::l)=aeg true n::dw true l:=rfl;rw[this,Az,aiz l];simp[aeg,bM,D.pure]
def ak1(l:List Nd):[[D.sl true 4 (dw true l)]].all bM=true:=by simp[bM,D.pure,aiz]
def len_eq(n c:Nat):((n:Int)==(c:Int))=Nat.beq n c:=by rw[Bool.eq_iff_iff,beq_iff_eq,Nat.beq_eq];omega
def aEl(n:Nat):((n:Int)==0)=Nat.beq n 0:=len_eq n 0
def aEm(n:Nat):((n:Int)==1)=Nat.beq n 1:=len_eq n 1
def ac3{P:Int->Prop}(h1:P 1)(h2:P 2)(h3:P 3)(h4:P 4)(h5:P 5)(h6:P 6)(h:∀k,k≠1->k≠2->k≠3->k≠4->k≠5->k≠6->P k)(k:Int):P k:=by
 by_cases e1:k=1
 ·rwa [e1]
 by_cases e2:k=2
 ·rwa [e2]
 by_cases e3:k=3
 ·rwa [e3]
 by_cases e4:k=4
 ·rwa [e4]
 by_cases e5:k=5
 ·rwa [e5]
 by_cases e6:k=6
 ·rwa [e6]
 exact h k e1 e2 e3 e4 e5 e6
def ac4(k n:Int)(x:aB)(rows:aA):M.wz k n x rows=some (Yb k n x rows.length):=by
 simp only[M.wz,M.Lc,M.strings_Contains,akQ,ah,QK,Yb,aEl,aEm];generalize hasB 10 x=hb;generalize (x==[])=xe;generalize Nat.beq rows.length 0=c0;generalize Nat.beq rows.length 1=c1;generalize (decide (0<=n) && decide (n<=40))=r
 by_cases hn:n=0
 ·subst hn;revert k;refine ac3 ?_ ?_ ?_ ?_ ?_ ?_ (λk e1 e2 e3 e4 e5 e6=> ?_)
  case refine_7=>rw[<-bne_iff_ne] at e1 e4;simp only[JX.2 e2,JX.2 e3,JX.2 e5,JX.2 e6,e1,e4,JX.2 (bne_iff_ne.1 e1),JX.2 (bne_iff_ne.1 e4)];cases xe<;>rfl
  all_goals cases xe<;>cases hb<;>cases r<;>rfl
 ·have hn':(n==0)=false:=JX.2 hn;have hn2:(n !=0)=true:=bne_iff_ne.2 hn;revert k;refine ac3 ?_ ?_ ?_ ?_ ?_ ?_ (λk e1 e2 e3 e4 e5 e6=> ?_)
  case refine_7=>rw[<-bne_iff_ne] at e1 e4;simp only[hn',hn2,JX.2 e2,JX.2 e3,JX.2 e5,JX.2 e6,e1,e4,JX.2 (bne_iff_ne.1 e1),JX.2 (bne_iff_ne.1 e4)];cases xe<;>rfl
  all_goals simp only[hn',hn2];cases xe<;>cases hb<;>cases r<;>rfl
def af0(k n:Int)(x:aB)(rows:aA)(hx:x.length<=1000000000):M.A8 k n x rows=some (Yb k n x rows.length):=by
 simp only[M.A8,M.P5,apY x hx,ah,QJ,Yb,aEl,aEm];generalize hasB 10 x=hb;generalize (x==[])=xe;generalize Nat.beq rows.length 0=c0;generalize Nat.beq rows.length 1=c1;generalize (decide (0<=n) && decide (n<=40))=r
 by_cases hn:n=0
 ·subst hn;revert k;refine ac3 ?_ ?_ ?_ ?_ ?_ ?_ (λk e1 e2 e3 e4 e5 e6=> ?_)
  case refine_7=>rw[<-bne_iff_ne] at e1 e4;simp only[JX.2 e2,JX.2 e3,JX.2 e5,JX.2 e6,e1,e4,JX.2 (bne_iff_ne.1 e1),JX.2 (bne_iff_ne.1 e4)];cases xe<;>rfl
  all_goals cases xe<;>cases hb<;>cases r<;>rfl
 ·have hn':(n==0)=false:=JX.2 hn;have hn2:(n !=0)=true:=bne_iff_ne.2 hn;revert k;refine ac3 ?_ ?_ ?_ ?_ ?_ ?_ (λk e1 e2 e3 e4 e5 e6=> ?_)
  case refine_7=>rw[<-bne_iff_ne] at e1 e4;simp only[hn',hn2,JX.2 e2,JX.2 e3,JX.2 e5,JX.2 e6,e1,e4,JX.2 (bne_iff_ne.1 e1),JX.2 (bne_iff_ne.1 e4)];cases xe<;>rfl
  all_goals simp only[hn',hn2];cases xe<;>cases hb<;>cases r<;>rfl
def Zq(l:List Nd)(o:Bool){i:Nat}{n:Nd}{st:List Int}(hi:l[i]? =some n)(hl:l.length<=90000000)(hst:Yt st)(hs:st.length=i):
  ∀(j:Nat) (a:Int),j<=n.kids.length->n.kids.length<=90000000->0<=a->a<=i->M.sZ (dw o l) (i:Int) (encI st) (a,(j:Int) - 1)=some (match dU st (n.kids.take j).reverse (a - 1) with
   |none=> .inl ()
   |some r=> .inr (r+1, -1))
 |0,a,hj,hk,h0,h1=>by rw[M.sZ];apply bn;simp only[M.DR,M.xE];rw[nZ ak,aS,List.take_zero,List.reverse_nil,dU];simp
 |j+1,a,hj,hkl,h0,h1=>by
  have hlt:i<l.length:=(Md.1 hi).1;obtain⟨k,hk⟩:∃k,n.kids[j]? =some k:=⟨n.kids[j]'ak,by simp⟩
  have ht:(n.kids.take (j+1)).reverse=k::(n.kids.take j).reverse:=by rw[List.take_add_one,hk,Option.toList_some,List.reverse_append];rfl
  rw[ht,dU];have e1:(((j+1:Nat):Int) - 1)=(j:Int):=ak;rw[e1];have hstep:M.DR (dw o l) (i:Int) (encI st) (a,(j:Int))=if a - 1<0∨k≠a - 1 then some (.inr (.inl ())) else some (.inl (st[k.toNat]?.getD 0,(j:Int) - 1)):=by
   simp only[M.DR,M.xE,aW,vg,hi,Jb,ah,cD3,lG,hk,Lu];rw[zdt ak,aI,aC (n:=a - 1) ak ak]
   by_cases h2:k=a - 1
   ·have:(k !=a - 1)=false:=by simp[h2]
    rw[this,aS]
    by_cases h3:a=0
    ·have:(a==0)=true:=by simp[h3]
     rw[this,aI,if_pos (.inl ak)]
    ·have:(a==0)=false:=by simp[h3]
     rw[this,aS,if_neg ak];obtain⟨d,hd⟩:∃d:Nat,a - 1=(d:Int):=⟨(a - 1).toNat,ak⟩
     have hdl:d<st.length:=ak;rw[h2,hd];simp only[ahn,aW,lG,U0];rw[List.getElem?_eq_getElem hdl];simp only[Jb,ah,Lu,Option.getD_some];rw[aC ak ak]
   ·have:(k !=a - 1)=true:=by simp[h2]
    rw[this,aI,if_pos (.inr h2)]
  by_cases hc:a - 1<0∨k≠a - 1
  ·rw[if_pos hc];rw[if_pos hc] at hstep;exact bn hstep
  ·rw[if_neg hc];rw[if_neg hc] at hstep;rw[M.sZ,bW hstep];have hz:=O8 hst k.toNat;have:=Zq l o hi hl hst hs j (st[k.toNat]?.getD 0) ak hkl hz.1 ak;rw[M.sZ] at this;exact this
def Yo(l:List Nd)(o:Bool)(hl:l.length<=90000000)(hk:∀n,n∈l->n.kids.length<=90000000):∀(rest:List Nd) (i:Nat) (st:List Int),l.drop i=rest->st.length=i->i<=l.length->Yt st->
  M.tq (dw o l) ((i:Int),encI st)=some (match fM st (ks rest) with
   |none=> .inl ()
   |some r=> .inr ((l.length:Int),encI r))
 |[],i,st,hd,hs,hi,hst=>by have:l.length<=i:=List.drop_eq_nil_iff.1 hd;rw[M.tq];apply bn;simp only[iY,M.DU,M.xG,jA];rw[nZ ak,aS];have:i=l.length:=ak;subst this;rfl
 |n::rest,i,st,hd,hs,hi,hst=>by
  have hn:l[i]? =some n:=by
   have:(l.drop i)[0]? =some n:=by rw[hd];rfl
   simpa using this
  have hlt:i<l.length:=(Md.1 hn).1;have hd':l.drop (i+1)=rest:=by rw[<-List.drop_drop,hd];rfl
  have hkn:=hk n (zZ hn);have hin:=Zq l o hn hl hst hs n.kids.length (i:Int) (Nat.le_refl _) hkn ak ak;rw[List.take_length] at hin;have hks:ks (n::rest)=n.kids::ks rest:=rfl;rw[hks,fM,hs];have hstep:M.DU (dw o l) ((i:Int),encI st)=some (match dU st n.kids.reverse ((i:Int) - 1) with
    |none=> .inr (.inl ())
    |some a=> .inl (((i+1:Nat):Int),encI (st++[a+1]))):=by
   simp only[iY,M.DU,M.xG,jA,aW,vg,hn,Jb,ah,cD3,aU];rw[zdt ak,aI,aC (n:=(n.kids.length:Int) - 1) ak ak,hin];cases hw:dU st n.kids.reverse ((i:Int) - 1) with
   |none=>rfl
   |some a=>simp only[ah,o8,letE,J3];rw[aJ ak,aI,aJ ak,aI,aC ak ak];simp[encI]
  cases hw:dU st n.kids.reverse ((i:Int) - 1) with
  |none=>rw[hw] at hstep;exact bn hstep
  |some a=>rw[hw] at hstep;rw[M.tq,bW hstep];have hr:=Dk hst _ _ _ ak ak hw;have:=Yo l o hl hk rest (i+1) (st++[a+1]) hd' (by simp[hs]) hlt (UY hst hr.1 hr.2);rw[M.tq] at this;exact this
def auL(st:List Int)(m i:Nat)(h:i<st.length):(st++List.replicate m 0)[i]? =some (st[i]?.getD 0):=by rw[List.getElem?_append_left h,List.getElem?_eq_getElem h];rfl
def Zr(v0 v1:aA)(v2 v3:Int)(k1 k2:Int)(x:aB){kids st:List Int}(m:Nat)(hk:kids.length<=90000000)(hl:st.length<=90000000)(hst:Yt st):
  ∀(j:Nat) (a:Int),j<=kids.length-> -1<=a->a<st.length->M.tH v0 v2 v1 v3 v2 (encI (st++List.replicate m 0)) k1 k2 x (encI kids) (a,(j:Int) - 1)=some (match dU st (kids.take j).reverse a with
   |none=> .inl ()
   |some r=> .inr (r, -1))
 |0,a,hj,h0,h1=>by rw[M.tH];apply bn;simp only[M.DY,M.xP];rw[nZ ak,aS,List.take_zero,List.reverse_nil,dU];simp
 |j+1,a,hj,h0,h1=>by
  obtain⟨k,hkj⟩:∃k,kids[j]? =some k:=⟨kids[j]'ak,by simp⟩
  have ht:(kids.take (j+1)).reverse=k::(kids.take j).reverse:=by rw[List.take_add_one,hkj,Option.toList_some,List.reverse_append];rfl
  rw[ht,dU];have e1:(((j+1:Nat):Int) - 1)=(j:Int):=ak;rw[e1];have hstep:M.DY v0 v2 v1 v3 v2 (encI (st++List.replicate m 0)) k1 k2 x (encI kids) (a,(j:Int))=if a<0∨k≠a then some (.inr (.inl ())) else some (.inl (st[k.toNat]?.getD 0 - 1,(j:Int) - 1)):=by
   simp only[M.DY,M.xP];rw[zdt ak,aI]
   by_cases ha:a<0
   ·rw[zdt ha,aI,if_pos (.inl ha)]
   ·rw[nZ ha,aS];simp only[aW,lG,hkj,Jb,ah,Lu]
    by_cases h2:k=a
    ·have:(k !=a)=false:=by simp[h2]
     obtain⟨d,rfl⟩:∃d:Nat,a=(d:Int):=⟨a.toNat,ak⟩
     rw[this,aS,if_neg ak];have hz:=O8 hst d;simp only[aW,U0,lG,auL st m d ak,Jb,ah,Lu];rw[aC ak ak,aC ak ak,h2,U0]
    ·have:(k !=a)=true:=by simp[h2]
     rw[this,aI,if_pos (.inr h2)]
  by_cases hc:a<0∨k≠a
  ·rw[if_pos hc];rw[if_pos hc] at hstep;exact bn hstep
  ·rw[if_neg hc];rw[if_neg hc] at hstep;rw[M.tH,bW hstep];have hz:=O8 hst k.toNat;have:=Zr v0 v1 v2 v3 k1 k2 x m hk hl hst j (st[k.toNat]?.getD 0 - 1) ak ak ak;rw[M.tH] at this;exact this
def Yp(l:List Nd)(o:Bool)(hl:l.length<=90000000)(hk:∀n,n∈l->n.kids.length<=90000000):∀(rest:List Nd) (i:Nat) (st:List Int),l.drop i=rest->st.length=i->i<=l.length->Yt st->
  M.tJ (dw o l) (dw o l) (l.length:Int) ((i:Int),encI (st++List.replicate (l.length - i) 0))=some (match fM st (ks rest) with
   |none=> .inl ()
   |some r=> .inr ((l.length:Int),encI r))
 |[],i,st,hd,hs,hi,hst=>by have:l.length<=i:=List.drop_eq_nil_iff.1 hd;rw[M.tJ];apply bn;simp only[M.DZ,M.xQ];rw[nZ ak,aS];have:i=l.length:=ak;subst this;rw[Nat.sub_self,List.replicate_zero,List.append_nil];rfl
 |n::rest,i,st,hd,hs,hi,hst=>by
  have hn:l[i]? =some n:=by
   have:(l.drop i)[0]? =some n:=by rw[hd];rfl
   simpa using this
  have hlt:i<l.length:=(Md.1 hn).1;have hd':l.drop (i+1)=rest:=by rw[<-List.drop_drop,hd];rfl
  have hkn:=hk n (zZ hn);have hin:=Zr (dw o l) (dw o l) (i:Int) (l.length:Int) n.kind n.op n.text (kids:=n.kids) (l.length - i) hkn ak hst n.kids.length ((i:Int) - 1) (Nat.le_refl _) ak ak;rw[List.take_length] at hin;have hks:ks (n::rest)=n.kids::ks rest:=rfl;rw[hks,fM,hs];have hstep:M.DZ (dw o l) (dw o l) (l.length:Int) ((i:Int),encI (st++List.replicate (l.length - i) 0))=some (match dU st n.kids.reverse ((i:Int) - 1) with
    |none=> .inr (.inl ())
    |some a=> .inl (((i+1:Nat):Int),encI ((st++[a+1])++List.replicate (l.length - (i+1)) 0))):=by
   simp only[M.DZ,M.xQ,aW,vg,hn,Jb,ah,cD0,cD1,cD2,cD3,aU];rw[zdt ak,aI,aC (n:=(n.kids.length:Int) - 1) ak ak,aC (n:=(i:Int) - 1) ak ak,hin];cases hw:dU st n.kids.reverse ((i:Int) - 1) with
   |none=>rfl
   |some a=>
    have hr:=Dk hst _ _ _ ak ak hw;have hg:(encI (st++List.replicate (l.length - i) 0))[i]? =some [D.int .i64 0]:=by rw[lG,List.getElem?_append_right ak,hs,Nat.sub_self,List.getElem?_replicate,if_pos ak];rfl
    have hsp:splice [D.int .i64 0] 0 [D.int .i64 (i64.wrap (a+1))]=[D.int .i64 (a+1)]:=by rw[aC ak ak];rfl
    simp only[ah,o8,letE,U0,hg,hsp];rw[aC ak ak,avX,List.set_append_right i (a+1) ak,hs,Nat.sub_self];obtain⟨q,hq⟩:∃q,l.length - i=q+1:=⟨l.length - i - 1,ak⟩
    rw[hq,List.replicate_succ,List.set_cons_zero,show l.length - (i+1)=q by omega,Ad,List.singleton_append];rfl
  cases hw:dU st n.kids.reverse ((i:Int) - 1) with
  |none=>rw[hw] at hstep;exact bn hstep
  |some a=>rw[hw] at hstep;rw[M.tJ,bW hstep];have hr:=Dk hst _ _ _ ak ak hw;have:=Yp l o hl hk rest (i+1) (st++[a+1]) hd' (by simp[hs]) hlt (UY hst hr.1 hr.2);rw[M.tJ] at this;exact this
mutual
def txs:Tn->Nat
 | .mk _ _ x _ ks=>x.length+uO ks
def uO:List Tn->Nat
 |[]=>0
 |t::ts=>txs t+uO ts
end
def TV:∀a b:List Tn,uO (a++b)=uO a+uO b
 |[],b=>by simp[uO]
 |t::a,b=>by rw[VE,uO,uO,TV a b];omega
def aql:∀{ks:List Tn} {t:Tn},t∈ks->txs t<=uO ks
 |[],_,h=>by cases h
 |u::us,t,h=>by
  rw[uO];rcases List.mem_cons.1 h with rfl|h
  ·omega
  ·have:=aql h;omega
mutual
def arU(X:Nat):∀(t:Tn) (b:Nat),(∀n,n∈t.flat b->n.text.length<=X)->txs t<=X * t.size
 | .mk k o x y ks,b,h=>by
  rw[Tn.flat] at h;have h1:=ati X ks b λn hn=>h n (List.mem_append_left _ hn)
  have h2:x.length<=X:=h ⟨k,o,x,y,ends ks b⟩ (by simp);rw[txs,Tn.size,Nat.mul_add,Nat.mul_one];omega
def ati(X:Nat):∀(ks:List Tn) (b:Nat),(∀n,n∈iW ks b->n.text.length<=X)->uO ks<=X * sizes ks
 |[],b,_=>by simp[uO]
 |t::ts,b,h=>by
  rw[iW] at h;have h1:=arU X t b λn hn=>h n (List.mem_append_left _ hn)
  have h2:=ati X ts _ λn hn=>h n (List.mem_append_right _ hn)
  rw[uO,sizes,Nat.mul_add];omega
end
def ayW(n:Nd):Bool:=Yb n.kind n.op n.text n.kids.length
mutual
def aiA:∀(t:Tn) (b:Nat),(t.flat b).all ayW=(dOk t)
 | .mk k o x y ks,b=>by rw[Tn.flat,List.all_append,ak2 ks b,dOk];simp[ayW,dQ]
def ak2:∀(ks:List Tn) (b:Nat),(iW ks b).all ayW=aqi ks
 |[],_=>rfl
 |t::ts,b=>by rw[iW,List.all_append,aiA t b,ak2 ts _,aqi]
end
def aiB{α:Type}(f:α->Bool):∀(l:List α) (i:Nat),Xi (λ_ x=>f x) l i=l.all f
 |[],_=>rfl
 |x::l,i=>by rw[Xi,aiB f l,List.all_cons]
section
variable {t:Tn} {o:Bool} (h:t.size<=90000000)
include h
theorem Yd:(t.flat 0).length<=90000000∧∀n,n∈t.flat 0->n.kids.length<=90000000:=
 ⟨by rw[t.flat_length];exact h,λn hn=>by have:=(Xk t 0 n hn).1;omega⟩
theorem aqm:∃q:Nat,(t.size:Int) - 1=(q:Int)∧(t.sts 0)[q]? =some 0:=by obtain⟨u,hu,hul⟩:=t.ahu 0;have hp:=t.size_pos;refine⟨u.length,ak, ?_⟩;rw[hu,List.getElem?_append_right (Nat.le_refl _),Nat.sub_self];rfl
theorem ac5:(M.qp (dw o (t.flat 0))).map (·.2)=some (decide (t.size<=4000)):=by
 have hp:=t.size_pos;obtain⟨h1,h2⟩:=Yd h;have hout:=Yp (t.flat 0) o h1 h2 (t.flat 0) 0 [] rfl rfl (Nat.zero_le _) Vd;simp only[M.qp,M.EP,QK,ah,jA,t.flat_length]
 by_cases hs:t.size<=4000
 ·have e0:encI ([]++List.replicate ((t.flat 0).length - 0) 0)=List.replicate ((t.size:Int)).toNat [D.int .i64 0]:=by simp[encI,t.flat_length]
  rw[e0,pz,YW,t.flat_length] at hout;rw[zdt (show(1:Int)<=t.size by omega),zdt (show(t.size:Int)<=4000 by omega),Bool.true_and,Bool.not_true,aS,hout];have hg:(decide (0<=(t.size:Int)) && decide ((t.size:Int)<=(t.size:Int)) && decide ((t.size:Int) * 8<=140737488355328) && decide ((t.size:Int)<=140737488355328))=true:=by simp;omega
  obtain⟨q,hq1,hq2⟩:=aqm h;simp only[hg,aI,ah,o8,letE];rw[aC ak ak,hq1];simp only[aW,lG,hq2,Jb,ah,Lu,U0,Ea,aI];rw[zdt hs];rfl
 ·rw[nZ (show¬(t.size:Int)<=4000 by omega),Bool.and_false,Bool.not_false,aI,nZ hs];rfl
theorem ajN:M.Dy (dw o (t.flat 0))=some ((dOk t) && decide (t.size<=4000)):=by
 have hl:=Xj (t.flat 0) (λ_ n=>ayW n) (b:=M.Ob (dw o (t.flat 0)) (dw o (t.flat 0)) ((t.flat 0).length:Int))
  (λi n hi=>by have hil:=(Md.1 hi).1;rw[t.flat_length] at hil;simp only[M.Ob,M.Hg,t.flat_length,aW,vg,hi,Jb,ah,cD0,cD1,cD2,cD3,ac4,aU];rw[zdt ak,aI,aC ak ak];change _=some (bif Yb n.kind n.op n.text n.kids.length then _ else _);cases Yb n.kind n.op n.text n.kids.length<;>rfl)
  (by simp only[M.Ob,M.Hg];rw[nZ ak,aS])
 rw[aiB,aiA] at hl;have hs:=ac5 (o:=o) h;simp only[M.Dy,M.Qw,M.HY,jA,hl,ah];cases hd:(dOk t) with
 |false=>rfl
 |true=>
  cases hx:M.qp (dw o (t.flat 0)) with
  |none=>rw[hx] at hs;cases hs
  |some r=>rw[hx] at hs;simp only[Jb,iI] at hs;simp only[aI,o8,letE,ah,hs,Bool.true_and]
theorem ac6:M.vX (dw o (t.flat 0))=some (encI (t.sts 0),true):=by obtain⟨h1,h2⟩:=Yd h;have hout:=Yo (t.flat 0) o h1 h2 (t.flat 0) 0 [] rfl rfl (Nat.zero_le _) Vd;rw[pz,YW] at hout;have e0:encI []=[]:=rfl;rw[e0] at hout;simp only[M.vX,M.KE,hout,ah,o8,letE,Ea,aI]
theorem ajO(hx:∀n,n∈t.flat 0->n.text.length<=1000000000):M.Dv (dw o (t.flat 0))=some ((dOk t) && decide (t.size<=4000)):=by
 have hp:=t.size_pos;simp only[M.Dv,M.P6,QJ,ah,jA,t.flat_length]
 by_cases hs:t.size<=4000
 ·have hl:=Xj (t.flat 0) (λ_ n=>ayW n) (b:=M.NG (dw o (t.flat 0)))
   (λi n hi=>by have hil:=(Md.1 hi).1;have hxn:=hx n (zZ hi);rw[t.flat_length] at hil;simp only[M.NG,M.GZ,jA,t.flat_length,aW,vg,hi,Jb,ah,cD0,cD1,cD2,cD3,af0 _ _ n.text _ ak,aU];rw[zdt ak,aI,aC ak ak];change _=some (bif Yb n.kind n.op n.text n.kids.length then _ else _);cases Yb n.kind n.op n.text n.kids.length<;>rfl)
   (by simp only[M.NG,M.GZ,jA];rw[nZ ak,aS])
  rw[aiB,aiA] at hl;rw[zdt (show(1:Int)<=t.size by omega),zdt (show(t.size:Int)<=4000 by omega),Bool.true_and,Bool.not_true,aS,M.SH,hl,ah,zdt hs,Bool.and_true];cases hd:(dOk t) with
  |false=>rfl
  |true=>obtain⟨q,hq1,hq2⟩:=aqm h;simp only[aI,o8,letE,ac6 (o:=o) h,ah];rw[aC ak ak,hq1];simp only[aW,lG,hq2,Jb,ah,Lu,U0];rfl
 ·rw[nZ (show¬(t.size:Int)<=4000 by omega),Bool.and_false,Bool.not_false,aI,nZ hs,Bool.and_false]
end
def ak3:M.Dy []=some false∧M.Dv []=some false:=by
 constructor
 ·have:M.HY [] [] 0 0=some (.inr 0):=by rw[M.HY];exact bn rfl
  simp only[M.Dy,M.Qw,qX,pz,this,ah,o8,letE,M.qp,M.EP,QK];rfl
 ·simp only[M.Dv,M.P6,QJ,ah,qX,pz];rfl
def grp(l:List Nd):Int:=((l.filter (·.kind==5)).length:Int)
def aqn(l:List Nd)(o:Bool)(hl:l.length<=90000000):M.yQ (dw o l)=some (grp l):=by
 have hg:∀i,((l.take i).filter (·.kind==5)).length<=l.length:=λi=>Nat.le_trans (List.length_filter_le _ _) (by rw[Ud];omega)
 have hloop:=fJ (b:=M.Gl (dw o l) (l.length:Int)) (t:=(grp l,(l.length:Int))) (λi=>(grp (l.take i),(i:Int))) l.length
  (by
   intro i hi;obtain⟨n,hn⟩:∃n,l[i]? =some n:=⟨l[i],by simp[hi]⟩
   have hgi:=hg i;simp only[M.Gl,M.zM,aW,vg,hn,Jb,ah,cD0,cD1,cD2,cD3];rw[zdt ak,aI,dP hn,grp,grp,List.filter_append];cases hk:n.kind==5 with
   |true=>rw[aI,aC ak ak,aC ak ak];simp[hk]
   |false=>rw[aS,aC ak ak];simp[hk])
  (by simp only[M.Gl,M.zM];rw[nZ ak,aS,List.take_length]) 0 (Nat.zero_le _)
 have e0:grp (l.take 0)=0:=rfl;rw[e0,pz] at hloop;simp only[M.yQ,M.Oc,jA,M.Ld,hloop,ah]
mutual
def aqo(l:List Nd):Tn->Nat->Row
 | .mk k n x _ ks,b=>[.int .i64 k,.int .i64 n,.str x,.sl true 5 (zT l ks b),.int .i64 (grp (l.take (b+sizes ks)))]
def zT(l:List Nd):List Tn->Nat->aA
 |[],_=>[]
 |t::ts,b=>aqo l t b::zT l ts (b+t.size)
end
def aaM(l:List Nd):∀(a c:List Tn) (b:Nat),zT l (a++c) b=zT l a b++zT l c (b+sizes a)
 |[],c,b=>by simp[zT,sizes]
 |t::a,c,b=>by rw[VE,zT,zT,aaM l a c,sizes,VE,Nat.add_assoc]
def aqp{l:List Nd}{ks:List Tn}{j:Nat}{t:Tn}{b:Nat}(hj:ks[j]? =some t):zT l (ks.take (j+1)) b=zT l (ks.take j) b++[aqo l t (b+sizes (ks.take j))]:=by rw[dP hj,aaM];rfl
def aaN(l:List Nd):∀(ks:List Tn) (b:Nat),(zT l ks b).length=ks.length
 |[],_=>rfl
 |t::ts,b=>by rw[zT,lU,aaN l ts,lU]
def ayX(l:List Nd)(t:Tn)(b:Nat):aqo l t b=[.int .i64 t.kind,.int .i64 t.op,.str t.text,.sl true 5 (zT l t.kids b),.int .i64 (grp (l.take (b+sizes t.kids)))]:=by cases t;rfl
def ayY{l:List Nd}{o:Bool}(hl:l.length<=90000000)(t:Tn):∀(f b:Nat),Lies l b t->t.size<=f->
  M.oZ f (dw o l) ((b+sizes t.kids:Nat):Int)=some (t.kind,t.op,t.text,zT l t.kids b,grp (l.take (b+sizes t.kids))):=by
 refine Tn.ind (P:=λt=>∀(f b:Nat),Lies l b t->t.size<=f->M.oZ f (dw o l) ((b+sizes t.kids:Nat):Int)=some (t.kind,t.op,t.text,zT l t.kids b,grp (l.take (b+sizes t.kids)))) ?_ t;intro k op x y ks ih f b h hf;cases f with
 |zero=>rw[Tn.size] at hf;omega
 |succ f=>
  have hroot:l[b+sizes ks]? =some ⟨k,op,x,y,ends ks b⟩:=h.root;have hlt:=h.lt;rw[Tn.size] at hf hlt;have hkl:=iZ ks;have hcut:cut (dw o l) 0 ((b+sizes ks:Nat):Int)=some (dw o (l.take (b+sizes ks))):=by rw[cut,zdt (Int.le_refl 0),zdt ak,zdt (by rw[jA];omega)];simp only[Bool.and_self,aI,Int.toNat_zero,List.drop_zero,U0,Nat.sub_zero,dw,List.map_take]
  have hgr:=aqn (l.take (b+sizes ks)) o (by rw[Ud];omega);simp only[M.oZ,M.Qx,aW,vg,Tn.kids,Tn.kind,Tn.op,Tn.text,hroot,Jb,ah,cD0,cD1,cD2,cD3,aU,dQ,hcut,hgr];generalize hG:grp (l.take (b+sizes ks))=gg;have hrec:∀j t,ks[j]? =some t->M.oZ f (dw o l) ((b+sizes (ks.take j)+sizes t.kids:Nat):Int)=some (t.kind,t.op,t.text,zT l t.kids (b+sizes (ks.take j)),grp (l.take (b+sizes (ks.take j)+sizes t.kids))):=λj t hj=>ih t (zZ hj) f _ (Lies.QM h hj) (by have:=zQ hj;omega)
  have hloop:=fJ (b:=M.Au (M.oZ f))
   (t:=if ks=[] then .inl (dw o l,encI (ends ks b),(ks.length:Int),0,0,0,[],0,k,op,x,gg) else .inr (dw o l,encI (ends ks b),(ks.length:Int),(ks.length:Int),0,0,[],0,k,op,x,gg,zT l ks b))
   (λj=>if j=0 then .inl (dw o l,encI (ends ks b),(ks.length:Int),0,0,0,[],0,k,op,x,gg) else .inr (dw o l,encI (ends ks b),(ks.length:Int),(j:Int),0,0,[],0,k,op,x,gg,zT l (ks.take j) b)) ks.length
   (by
    intro j hj;obtain⟨t,ht⟩:∃t,ks[j]? =some t:=⟨ks[j],by simp⟩
    have hr:=hrec j t ht;have he:=VX (b:=b) ht;rw[if_neg (show¬j+1=0 by omega),aqp ht,ayX]
    by_cases h0:j=0
    ·subst h0;rw[if_pos rfl];have hi:idx (encI (ends ks b)) 0=some [D.int .i64 ((b+sizes (ks.take 0)+sizes t.kids:Nat):Int)]:=by have:=aW (encI (ends ks b)) 0;rw[pz] at this;rw[this,lG,he];rfl
     simp only[iY,M.Au,M.xw,hi,ah,Lu,hr];rw[zdt ak,aI];rfl
    ·rw[if_neg h0];simp only[iY,M.Au,M.xw,aW,lG,he,Jb,ah,Lu,hr,aaN,Ud,J3];rw[zdt ak,aI,aJ ak,aI,aJ ak,aI,aC ak ak];rfl)
   (by
    by_cases h0:ks.length=0
    ·have he:ks=[]:=List.length_eq_zero_iff.1 h0;rw[if_pos h0,if_pos he];simp only[iY,M.Au,M.xw];rw[nZ ak,aS]
    ·have he:¬ks=[]:=λe=>h0 (by rw[e];rfl)
     rw[if_neg h0,if_neg he,List.take_length];simp only[iY,M.Au,M.xw];rw[nZ ak,aS]) 0 (Nat.zero_le _)
  rw[if_pos rfl] at hloop;rw[M.Tt,hloop,ah]
  by_cases he:ks=[]
  ·rw[if_pos he,he];rfl
  ·rw[if_neg he];rfl
def ayZ{t:Tn}{o:Bool}(h:t.size<=90000000):M.Jp (dw o (t.flat 0))=some (t.kind,t.op,t.text,zT (t.flat 0) t.kids 0,grp ((t.flat 0).take (sizes t.kids))):=by have hs:=t.tZ;have h1:=M.ajL (ayY (o:=o) (Yd h).1 t t.size 0 (Lies.whole t) (Nat.le_refl _));rw[Nat.zero_add] at h1;simp only[M.Jp,M.UL,jA,t.flat_length];rw[aC ak ak,show(t.size:Int) - 1=((sizes t.kids:Nat):Int) by omega,h1,ah]
mutual
def dcR:Tn->Row->Prop
 | .mk k n x _ ks,r=>∃rows g,r=[.int .i64 k,.int .i64 n,.str x,.sl false 5 rows,.int .i64 g]∧Un ks rows
def Un:List Tn->aA->Prop
 |[],rows=>rows=[]
 |t::ts,rows=>∃r rs,rows=r::rs∧dcR t r∧Un ts rs
end
def ac7(t:Tn)(r:Row):dcR t r↔∃rows g,r=[.int .i64 t.kind,.int .i64 t.op,.str t.text,.sl false 5 rows,.int .i64 g]∧Un t.kids rows:=by cases t;rfl
def JQ:∀{ts:List Tn} {rows:aA},Un ts rows->rows.length=ts.length
 |[],_,h=>by rw[Un] at h;rw[h];rfl
 |t::ts,_,h=>by obtain⟨r,rs,rfl,_,h2⟩:=h;rw[lU,JQ h2,lU]
def afi:∀{a b:List Tn} {ra rb:aA},Un a ra->Un b rb->Un (a++b) (ra++rb)
 |[],_,_,_,h,h2=>by rw[Un] at h;subst h;exact h2
 |t::ts,_,_,_,⟨r,rs,e,h1,h2⟩,h3=>by subst e;exact⟨r,_,rfl,h1,afi h2 h3⟩
def ac8:∀{ts:List Tn} {rows:aA} {j:Nat} {t:Tn},Un ts rows->ts[j]? =some t->∃r,rows[j]? =some r∧dcR t r
 |[],_,_,_,_,h=>by simp at h
 |u::ts,_,0,t,⟨r,rs,rfl,h1,_⟩,h=>by cases h;exact⟨r,rfl,h1⟩
 |u::ts,_,j+1,t,⟨r,rs,rfl,_,h2⟩,h=>by rw[List.getElem?_cons_succ] at h⊢;exact ac8 h2 h
mutual
def aH8:∀(t:Tn) (r:Row),dcR t r->qg r=r
 | .mk k n x y ks,r,⟨rows,g,e,h⟩=>by subst e;simp only[qg,D.fz,amU ks rows h]
def amU:∀(ts:List Tn) (rows:aA),Un ts rows->aP rows=rows
 |[],_,h=>by rw[Un] at h;subst h;rfl
 |t::ts,_,⟨r,rs,e,h1,h2⟩=>by subst e;rw[aP,aH8 t r h1,amU ts rs h2]
end
mutual
def auM(l:List Nd):∀(t:Tn) (b:Nat),dcR t (qg (aqo l t b))
 | .mk k n x y ks,b=>⟨aP (zT l ks b),_,rfl,Zt l ks b⟩
def Zt(l:List Nd):∀(ts:List Tn) (b:Nat),Un ts (aP (zT l ts b))
 |[],_=>rfl
 |t::ts,b=>⟨qg (aqo l t b),aP (zT l ts (b+t.size)),rfl,auM l t b,Zt l ts _⟩
end
def bytesOf_map:∀s:aB,bytesOf (s.map byteRow)=some s
 |[]=>rfl
 |c::s=>by
  have h:asByte (byteRow c)=some c:=by simp only[byteRow,asByte];simp
  rw[Rh,bytesOf,h,bytesOf_map s]
def JR(s:aB):ay (s.map byteRow)=true:=by simp only[ay,List.all_map,List.all_eq_true];intro x _;rfl
mutual
def ac9:∀(t:Tn) (s:aB),DK t=some s->s.length<=txs t+t.size
 | .mk k n x y ks,s,h=>by
  rw[DK] at h;rw[txs,Tn.size];cases h1:k==1 with
  |true=>rw[h1,aI] at h;cases h;omega
  |false=>
   rw[h1,aS] at h;cases h2:k==2 with
   |true=>rw[h2,aI] at h;cases h;simp only[J3];omega
   |false=>
    rw[h2,aS] at h;cases h3:k==3 with
    |true=>rw[h3,aI] at h;cases h
    |false=>rw[h3,aS] at h;have:=ak4 ks s h;omega
def ak4:∀(ts:List Tn) (s:aB),Ag ts=some s->s.length<=uO ts+sizes ts
 |[],s,h=>by cases h;simp
 |t::ts,s,h=>by
  rw[Ag] at h;rw[uO,sizes];cases ha:DK t with
  |none=>rw[ha] at h;cases h
  |some a=>
   rw[ha] at h;cases hb:Ag ts with
   |none=>rw[hb] at h;cases h
   |some b=>rw[hb] at h;cases h;have h1:=ac9 t a ha;have h2:=ak4 ts b hb;rw[pF];omega
end
def flR(o:Option (aB)):aB×Bool:=match o with
 |some s=>(s,true)
 |none=>([],false)
def aCc(t:Tn):∀(f:Nat) (rows:aA) (g:Int),t.size<=f->Un t.kids rows->txs t+t.size<=20000000000000->
  M.lC f t.kind t.op t.text rows g=some (flR (DK t)):=by
 refine Tn.ind (P:=λt=>∀(f:Nat) (rows:aA) (g:Int),t.size<=f->Un t.kids rows->txs t+t.size<=20000000000000->M.lC f t.kind t.op t.text rows g=some (flR (DK t))) ?_ t;intro k n x y ks ih f rows g hf hr hx;cases f with
 |zero=>rw[Tn.size] at hf;omega
 |succ f=>
  rw[Tn.size] at hf;rw[txs,Tn.size] at hx;simp only[M.lC,M.Hl,Tn.kids,Tn.kind,Tn.op,Tn.text,DK] at hr⊢;cases h1:k==1 with
  |true=>rfl
  |false=>
  cases h2:k==2 with
  |true=>rfl
  |false=>
  cases h3:k==3 with
  |true=>rfl
  |false=>
  simp only[aS];have hrl:=JQ hr;have hkl:=iZ ks;have key:∀(ts:List Tn) (j:Nat) (acc:aB),ks.drop j=ts->j<=ks.length->acc.length+(uO ts+sizes ts)<=20000000000000->
    dI (M.uy (M.lC f) rows (rows.length:Int)) ((j:Int),acc.map byteRow)=some (match Ag ts with
     |none=> .inl ()
     |some s=> .inr ((rows.length:Int),(acc++s).map byteRow)):=by
   intro ts;induction ts with
   |nil=>intro j acc hd hj _;have:ks.length<=j:=List.drop_eq_nil_iff.1 hd;have:j=rows.length:=ak;subst this;apply bn;simp only[M.uy,M.uw,Ag];rw[nZ ak,aS,List.append_nil]
   |cons u ts ihl=>
    intro j acc hd hj hl;have hu:ks[j]? =some u:=by
     have:(ks.drop j)[0]? =some u:=by rw[hd];rfl
     simpa using this
    have hlt:j<ks.length:=(Md.1 hu).1;have hd':ks.drop (j+1)=ts:=by rw[<-List.drop_drop,hd];rfl
    obtain⟨r,hrj,hrD⟩:=ac8 hr hu;obtain⟨rows',g',rfl,hk'⟩:=(ac7 u r).1 hrD;have hmem:=zZ hu;have hsz:=iw hmem;have htx:=aql hmem;have hfu:=ih u hmem f rows' g' ak hk' ak;rw[uO,sizes] at hl;have c0:aY .i64 [D.int .i64 u.kind,.int .i64 u.op,.str u.text,.sl false 5 rows',.int .i64 g'] 0=some u.kind:=rfl;have c1:aY .i64 [D.int .i64 u.kind,.int .i64 u.op,.str u.text,.sl false 5 rows',.int .i64 g'] 1=some u.op:=rfl;have c2:cStr [D.int .i64 u.kind,.int .i64 u.op,.str u.text,.sl false 5 rows',.int .i64 g'] 2=some u.text:=rfl;have c3:OE 5 [D.int .i64 u.kind,.int .i64 u.op,.str u.text,.sl false 5 rows',.int .i64 g'] 3=some rows':=rfl;have c4:aY .i64 [D.int .i64 u.kind,.int .i64 u.op,.str u.text,.sl false 5 rows',.int .i64 g'] 4=some g':=rfl;rw[Ag];cases hfx:DK u with
    |none=>apply bn;simp only[M.uy,M.uw,aW,hrj,ah,c0,c1,c2,c3,c4,hfu,hfx,flR,Bool.not_false,aI];rw[zdt ak,aI]
    |some a=>
     have hal:=ac9 u a hfx;have hs:M.uy (M.lC f) rows (rows.length:Int) ((j:Int),acc.map byteRow)=some (.inl (((j+1:Nat):Int),(acc++a).map byteRow)):=by simp only[M.uy,M.uw,aW,hrj,ah,c0,c1,c2,c3,c4,hfu,hfx,flR,Bool.not_true,aS,List.length_map];rw[zdt ak,aI,aJ ak,aI,aJ ak,aI,aC ak ak,List.map_append];rfl
     rw[bW hs,ihl (j+1) (acc++a) hd' hlt (by rw[pF];omega)];cases Ag ts with
     |none=>rfl
     |some b=>simp only[Ad]
  have h0:=key ks 0 [] rfl (Nat.zero_le _) (by simp only[qX];omega);have e0:([]:aB).map byteRow=[]:=rfl;rw[pz,e0] at h0;rw[M.IZ,h0];cases Ag ks with
  |none=>rfl
  |some s=>simp only[ah,o8,letE,List.nil_append,bytesOf_map,flR]
def aiC:∀a b:List Tn,VB (a++b)=bif(VB a).2 then VB a else((VB a).1+(VB b).1,(VB b).2)
 |[],b=>by simp[VB]
 |t::a,b=>by
  rw[VE,VB,VB,aiC a b];cases h:(bh t).2 with
  |true=>simp[h]
  |false=>simp only[aS];cases h2:(VB a).2<;>simp[Nat.add_assoc,h2]
mutual
def a0n:∀t:Tn,(bh t).1<=txs t
 | .mk k n x y ks=>by
  have:=aiD ks;rw[bh,txs];cases k==2||k==3 with
  |true=>simp
  |false=>cases k==1<;>simp<;>omega
def aiD:∀ts:List Tn,(VB ts).1<=uO ts
 |[]=>by simp[VB]
 |t::ts=>by have h1:=a0n t;have h2:=aiD ts;rw[VB,uO];cases(bh t).2<;>simp<;>omega
end
def agw{α:Type}(a:List α)(x:α):(a.reverse++[x])[a.length]? =some x:=by rw[List.getElem?_append_right (by simp)];simp
def aqr(w:Row)(c i k n:Int)(x:aB)(g:Int){ks:List Tn}{rows:aA}(hr:Un ks rows)(hk:ks.length<=2000000000)(st:aA)(hl:st.length<=2000000000):
  M.ni w c i k n x rows g ((rows.length:Int) - 1,st)=some (-1,st++rows.reverse):=by
 have hrl:=JQ hr;have key:∀(j:Nat),j<=ks.length->dI (M.vS w c i k n x rows g) ((j:Int) - 1,st++(rows.drop j).reverse)=some (-1,st++rows.reverse):=by
  intro j;induction j with
  |zero=>intro _;apply bn;simp only[iY,M.vS,M.qA];rw[nZ ak,aS];rfl
  |succ j ihj=>
   intro hj;obtain⟨u,hu⟩:∃u,ks[j]? =some u:=⟨ks[j],by simp⟩
   obtain⟨r,hrj,hrD⟩:=ac8 hr hu;obtain⟨rows',g',rfl,hk'⟩:=(ac7 u r).1 hrD;have c0:aY .i64 [D.int .i64 u.kind,.int .i64 u.op,.str u.text,.sl false 5 rows',.int .i64 g'] 0=some u.kind:=rfl;have c1:aY .i64 [D.int .i64 u.kind,.int .i64 u.op,.str u.text,.sl false 5 rows',.int .i64 g'] 1=some u.op:=rfl;have c2:cStr [D.int .i64 u.kind,.int .i64 u.op,.str u.text,.sl false 5 rows',.int .i64 g'] 2=some u.text:=rfl;have c3:OE 5 [D.int .i64 u.kind,.int .i64 u.op,.str u.text,.sl false 5 rows',.int .i64 g'] 3=some rows':=rfl;have c4:aY .i64 [D.int .i64 u.kind,.int .i64 u.op,.str u.text,.sl false 5 rows',.int .i64 g'] 4=some g':=rfl;have hlen:(st++(rows.drop (j+1)).reverse).length<=4000000000:=by simp;omega
   have hdr:rows.drop j=[D.int .i64 u.kind,.int .i64 u.op,.str u.text,.sl false 5 rows',.int .i64 g']::rows.drop (j+1):=by obtain⟨h1,h2⟩:=Md.1 hrj;rw[List.drop_eq_getElem_cons h1,h2]
   rw[show(((j+1:Nat):Int) - 1)=(j:Int) by omega,<-ihj ak,hdr,List.reverse_cons,<-Ad];refine bW ?_;simp only[iY,M.vS,M.qA,aW,hrj,ah,c0,c1,c2,c3,c4,J3];rw[zdt ak,aI,aJ ak,aI,aJ ak,aI,aC ak ak]
 have:=key rows.length ak;rw[List.drop_length,List.reverse_nil,List.append_nil] at this;exact this
def S6(w:Row)(c i:Int)(st:aA)(s:(Row×Int×Int×aA)⊕(Row×Int×Int×Int×Bool×aA×Int×Int×aB×aA×Int)):Prop:=
 s=.inl (w,c,i,st)∨∃a b d e f g h,s=.inr (w,c,i,a,b,st,d,e,f,g,h)
def auN(w:Row)(i:Int):∀(m:Nat) (us:List Tn) (rows:aA) (c:Nat) (s:_),sizes us<=m->m<=1000000000->Un us rows->c+uO us<=20000000000000->S6 w c i rows.reverse s->
  dI M.iE s=some (bif(VB us).2 then .inl ((c+(VB us).1:Nat):Int) else .inr (w,((c+(VB us).1:Nat):Int),i,[])):=by
 intro m;induction m with
 |zero=>
  intro us rows c s hm hmb hr hc hs;cases us with
  |cons u us=>have:=u.size_pos;rw[sizes] at hm;omega
  |nil=>
   rw[Un] at hr;subst hr;apply bn;rcases hs with rfl|⟨a,b,d,e,f,g,h,rfl⟩
   ·simp only[M.iE,M.iD,List.reverse_nil,qX,VB];rfl
   ·simp only[M.iE,M.iD,List.reverse_nil,qX,VB];rfl
 |succ m ih=>
  intro us rows c s hm hmb hr hc hs;cases us with
  |nil=>
   rw[Un] at hr;subst hr;apply bn;rcases hs with rfl|⟨a,b,d,e,f,g,h,rfl⟩
   ·simp only[M.iE,M.iD,List.reverse_nil,qX,VB];rfl
   ·simp only[M.iE,M.iD,List.reverse_nil,qX,VB];rfl
  |cons u us=>
   obtain⟨k,n,x,y,ks⟩:=u;obtain⟨r,rs,rfl,hD,hDs⟩:=hr;obtain⟨rows',g',rfl,hk'⟩:=hD;have hrl:=JQ hDs;have hkl:=JQ hk';have hs1:=iZ us;have hs2:=iZ ks;rw[sizes,Tn.size] at hm;rw[uO,txs] at hc;generalize hR:[D.int .i64 k,.int .i64 n,.str x,.sl false 5 rows',.int .i64 g']=R at hs;have c0:aY .i64 R 0=some k:=by rw[<-hR];rfl
   have c1:aY .i64 R 1=some n:=by rw[<-hR];rfl
   have c2:cStr R 2=some x:=by rw[<-hR];rfl
   have c3:cRo 5 R 3=some rows':=by rw[<-hR];rfl
   have c4:aY .i64 R 4=some g':=by rw[<-hR];rfl
   have hlen:((R::rs).reverse.length:Int)=(rs.length:Int)+1:=by simp
   have hw1:i64.wrap ((rs.length:Int)+1 - 1)=(rs.length:Int):=(aC ak ak).trans ak;have hget:(R::rs).reverse[rs.length]? =some R:=by rw[List.reverse_cons];exact agw rs R
   have htk:(R::rs).reverse.take rs.length=rs.reverse:=by rw[List.reverse_cons];exact List.take_left' (by simp)
   have hd:(decide ((0:Int)<=(rs.length:Int)) && decide ((rs.length:Int)<=(rs.length:Int)+1))=true:=by simp;omega
   have hkids:=fun(cc:Int)=>aqr w cc i k n x g' hk' ak rs.reverse (by rw[List.length_reverse];omega)
   have hw2:i64.wrap ((rows'.length:Int) - 1)=(rows'.length:Int) - 1:=aC ak ak;have hgo:rs.reverse++rows'.reverse=(rows'++rs).reverse:=by rw[List.reverse_append]
   have hDk:Un (ks++us) (rows'++rs):=afi hk' hDs;rw[VB,bh];cases h2:k==2 with
   |true=>
    apply bn;have e2:k=2:=by simpa using h2
    have h1:(k==1)=false:=by rw[e2];rfl
    rcases hs with rfl|⟨a,b,d,e,f,g,h,rfl⟩<;>
    ·simp only[M.iE,M.iD,hlen,hw1,aW,U0,hget,ah,c0,c1,c2,c3,c4,hd,aI,h1,h2,aS];rw[zdt ak,aI];simp
   |false=>
   cases h3:k==3 with
   |true=>
    apply bn;have e3:k=3:=by simpa using h3
    have h1:(k==1)=false:=by rw[e3];rfl
    rcases hs with rfl|⟨a,b,d,e,f,g,h,rfl⟩<;>
    ·simp only[M.iE,M.iD,hlen,hw1,aW,U0,hget,ah,c0,c1,c2,c3,c4,hd,aI,h1,h2,h3,aS];rw[zdt ak,aI];simp
   |false=>
    generalize ay0:(bif k==1 then x.length else 0)=tx;have htx:tx<=x.length:=by rw[<-ay0];cases k==1<;>simp
    have hstep:∃s',M.iE s=some (.inl s')∧S6 w ((c+tx:Nat):Int) i (rows'++rs).reverse s':=by
     cases h1:k==1 with
     |true=>
      rw[h1,aI] at ay0;subst ay0;have hw3:i64.wrap ((c:Int)+(x.length:Int))=((c+x.length:Nat):Int):=(aC ak ak).trans ak;rcases hs with rfl|⟨a,b,d,e,f,g,h,rfl⟩<;>
      ·refine⟨_, ?_,.inr ⟨-1,false,k,n,x,rows',g',rfl⟩⟩
       ·simp only[M.iE,M.iD,hlen,hw1,aW,U0,hget,ah,c0,c1,c2,c3,c4,hd,aI,h1,htk,hw2,hkids,hw3,hgo];rw[zdt ak,aI]
     |false=>
      rw[h1,aS] at ay0;subst ay0;rcases hs with rfl|⟨a,b,d,e,f,g,h,rfl⟩<;>
      ·refine⟨_, ?_,.inr ⟨-1,false,k,n,x,rows',g',rfl⟩⟩
       ·simp only[M.iE,M.iD,hlen,hw1,aW,U0,hget,ah,c0,c1,c2,c3,c4,hd,aI,aS,h1,h2,h3,htk,hw2,hkids,hgo,Nat.add_zero];rw[zdt ak,aI]
    obtain⟨s',hb,hS⟩:=hstep;rw[bW hb,ih (ks++us) (rows'++rs) (c+tx) s' (by rw[jP];omega) ak hDk (by rw[TV];omega) hS,aiC];simp only[Bool.or_self,aS];cases hb2:(VB ks).2 with
    |true=>simp[hb2,Nat.add_assoc]
    |false=>simp only[aS];cases(VB us).2<;>simp[Nat.add_assoc]
def zU(l:List Tk):Int:=match l.getLast? with
 |some t=>t.kind
 |none=>0
def Ye(k:Int):Bool:=k==37||(k==30||(k==31||(k==36||(k==45||k==44))))
def stepM(acc:List Tk)(t:Tk):List Tk:=
 bif t.kind==2 then acc else bif t.kind==1 then(bif acc.isEmpty||Ye (zU acc) then acc else acc++[tok 37]) else
 (bif t.kind==31 && zU acc==37 then acc.dropLast else acc)++[t]
def amV(l:List Tk):List Tk:=bif zU (l.foldl stepM [])==37 then(l.foldl stepM []).dropLast else l.foldl stepM []
def auO(acc:List Tk)(t:Tk):(stepM acc t).length<=acc.length+1:=by
 unfold stepM;cases t.kind==2 with
 |true=>rw[aI];omega
 |false=>
 rw[aS];cases t.kind==1 with
 |true=>rw[aI];cases acc.isEmpty||Ye (zU acc)<;>simp only[aI,aS,pF,lU,qX]<;>omega
 |false=>rw[aS];cases t.kind==31 && zU acc==37<;>simp only[aI,aS,pF,lU,qX,List.length_dropLast]<;>omega
def ay1{n:Nat}(hn:1<=n){acc:List Tk}{t:Tk}(h:Ya n acc)(ht:t.text.length<=n):Ya n (stepM acc t):=by
 have h37:(tok 37).text.length<=n:=by
  have:(tok 37).text=[59]:=by decide+kernel
  rw[this];exact hn
 unfold stepM;cases t.kind==2 with
 |true=>exact h
 |false=>
 rw[aS];cases t.kind==1 with
 |true=>
  rw[aI];cases acc.isEmpty||Ye (zU acc) with
  |true=>exact h
  |false=>exact h.snoc h37
 |false=>
  rw[aS];cases t.kind==31 && zU acc==37 with
  |true=>exact Ya.snoc (λu hu=>h u (List.dropLast_subset _ hu)) ht
  |false=>exact h.snoc ht
def agx{n:Nat}(hn:1<=n):∀(l acc:List Tk),Ya n l->Ya n acc->Ya n (l.foldl stepM acc)∧(l.foldl stepM acc).length<=acc.length+l.length
 |[],acc,_,h=>⟨h,Nat.le_refl _⟩
 |t::l,acc,hl,h=>by have h1:=ay1 hn h (hl t ZK);have h2:=auO acc t;have:=agx hn l (stepM acc t) (λu hu=>hl u (Yw _ hu)) h1;rw[List.foldl_cons,lU];exact⟨this.1,ak⟩
def aCd{n:Nat}(hn:1<=n){l:List Tk}(h:Ya n l):Ya n (amV l)∧(amV l).length<=l.length:=by
 have:=agx hn l [] h (λt h=>by cases h);rw[qX,Nat.zero_add] at this;unfold amV;cases zU (l.foldl stepM [])==37 with
 |true=>rw[aI];exact⟨λu hu=>this.1 u (List.dropLast_subset _ hu),by rw[List.length_dropLast];omega⟩
 |false=>exact this
def Zu{l:List Tk}(h:l≠[])(hl:l.length<=1000000):∃t,zU l=t.kind∧l.getLast? =some t∧i64.wrap ((l.length:Int) - 1)=((l.length - 1:Nat):Int)∧(bZ l)[l.length - 1]? =some (YU t)∧l[l.length - 1]? =some t:=by
 have hp:1<=l.length:=by cases l with|nil=>exact absurd rfl h|cons=>simp
 obtain⟨t,ht⟩:∃t,l[l.length - 1]? =some t:=⟨l[l.length - 1],by simp⟩
 have hg:l.getLast? =some t:=by rw[List.getLast?_eq_getElem?,ht]
 refine⟨t, ?_,hg, ?_, ?_,ht⟩
 ·unfold zU;rw[hg]
 ·rw[aC ak ak];omega
 ·rw[Rq,ht];rfl
def take_drop(l:List Tk):(bZ l).take (l.length - 1)=bZ l.dropLast:=by rw[List.dropLast_eq_take,bZ,bZ,List.map_take]
def aqs{l:List Tk}(hl:l.length<=1000000):M.lM (bZ l)=some (zU l,bZ l):=by
 simp only[M.lM,M.D6,dD,JM,aI]
 by_cases h:l=[]
 ·subst h;rfl
 ·have hp:1<=l.length:=by cases l with|nil=>exact absurd rfl h|cons=>simp
  obtain⟨t,h1,_,hw,hr,hr2⟩:=Zu h hl;rw[JX.2 (show(l.length:Int)≠0 by omega),aS,hw,aW,U0,hr];simp only[ah,hr2,Jb,cT0,h1]
def ay2(k:Int):M.Jq k=some (Ye k):=by simp only[M.Jq,M.UN,Ye];cases k==37<;>cases k==30<;>cases k==31<;>cases k==36<;>cases k==45<;>cases k==44<;>rfl
def atj:M.iM 37=some (37,spell 37,0)∧M.bH 37=some (37,spell 37,0):=by have hsp:=nP 37 (by unfold I64;omega);simp only[M.iM,M.TR,M.bH,M.MG,hsp.1,hsp.2,ah];refine⟨?_, ?_⟩<;>first|rfl|trivial
def ay3{l:List Tk}(h:(zU l==37)=true):l≠[]:=by rintro rfl;cases h
def Xo(l:List Tk)(t:Tk):bZ l++[[D.int .i64 t.kind,D.str t.text,D.int .i64 t.at_]]=bZ (l++[t]):=by rw[bZ,bZ,List.map_append];rfl
def aH9{l acc:List Tk}{j:Nat}{t:Tk}(ht:l[j]? =some t)(hl:l.length<=1000000)(ha:acc.length<=1000000):M.xU (bZ l) (l.length:Int) ((j:Int),bZ acc)=some (.inl (((j+1:Nat):Int),bZ (stepM acc t))):=by
 have hj:=(Md.1 ht).1;have hw:i64.wrap ((j:Int)+1)=((j+1:Nat):Int):=by rw[aC ak ak];omega
 have hc:=aqs ha;have hs:=atj.1;have e37:[D.int .i64 37,D.str (spell 37),D.int .i64 0]=YU (tok 37):=rfl;simp only[iY,M.xU,M.xR,aW,Rq,ht,Jb,ah,cT0,cT1,cT2,hw,dD,JM,aI,hc,ay2,hs,lU,qX];rw[zdt ak,aI];unfold stepM;cases h2:t.kind==2 with
 |true=>rfl
 |false=>
 rw[aS,aS];cases h1:t.kind==1 with
 |true=>
  rw[aI,aI]
  by_cases he:acc=[]
  ·subst he;rfl
  ·have hp:1<=acc.length:=by cases acc with|nil=>exact absurd rfl he|cons=>simp
   have hem:acc.isEmpty=false:=by cases acc with|nil=>exact absurd rfl he|cons=>rfl
   rw[zdt ak,aI,hem,Bool.false_or];cases Ye (zU acc) with
   |true=>rfl
   |false=>rw[Bool.not_false,aI,aS,aJ ak,aI,aJ ak,aI];rw[show[[D.int .i64 37,D.str (spell 37),D.int .i64 0]]=[YU (tok 37)] from rfl,bZ,bZ,List.map_append];rfl
 |false=>
 rw[aS,aS];cases h31:t.kind==31 with
 |true=>
  rw[aI,Bool.true_and];cases h37:zU acc==37 with
  |true=>
   have hne:=ay3 h37;have hp:1<=acc.length:=by cases acc with|nil=>exact absurd rfl hne|cons=>simp
   obtain⟨_,_,_,hwl,_,_⟩:=Zu hne ha;rw[aI,aI,hwl,zdt ak,zdt ak];simp only[Bool.and_self,aI,U0,take_drop,dD,List.length_dropLast];rw[aJ ak,aI,aJ ak,aI,Xo]
  |false=>rw[aS,aS,aJ ak,aI,aJ ak,aI,Xo]
 |false=>rw[aS,Bool.false_and,aS,aJ ak,aI,aJ ak,aI,Xo]
def ada{l:List Tk}(hl:l.length<=500000)(h:Ya 3000 l):M.wC (bZ l)=some (bZ (amV l)):=by
 have hb:∀j,((l.take j).foldl stepM []).length<=500000:=by intro j;have:=(agx (n:=3000) ak (l.take j) [] (λt ht=>h t (List.mem_of_mem_take ht)) (λt h=>by cases h)).2;rw[qX,Ud] at this;omega
 have hloop:=fJ (b:=M.xU (bZ l) (l.length:Int)) (t:=((l.length:Int),bZ (l.foldl stepM []))) (λj=>((j:Int),bZ ((l.take j).foldl stepM []))) l.length
  (by
   intro j hj;obtain⟨t,ht⟩:∃t,l[j]? =some t:=⟨l[j],by simp[hj]⟩
   have:=hb j;rw[aH9 ht ak ak,dP ht,List.foldl_append];rfl)
  (by simp only[iY,M.xU,M.xR];rw[nZ ak,aS,List.take_length]) 0 (Nat.zero_le _)
 have hh:M.I7 (bZ l) (l.length:Int) (0,[])=some ((l.length:Int),bZ (l.foldl stepM [])):=hloop;have hbl:=hb l.length;rw[List.take_length] at hbl;have hc:=aqs (l:=l.foldl stepM []) ak;simp only[M.wC,M.Ll,dD,hh,ah,JM,aI,hc,amV];cases h37:zU (l.foldl stepM [])==37 with
 |true=>
  have hne:=ay3 h37;have hp:1<=(l.foldl stepM []).length:=by
   cases hq:l.foldl stepM [] with
   |nil=>exact absurd hq hne
   |cons=>simp
  obtain⟨_,_,_,hwl,_,_⟩:=Zu hne ak;rw[aI,aI,hwl,zdt ak,zdt ak];simp only[Bool.and_self,aI,U0,take_drop,JM]
 |false=>rfl
def aIa{l acc:List Tk}{j:Nat}{t:Tk}(ht:l[j]? =some t)(hl:l.length<=1000000)(ha:acc.length<=1000000):M.xI (bZ l) ((j:Int),bZ acc)=some (.inl (((j+1:Nat):Int),bZ (stepM acc t))):=by
 have hj:=(Md.1 ht).1;have hw:i64.wrap ((j:Int)+1)=((j+1:Nat):Int):=by rw[aC ak ak];omega
 have hs:=atj.2;simp only[iY,M.xI,M.xH,aW,Rq,ht,Jb,ah,cT0,cT1,cT2,hw,dD,hs,lU,qX,bne];rw[zdt ak,aI];unfold stepM;cases h2:t.kind==2 with
 |true=>rfl
 |false=>
 rw[aS,aS]
 by_cases he:acc=[]
 ·subst he;rw[nZ (by simp),aS];cases h31:t.kind==31 with
  |true=>
   have h1:(t.kind==1)=false:=by rw[beq_iff_eq] at h31;rw[h31];rfl
   rw[h1];rfl
  |false=>
   cases h1:t.kind==1 with
   |true=>rfl
   |false=>rfl
 ·have hp:1<=acc.length:=by cases acc with|nil=>exact absurd rfl he|cons=>simp
  have hem:acc.isEmpty=false:=by cases acc with|nil=>exact absurd rfl he|cons=>rfl
  have hz:((acc.length:Int)==0)=false:=JX.2 ak;obtain⟨u,hu,_,hwl,hr,hr2⟩:=Zu he ha;rw[zdt ak,aI,hwl,aW,U0,hr];simp only[ah,hr2,Jb,cT0,<-hu,hz,hem,Bool.false_or];cases h31:t.kind==31 with
  |true=>
   have h1:(t.kind==1)=false:=by rw[beq_iff_eq] at h31;rw[h31];rfl
   rw[h1,aI,aS,Bool.true_and];cases h37:zU acc==37 with
   |true=>rw[aI,aI,zdt ak,zdt ak];simp only[Bool.and_self,Bool.not_false,aI,take_drop,dD,List.length_dropLast];rw[aJ ak,aI,aJ ak,aI,Xo];rfl
   |false=>rw[aS,Bool.not_false,aI,aJ ak,aI,aJ ak,aI,Xo];rfl
  |false=>
   cases h1:t.kind==1 with
   |true=>
    have hq:∀x y:Option (Int×aA⊕Int×aA),(bif zU acc==37 then x else bif zU acc==30 then x else bif zU acc==31 then x else bif zU acc==36 then x else bif zU acc==45 then x else bif zU acc==44 then x else y)=bif Ye (zU acc) then x else y:=by intro x y;unfold Ye;cases zU acc==37<;>cases zU acc==30<;>cases zU acc==31<;>cases zU acc==36<;>cases zU acc==45<;>cases zU acc==44<;>rfl
    rw[aS,Bool.not_true,aS,aS,aI,hq];cases Ye (zU acc) with
    |true=>rfl
    |false=>rw[aS,aS,aJ ak,aI,aJ ak,aI];rw[show[[D.int .i64 37,D.str (spell 37),D.int .i64 0]]=[YU (tok 37)] from rfl,bZ,bZ,List.map_append];rfl
   |false=>rw[aS,Bool.not_false,aI,aS,Bool.false_and,aS,aJ ak,aI,aJ ak,aI,Xo]
def adb{l:List Tk}(hl:l.length<=500000)(h:Ya 3000 l):M.vZ (bZ l)=some (bZ (amV l)):=by
 have hb:∀j,((l.take j).foldl stepM []).length<=500000:=by intro j;have:=(agx (n:=3000) ak (l.take j) [] (λt ht=>h t (List.mem_of_mem_take ht)) (λt h=>by cases h)).2;rw[qX,Ud] at this;omega
 have hloop:=fJ (b:=M.xI (bZ l)) (t:=((l.length:Int),bZ (l.foldl stepM []))) (λj=>((j:Int),bZ ((l.take j).foldl stepM []))) l.length
  (by
   intro j hj;obtain⟨t,ht⟩:∃t,l[j]? =some t:=⟨l[j],by simp[hj]⟩
   have:=hb j;rw[aIa ht ak ak,dP ht,List.foldl_append];rfl)
  (by simp only[iY,M.xI,M.xH,dD];rw[nZ ak,aS,List.take_length]) 0 (Nat.zero_le _)
 have hh:M.IG (bZ l) (0,[])=some ((l.length:Int),bZ (l.foldl stepM [])):=hloop;have hbl:=hb l.length;rw[List.take_length] at hbl;simp only[M.vZ,M.KJ,hh,ah,dD,amV]
 by_cases he:l.foldl stepM []=[]
 ·rw[he];rfl
 ·have hp:1<=(l.foldl stepM []).length:=by
   cases hq:l.foldl stepM [] with
   |nil=>exact absurd hq he
   |cons=>simp
  obtain⟨u,hu,_,hwl,hr,hr2⟩:=Zu he ak;rw[zdt ak,aI,hwl,aW,U0,hr];simp only[ah,hr2,Jb,cT0,<-hu];cases h37:zU (l.foldl stepM [])==37 with
  |true=>rw[aI,aI,zdt ak,zdt ak];simp only[Bool.and_self,aI,take_drop,dD,List.length_dropLast,JM];rw[aJ ak,aI,aJ ak,aI]
  |false=>rw[aS,aS,aJ ak,aI,aJ ak,aI];simp only[JM,aI]
def aqt(p:Option Tk)(t:Tk):aB:=match p with
 |some a=>(bif wJ a t then[32] else[])
 |none=>[]
def JU:Option Tk->List Tk->aB
 |_,[]=>[]
 |p,t::l=>(aqt p t++t.text)++JU (some t) l
def ak5(p:Option Tk):List Tk->Option Tk
 |[]=>p
 |t::l=>ak5 (some t) l
def abI(p:Option Tk):JU p []=[]:=by cases p<;>rfl
def V5(p:Option Tk)(t:Tk)(l:List Tk):JU p (t::l)=(aqt p t++t.text)++JU (some t) l:=by cases p<;>rfl
def Zv:∀(l:List Tk) (p:Option Tk) (t:Tk),JU p (l++[t])=JU p l++(aqt (ak5 p l) t++t.text)
 |[],p,t=>by rw[List.nil_append,V5,abI,abI,ak5,List.append_nil,List.nil_append]
 |u::l,p,t=>by rw[VE,V5,V5,ak5,Zv l (some u) t];simp only[Ad]
def abJ:∀(l:List Tk) (j:Nat) (p:Option Tk) (a:Tk),l[j]? =some a->ak5 p (l.take (j+1))=some a
 |[],j,p,a,h=>by simp at h
 |t::l,0,p,a,h=>by cases h;rfl
 |t::l,j+1,p,a,h=>by rw[List.take_succ_cons,ak5];exact abJ l j (some t) a (by simpa using h)
def aiE{n:Nat}:∀(l:List Tk) (p:Option Tk),Ya n l->(JU p l).length<=(n+1) * l.length
 |[],p,_=>by rw[abI];simp
 |t::l,p,h=>by
  have h1:=aiE l (some t) λu hu=>h u (Yw _ hu)
  have h2:=h t ZK;have h3:(aqt p t).length<=1:=by
   cases p with
   |none=>simp[aqt]
   |some a=>cases hg:wJ a t<;>simp[aqt,hg]
  rw[V5,pF,pF,lU,Nat.mul_add];omega
def ay4{l:List Tk}(hl:l.length<=3000)(h:Ya 3000 l):M.Jm (bZ l)=some (JU none l)∧M.Jr (bZ l)=some (JU none l):=by
 have hb:∀j,(JU none (l.take j)).length<=9100000:=by intro j;have h1:=aiE (n:=3000) (l.take j) none (λu hu=>h u (List.mem_of_mem_take hu));rw[Ud] at h1;have h2:(3000+1) * min j l.length<=(3000+1) * 3000:=Nat.mul_le_mul_left _ ak;omega
 have hT:∀{j:Nat} {t:Tk},l[j]? =some t->t.text.length<=3000:=λht=>h _ (zZ ht)
 constructor
 ·have hloop:=fJ (b:=M.NP (bZ l)) (t:=(JU none l,(l.length:Int))) (λj=>(JU none (l.take j),(j:Int))) l.length
   (by
    intro j hj;obtain⟨t,ht⟩:∃t,l[j]? =some t:=⟨l[j],by simp[hj]⟩
    have hbj:=hb j;have htt:=hT ht;have hw:i64.wrap ((j:Int)+1)=((j+1:Nat):Int):=by rw[aC ak ak];omega
    simp only[M.NP,M.G7,dD,hw];rw[zdt ak,aI,dP ht,Zv];cases j with
    |zero=>simp only[aW,Rq,ht,Jb,ah,cT1];rw[nZ ak,aS,aJ ak,aI];rfl
    |succ j=>
     obtain⟨a,ha⟩:∃a,l[j]? =some a:=⟨l[j]'ak,by simp[show j<l.length by omega]⟩
     have haa:=hT ha;have hw0:i64.wrap (((j+1:Nat):Int) - 1)=(j:Int):=by rw[aC ak ak];omega
     have hg:=Xn a t ak ak;rw[zdt ak,aI,abJ l j none a ha];simp only[hw0,aW,Rq,ht,ha,Jb,ah,cT0,cT1,cT2,hg];rw[show aqt (some a) t=bif wJ a t then[32] else[] from rfl];cases wJ a t with
     |true=>rw[aI,aI,aJ ak,aI,aJ (by simp only[pF,lU,qX];omega),aI,Ad]
     |false=>rw[aS,aS,aJ ak,aI];rfl)
   (by simp only[M.NP,M.G7,dD];rw[nZ ak,aS,List.take_length]) 0 (Nat.zero_le _)
  have hh:M.SN (bZ l) ([],0)=some (JU none l,(l.length:Int)):=hloop;simp only[M.Jm,M.UH,hh,ah]
 ·have hloop:=fJ (b:=M.Og (bZ l) (bZ l) (l.length:Int)) (t:=((l.length:Int),(JU none l).map byteRow)) (λj=>((j:Int),(JU none (l.take j)).map byteRow)) l.length
   (by
    intro j hj;obtain⟨t,ht⟩:∃t,l[j]? =some t:=⟨l[j],by simp[hj]⟩
    have hbj:=hb j;have htt:=hT ht;have hw:i64.wrap ((j:Int)+1)=((j+1:Nat):Int):=by rw[aC ak ak];omega
    simp only[M.Og,M.Ho,aW,Rq,ht,Jb,ah,cT0,cT1,cT2,hw,List.length_map];rw[zdt ak,aI,dP ht,Zv,List.map_append,List.map_append];cases j with
    |zero=>rw[nZ ak,aS,aJ ak,aI,aJ ak,aI];rfl
    |succ j=>
     obtain⟨a,ha⟩:∃a,l[j]? =some a:=⟨l[j]'ak,by simp[show j<l.length by omega]⟩
     have haa:=hT ha;have hw0:i64.wrap (((j+1:Nat):Int) - 1)=(j:Int):=by rw[aC ak ak];omega
     have hg:=Xm a t ak ak;rw[zdt ak,aI,abJ l j none a ha];simp only[hw0,aW,Rq,ha,Jb,ah,cT0,cT1,cT2,hg];rw[show aqt (some a) t=bif wJ a t then[32] else[] from rfl];cases wJ a t with
     |true=>rw[aI,aJ ak,aI,aJ ak,aI,aJ (by simp only[pF,List.length_map,lU,qX];omega),aI,aJ (by simp only[pF,List.length_map,lU,qX];omega),aI,Ad];rfl
     |false=>rw[aS,aJ ak,aI,aJ ak,aI];rfl)
   (by simp only[M.Og,M.Ho];rw[nZ ak,aS,List.take_length]) 0 (Nat.zero_le _)
  have hh:M.Tv (bZ l) (bZ l) (l.length:Int) (0,[])=some ((l.length:Int),(JU none l).map byteRow):=hloop;simp only[M.Jr,M.UO,dD,hh,ah,bytesOf_map]
def ay5(l:List Nd)(o:Bool)(d:Int)(hl:l.length<=1048576)(hk:∀n,n∈l->n.kids.length<=1048576∧∀e,e∈n.kids-> -4000000000<=e+d∧e+d<=4000000000):
  M.xY (aT o l) d=some (aT true (l.map (Nd.up d))):=by
 simp only[M.xY,M.PD];have hloop:=fJ (b:=M.Iq (aT o l) d) (t:=((l.length:Int),aT true (l.map (Nd.up d)))) (λi=>((i:Int),aT true ((l.take i).map (Nd.up d)))) l.length
  (by
   intro i hi;obtain⟨n,hn⟩:∃n,l[i]? =some n:=⟨l[i],by simp[hi]⟩
   obtain⟨hkl,hke⟩:=hk n (zZ hn);have hin:=fJ (b:=M.Ip (aT o l) d (i:Int) (aT true ((l.take i).map (Nd.up d))) n.kind n.op n.text n.other) (t:=((n.kids.length:Int),encI (n.kids.map (· +d)))) (λj=>((j:Int),encI ((n.kids.take j).map (· +d)))) n.kids.length
    (by
     intro j hj;obtain⟨e,he⟩:∃e,n.kids[j]? =some e:=⟨n.kids[j],by simp[hj]⟩
     have:=hke e (zZ he);simp only[iY,M.Ip,M.BG,aW,kZ,hn,Jb,ah,GI,aU,lG,he,Lu,List.length_map,Ud,J3];rw[zdt ak,aI,aJ ak,aI,aJ ak,aI,aC ak ak,aC ak ak,dP he];simp[encI])
    (by simp only[iY,M.Ip,M.BG,aW,kZ,hn,Jb,ah,GI,aU];rw[nZ ak,aS,List.take_length]) 0 (Nat.zero_le _)
   simp only[pz,List.take_zero,List.map_nil] at hin;have hin':M.Nh (aT o l) d (i:Int) (aT true ((l.take i).map (Nd.up d))) n.kind n.op n.text n.other (0,[])=some ((n.kids.length:Int),encI (n.kids.map (· +d))):=hin;simp only[iY,M.Iq,M.BH,dW,aW,kZ,hn,Jb,ah,Ji,Me,LV,MB,GI,hin',Ea,aI,List.length_map,Ud,J3];rw[zdt ak,aI,aJ ak,aI,aJ ak,aI,aC ak ak,dP hn,List.map_append,QL];rfl)
  (by simp only[iY,M.Iq,M.BH,dW];rw[nZ ak,aS,List.take_length]) 0 (Nat.zero_le _)
 simp only[pz,List.take_zero,List.map_nil] at hloop;have xA:M.Nj (aT o l) d (0,[])=some ((l.length:Int),aT true (l.map (Nd.up d))):=hloop;rw[xA,ah]
def aIb(t:Tn):∀(f:Nat) (w:Bool) (p:List Nd),t.size<=f->p.length+t.size<=1048576->
  M.kJ f t.kind t.op t.text t.other (cZ w t.kids) (aT true p)=some (aT true (p++t.flat p.length)):=by
 refine Tn.ind (P:=λt=>∀(f:Nat) (w:Bool) (p:List Nd),t.size<=f->p.length+t.size<=1048576->M.kJ f t.kind t.op t.text t.other (cZ w t.kids) (aT true p)=some (aT true (p++t.flat p.length))) ?_ t;intro k op x y ks ih f w p hf hp;cases f with
 |zero=>rw[Tn.size] at hf;omega
 |succ f=>
  rw[Tn.size] at hf hp;have hkl:=iZ ks;simp only[iY,M.kJ,M.G8,Tn.kids,Tn.kind,Tn.op,Tn.text,Tn.other,fB];have hrec:∀j t,ks[j]? =some t->M.kJ f t.kind t.op t.text t.other (cZ w t.kids) (aT true (p++iW (ks.take j) p.length))=some (aT true (p++iW (ks.take (j+1)) p.length)):=by
   intro j t hj;have hst:=zQ hj;have hfl:(p++iW (ks.take j) p.length).length=p.length+sizes (ks.take j):=by rw[pF,lH]
   have:=ih t (zZ hj) f w (p++iW (ks.take j) p.length) ak (by rw[hfl];omega);rw[this,hfl,X4 hj,Ad]
  have hloop:=fJ (b:=M.uX (M.kJ f))
   (t:=if ks=[] then .inl (cZ w ks,(ks.length:Int),0,aT true p,k,op,x,y) else .inr (cZ w ks,(ks.length:Int),(ks.length:Int),aT true (p++iW ks p.length),k,op,x,y,encI (ends ks p.length)))
   (λj=>if j=0 then .inl (cZ w ks,(ks.length:Int),0,aT true p,k,op,x,y) else .inr (cZ w ks,(ks.length:Int),(j:Int),aT true (p++iW (ks.take j) p.length),k,op,x,y,encI (ends (ks.take j) p.length))) ks.length
   (by
    intro j hj;obtain⟨t,ht⟩:∃t,ks[j]? =some t:=⟨ks[j],by simp⟩
    have hr:=hrec j t ht;have hst:=zQ ht;have hp1:=t.size_pos;have hg:(cZ w ks)[j]? =some (t.row w):=by rw[Ru];simp[ht]
    have hc0:aY .i64 (t.row w) 0=some t.kind:=by cases t;rfl
    have hc1:aY .i64 (t.row w) 1=some t.op:=by cases t;rfl
    have hc2:cStr (t.row w) 2=some t.text:=by cases t;rfl
    have hc3:cStr (t.row w) 3=some t.other:=by cases t;rfl
    have hc4:OE 5 (t.row w) 4=some (cZ w t.kids):=by cases t;rfl
    have hfl:(aT true (p++iW (ks.take (j+1)) p.length)).length=p.length+sizes (ks.take j)+t.size:=by rw[dW,pF,lH,dP ht,jP,sizes,sizes];omega
    rw[if_neg (show¬j+1=0 by omega),ZX ht]
    by_cases h0:j=0
    ·subst h0;rw[if_pos rfl];have hi:idx (cZ w ks) 0=some (t.row w):=by have:=aW (cZ w ks) 0;rw[pz] at this;rw[this,hg]
     have hr0:M.kJ f t.kind t.op t.text t.other (cZ w t.kids) (aT true p)=some (aT true (p++iW (ks.take (0+1)) p.length)):=by rw[<-hr];simp[iW]
     simp only[iY,M.uX,M.qW,hi,ah,hc0,hc1,hc2,hc3,hc4,hr0,hfl];rw[zdt ak,aI,aC ak ak,aC ak ak];rfl
    ·rw[if_neg h0];simp only[iY,M.uX,M.qW,aW,hg,ah,hc0,hc1,hc2,hc3,hc4,hr,hfl,aU,dQ,Ud,J3];rw[zdt ak,aI,aJ ak,aI,aJ ak,aI,aC ak ak,aC ak ak];simp[encI])
   (by
    by_cases h0:ks.length=0
    ·have he:ks=[]:=List.length_eq_zero_iff.1 h0;rw[if_pos h0,if_pos he];simp only[iY,M.uX,M.qW];rw[nZ ak,aS]
    ·have he:¬ks=[]:=λe=>h0 (by rw[e];rfl)
     rw[if_neg h0,if_neg he,List.take_length];simp only[iY,M.uX,M.qW];rw[nZ ak,aS]) 0 (Nat.zero_le _)
  rw[if_pos rfl] at hloop;rw[M.KT,hloop,ah]
  by_cases he:ks=[]
  ·rw[if_pos he];subst he;simp only[o8,dW,J3];rw[aJ ak,aI,aJ ak,aI,QL];rfl
  ·rw[if_neg he];simp only[o8,letE,dW,pF,lH,J3,Ea,aI];rw[aJ ak,aI,aJ ak,aI,Tn.flat,<-Ad];simp only[QL];rfl
def aCe{t:Tn}{w:Bool}(h:t.size<=1048576):M.wu t.kind t.op t.text t.other (cZ w t.kids)=some (aT true (t.flat 0)):=by have:=M.adW (aIb t t.size w [] (Nat.le_refl _) (by simpa using h));simp only[M.wu,M.KU];have e:aT true ([]:List Nd)=[]:=rfl;rw[e] at this;rw[this,ah];simp
def parts(ts:List Tn):aA:=ts.map λt=>[.sl false 5 (aT false (t.flat 0))]
def aCf(k op:Int)(x y:aB)(kr:aA)(ts:List Tn)(hs:sizes ts<=900000):M.AV k op x y kr (parts ts)=some (aT true ((Tn.mk k op x y ts).flat 0)):=by
 have htl:=iZ ts;simp only[iY,M.AV,M.SC];have hpl:(parts ts).length=ts.length:=by simp[parts]
 have hloop:=fJ (b:=M.Ku (parts ts) k op x y) (t:=((ts.length:Int),aT true (iW ts 0),encI (ends ts 0))) (λj=>((j:Int),aT true (iW (ts.take j) 0),encI (ends (ts.take j) 0))) ts.length
  (by
   intro j hj;obtain⟨t,ht⟩:∃t,ts[j]? =some t:=⟨ts[j],by simp[hj]⟩
   have hst:=zQ ht;have hp:=t.size_pos;have hr:(parts ts)[j]? =some [.sl false 5 (aT false (t.flat 0))]:=by simp[parts,ht]
   have c0:OE 5 [D.sl false 5 (aT false (t.flat 0))] 0=some (aT false (t.flat 0)):=rfl;have hfl:(aT true (iW (ts.take j) 0)).length=sizes (ts.take j):=by rw[dW,lH]
   have hsh:M.xY (aT false (t.flat 0)) ((sizes (ts.take j):Nat):Int)=some (aT true (t.flat (sizes (ts.take j)))):=by
    rw[ay5 (t.flat 0) false _ (by rw[t.flat_length];omega) (λn hn=> ?_)]
    ·rw[t.al7 0 (sizes (ts.take j))];congr 4<;>omega
    ·obtain⟨h1,h2⟩:=Xk t 0 n hn;refine⟨ak,λe he=> ?_⟩;have:=h2 e he;omega
   have hrl:(aT true (t.flat (sizes (ts.take j)))).length=t.size:=by rw[dW,t.flat_length]
   have hel:(encI (ends (ts.take j) 0)).length=j:=by rw[aU,dQ,Ud];omega
   simp only[iY,M.Ku,M.Ei,hpl,aW,hr,ah,c0,hfl,hsh,hrl,hel,pF,J3];rw[zdt ak,aI,aJ ak,aI,aJ ak,aI,aJ ak,aI,aJ ak,aI,aC ak ak,aC ak ak,X4 ht,ZX ht,QL,Nat.zero_add];simp[encI])
  (by simp only[iY,M.Ku,M.Ei,hpl];rw[nZ ak,aS,List.take_length]) 0 (Nat.zero_le _)
 have e0:aT true (iW (ts.take 0) 0)=[]:=rfl;have e1:encI (ends (ts.take 0) 0)=[]:=rfl;rw[pz,e0,e1] at hloop;have xA:M.PE (parts ts) k op x y (0,[],[])=some ((ts.length:Int),aT true (iW ts 0),encI (ends ts 0)):=hloop;rw[xA,ah];simp only[Ea,aI,dW,lH,J3];rw[aJ ak,aI,aJ ak,aI,Tn.flat,QL];rfl
def ay6(o w:Bool)(ts:List Tn):aP (ts.map λt=>[D.sl w 5 (aT o (t.flat 0))])=parts ts:=by rw[X3,List.map_map];unfold parts;congr 1;funext t;simp[qg,D.fz,aho]
def auP{l:List Nd}{o:Bool}(hl:l.length<=1048576)(t:Tn):∀(f b:Nat),Lies l b t->t.size<=f->
  M.jX f (aT o l) ((b+sizes t.kids:Nat):Int)=some (t.kind,t.op,t.text,t.other,cZ true t.kids):=by
 refine Tn.ind (P:=λt=>∀(f b:Nat),Lies l b t->t.size<=f->M.jX f (aT o l) ((b+sizes t.kids:Nat):Int)=some (t.kind,t.op,t.text,t.other,cZ true t.kids)) ?_ t;intro k op x y ks ih f b h hf;cases f with
 |zero=>rw[Tn.size] at hf;omega
 |succ f=>
  have hroot:l[b+sizes ks]? =some ⟨k,op,x,y,ends ks b⟩:=h.root;have hlt:=h.lt;rw[Tn.size] at hf hlt;have hkl:=iZ ks;simp only[iY,M.jX,M.Hy,aW,kZ,Tn.kids,Tn.kind,Tn.op,Tn.text,Tn.other,hroot,Jb,ah,Ji,Me,LV,MB,GI,aU,dQ];have hrec:∀j t,ks[j]? =some t->M.jX f (aT o l) ((b+sizes (ks.take j)+sizes t.kids:Nat):Int)=some (t.kind,t.op,t.text,t.other,cZ true t.kids):=λj t hj=>ih t (zZ hj) f _ (Lies.QM h hj) (by have:=zQ hj;omega)
  have hloop:=fJ (b:=M.mO (M.jX f))
   (t:=if ks=[] then .inl (aT o l,encI (ends ks b),(ks.length:Int),0,0,0,[],[],k,op,x,y) else .inr (aT o l,encI (ends ks b),(ks.length:Int),(ks.length:Int),0,0,[],[],k,op,x,y,cZ true ks))
   (λj=>if j=0 then .inl (aT o l,encI (ends ks b),(ks.length:Int),0,0,0,[],[],k,op,x,y) else .inr (aT o l,encI (ends ks b),(ks.length:Int),(j:Int),0,0,[],[],k,op,x,y,cZ true (ks.take j))) ks.length
   (by
    intro j hj;obtain⟨t,ht⟩:∃t,ks[j]? =some t:=⟨ks[j],by simp⟩
    have hr:=hrec j t ht;have he:=VX (b:=b) ht;rw[if_neg (show¬j+1=0 by omega),arJ ht,aHQ]
    by_cases h0:j=0
    ·subst h0;rw[if_pos rfl];have hi:idx (encI (ends ks b)) 0=some [D.int .i64 ((b+sizes (ks.take 0)+sizes t.kids:Nat):Int)]:=by have:=aW (encI (ends ks b)) 0;rw[pz] at this;rw[this,lG,he];rfl
     simp only[iY,M.mO,M.mM,hi,ah,Lu,hr];rw[zdt ak,aI];rfl
    ·rw[if_neg h0];simp only[iY,M.mO,M.mM,aW,lG,he,Jb,ah,Lu,hr,fB,Ud,J3];rw[zdt ak,aI,aJ ak,aI,aJ ak,aI,aC ak ak];rfl)
   (by
    by_cases h0:ks.length=0
    ·have he:ks=[]:=List.length_eq_zero_iff.1 h0;rw[if_pos h0,if_pos he];simp only[iY,M.mO,M.mM];rw[nZ ak,aS]
    ·have he:¬ks=[]:=λe=>h0 (by rw[e];rfl)
     rw[if_neg h0,if_neg he,List.take_length];simp only[iY,M.mO,M.mM];rw[nZ ak,aS]) 0 (Nat.zero_le _)
  rw[if_pos rfl] at hloop;rw[M.JB,hloop,ah]
  by_cases he:ks=[]
  ·rw[if_pos he,he];rfl
  ·rw[if_neg he];rfl
def aqu{l:List Nd}{o:Bool}(hl:l.length<=1048576){t:Tn}{b:Nat}(h:Lies l b t):M.qZ (aT o l) ((b+sizes t.kids:Nat):Int)=some (t.kind,t.op,t.text,t.other,cZ true t.kids):=
 M.Y2 (auP hl t t.size b h (Nat.le_refl _))
def ak6{t:Tn}{o:Bool}(hl:t.size<=1048576):M.ru (aT o (t.flat 0))=some (t.kind,t.op,t.text,t.other,cZ true t.kids):=by have hs:=t.tZ;simp only[M.ru,M.MK,dW,t.flat_length];have h:=aqu (o:=o) (by rw[t.flat_length];omega) (Lies.whole t);rw[Nat.zero_add] at h;rw[aC ak ak,show(t.size:Int) - 1=((sizes t.kids:Nat):Int) by omega,h,ah]
def Wv{α:Type}:List (List α)->Nat
 |[]=>0
 |x::l=>x.length+Wv l
def atl{α:Type}:∀(L:List (List α)) (j:Nat),(CZ L j).length<=Wv L
 |[],j=>by simp[CZ,Wv]
 |x::l,0=>by simp[CZ,Wv]
 |x::l,j+1=>by have:=atl l j;simp only[CZ,List.getElem?_cons_succ,Wv] at this⊢;omega
def Zw:∀(L:List (List Tk)) (b:Bool),(H8 b L).length<=Wv L+L.length
 |[],b=>by simp[H8,Wv]
 |x::l,b=>by have:=Zw l false;cases b<;>simp only[H8,Wv,aI,aS,pF,lU]<;>omega
def aCg{α:Type}:∀(L:List (List α)),(CZ L 0).length+((CZ L 1).length+(CZ L 2).length)<=Wv L
 |[]=>by simp[CZ,Wv]
 |[x]=>by simp[CZ,Wv]
 |[x,y]=>by simp[CZ,Wv]
 |x::y::z::l=>by simp[CZ,Wv]
def Ja{α:Type}{a b:List α}{N:Nat}(c:Bool)(ha:a.length<=N)(hb:b.length<=N):(bif c then a else b).length<=N:=by cases c<;>assumption
def ay7(k op:Int)(n:Nat)(x:aB)(L:List (List Tk)):(Jd k op n x L).length<=Wv L+L.length+4:=by
 have h1:=Zw L true;have h2:=atl L 0;have h3:=aCg L;have h4:(bif Nat.blt 1 n then tok 32::(H8 true L++[tok 33]) else CZ L 0:List Tk).length<=Wv L+L.length+2:=Ja _ (by simp only[lU,pF,qX];omega) ak;have h5:(bif op==99 then[] else[tok op]:List Tk).length<=1:=Ja _ (by simp) (by simp);unfold Jd;refine Ja _ ?_ (Ja _ ?_ (Ja _ ?_ (Ja _ ?_ (Ja _ ?_ (Ja _ ?_ (Ja _ ?_ (Ja _ ?_ (Ja _ ?_ (Ja _ ?_ (Ja _ ?_ (Ja _ ?_ ?_)))))))))))
 all_goals(simp only[lU,pF,qX];omega)
def Ls(k op:Int)(n:Nat)(p:Ps):∀(ts:List Tn) (j:Nat),(jI k op n p ts j).length=ts.length
 |[],j=>by rw[jI];rfl
 |t::ts,j=>by rw[jI,lU,Ls k op n p ts (j+1),lU]
def vT(k op:Int)(n:Nat)(p:Ps)(j:Nat)(u:Tn):List Tk:=bif qP k j||fits u.kind u.op (dN k op n j p) then wS u (dN k op n j p) else tok 32::(wS u .top++[tok 33])
def ak7(k op:Int)(n:Nat)(p:Ps):∀{ts:List Tn} {i j:Nat} {u:Tn},ts[j]? =some u->(jI k op n p ts i)[j]? =some (vT k op n p (i+j) u)
 |[],_,_,_,h=>by simp at h
 |t::ts,i,0,u,h=>by cases h;rw[jI,List.getElem?_cons_zero];rfl
 |t::ts,i,j+1,u,h=>by rw[List.getElem?_cons_succ] at h;rw[jI,List.getElem?_cons_succ,ak7 k op n p h,show i+1+j=i+(j+1) by omega]
def QS{k op:Int}{n:Nat}{p:Ps}{j:Nat}{u:Tn}(h:∀q,(wS u q).length+4<=8 * u.size):(vT k op n p j u).length+2<=8 * u.size:=by
 unfold vT;cases(qP k j||fits u.kind u.op (dN k op n j p)) with
 |true=>have:=h (dN k op n j p);rw[aI];omega
 |false=>have:=h .top;simp only[aS,lU,pF,qX];omega
def Z8{k op:Int}{n:Nat}{p:Ps}:∀{ts:List Tn} {j:Nat},(∀u,u∈ts->∀q,(wS u q).length+4<=8 * u.size)->Wv (jI k op n p ts j)+2 * ts.length<=8 * sizes ts
 |[],j,_=>by rw[jI,Wv,sizes];simp
 |t::ts,j,h=>by
  have h1:=QS (k:=k) (op:=op) (n:=n) (p:=p) (j:=j) (h t ZK);have h2:=Z8 (k:=k) (op:=op) (n:=n) (p:=p) (ts:=ts) (j:=j+1) λu hu=>h u (Yw _ hu)
  unfold vT at h1;rw[jI,Wv,sizes,lU];omega
def rO(t:Tn):∀q,(wS t q).length+4<=8 * t.size:=by refine Tn.ind (P:=λt=>∀q,(wS t q).length+4<=8 * t.size) ?_ t;intro k op x y ks ih q;have h1:=ay7 k op ks.length x (jI k op ks.length q ks 0);have h2:=Z8 (k:=k) (op:=op) (n:=ks.length) (p:=q) (ts:=ks) (j:=0) ih;rw[Ls] at h1;rw[wS,Tn.size];omega
def ak8(t:Tn)(q:Ps):(aaK t q).length+2<=8 * t.size:=by
 have h1:=rO t q;have h2:=rO t .top;unfold aaK;cases fits t.kind t.op q with
 |true=>rw[aI];omega
 |false=>simp only[aS,lU,pF,qX];omega
@[simp] theorem cu(l:List Tk):ay (bZ l)=true:=by simp only[ay,bZ,List.all_map,List.all_eq_true];intro x _;rfl
def nC(a b:List Tk):bZ (a++b)=bZ a++bZ b:=by simp[bZ]
def L9(a toks:List Tk)(sp:aA)(f:Bool)(hs:ay sp=true)(hl:toks.length+a.length<=1000000000):M.aX (bZ a) (bZ toks) sp f=some (bZ (toks++a),sp,f):=by simp only[M.aX,M.Gf,dD,<-nC,cu,hs,aI];rw[aJ ak,aI,aJ ak,aI]
def iota(n:Nat):List Int:=(List.range n).map fun(i:Nat)=>((i:Nat):Int)
def TW(n:Nat):(iota n).length=n:=by simp[iota]
def auQ(n:Nat):iota (n+1)=iota n++[(n:Int)]:=by simp[iota,List.range_succ]
def agy(k op:Int)(x y:aB)(rows:aA)(h:rows.length<=1048576):M.kL k op x y rows=some (k,op,x,y,encI (iota rows.length)):=by
 obtain⟨n,hn⟩:∃n,n=rows.length:=⟨_,rfl⟩
 simp only[M.kL,M.KW];rw[<-hn] at h⊢;have hloop:=fJ (b:=M.uh)
  (t:=if n=0 then .inl ((n:Int),0,0,0,[],[],k,op,x,y) else .inr ((n:Int),(n:Int),0,0,[],[],k,op,x,y,encI (iota n)))
  (λj=>if j=0 then .inl ((n:Int),0,0,0,[],[],k,op,x,y) else .inr ((n:Int),(j:Int),0,0,[],[],k,op,x,y,encI (iota j))) n
  (by
   intro j hj;rw[if_neg (show¬j+1=0 by omega),auQ]
   by_cases h0:j=0
   ·subst h0;rw[if_pos rfl];simp only[iY,M.uh,M.pJ];rw[zdt ak,aI];rfl
   ·rw[if_neg h0];simp only[iY,M.uh,M.pJ,aU,TW,J3];rw[zdt ak,aI,aJ ak,aI,aJ ak,aI,aC ak ak];simp[encI])
  (by
   by_cases h0:n=0
   ·simp only[if_pos h0];simp only[iY,M.uh,M.pJ];rw[nZ ak,aS]
   ·simp only[if_neg h0];simp only[iY,M.uh,M.pJ];rw[nZ ak,aS]) 0 (Nat.zero_le _)
 rw[if_pos rfl] at hloop;rw[M.IV,hloop,ah]
 by_cases h0:n=0
 ·rw[if_pos h0,h0];rfl
 ·rw[if_neg h0];simp only[o8,letE,Ea,aI]
def Wr(toks:List Tk)(sp:aA)(N:Nat)(out:List Tk)(r:Option (aA×aA×Bool)):Prop:=
 ∃sp',r=some (bZ (toks++out),sp',false)∧ay sp'=true∧sp'.length<=sp.length+N
def PT(u:Tn):Prop:=∀(w:Bool) (f:Nat) (p:Ps) (toks:List Tk) (sp:aA),5 * u.size<=f->nJ p=true->ay sp=true->toks.length+16 * u.size<=900000000->sp.length+u.size<=900000000->u.size<=1048576->
 Wr toks sp u.size (wS u p) (M.uq f u.kind u.op u.text u.other (cZ w u.kids) p.level p.ny p.tN p.tV p.lV (bZ toks) sp false)
def atm{u:Tn}(h:u.size<=1048576)(w:Bool):(cZ w u.kids).length<=1048576:=by have h1:=u.tZ;have h2:=iZ u.kids;rw[fB];omega
def yj(k:Int):([[D.int .i64 k,D.str (spell k),D.int .i64 0]]:aA)=bZ [tok k]:=rfl
def aIc{u:Tn}(hP:PT u){w:Bool}{f:Nat}{p:Ps}{toks:List Tk}{sp:aA}(hf:5 * u.size+1<=f)(hp:nJ p=true)(hs:ay sp=true)(ht:toks.length+16 * u.size+1<=900000000)(hl:sp.length+u.size<=900000000)(hu:u.size<=1048576):
  Wr toks sp u.size (aaK u p) (M.xM f u.kind u.op u.text u.other (cZ w u.kids) p.level p.ny p.tN p.tV p.lV (bZ toks) sp false):=by
 obtain⟨g,rfl⟩:∃g,f=g+1:=⟨f - 1,ak⟩
 have hz:=u.size_pos;have hb:=rO u .top;rw[M.aaj];simp only[M.um,agy u.kind u.op u.text u.other _ (atm hu w),ah,(ags u.kind u.op u.text u.other _ p).1,aS,Bool.not_not,aaK];cases fits u.kind u.op p with
 |true=>obtain⟨sp',h1,h2,h3⟩:=hP w g p toks sp ak hp hs ak hl hu;simp only[aI,cu,hs,h1,ah,h2];exact⟨sp',rfl,h2,h3⟩
 |false=>obtain⟨sp',h1,h2,h3⟩:=hP w g .top (toks++[tok 32]) sp ak rfl hs (by rw[pF,J3];omega) hl hu;have e1:=(mX 32 (by constructor<;>decide)).1;have e2:=(mX 33 (by constructor<;>decide)).1;have p1:=L9 [tok 32] toks sp false hs (by simp;omega);have p2:=L9 [tok 33] (toks++[tok 32]++wS u .top) sp' false h2 (by simp only[pF,J3];omega);simp only[Ps.top] at h1 p2;simp only[aS,e1,e2,DF.1,ah,yj,cu,hs,aI,p1,h1,h2,p2];refine⟨sp', ?_,h2,h3⟩;simp[Ps.top]
end Go.Proofs.YtbgadfelmhoheaaGreatDoor
