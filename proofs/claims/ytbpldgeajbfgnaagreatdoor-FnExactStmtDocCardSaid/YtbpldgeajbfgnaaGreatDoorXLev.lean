import Derived.Test.YtbpldgeajbfgnaaGreatDoorXDsz
namespace Go.Proofs.YtbpldgeajbfgnaaGreatDoor
set_option linter.unusedVariables false
set_option linter.unusedSimpArgs false
open Go Go.Vm
def isS(t:Tn):Prop:=20≤t.kind∧t.kind≤34
theorem Vj:∀{ks:List Tn},(∀u,u∈ks→(jG u).size+2≤40 * u.size)→sizes (ng ks)+2 * ks.length≤40 * sizes ks
 |[],_=>by simp[ng,sizes]
 |t::ts,h=>by
  have h1:=h t List.mem_cons_self
  have h2:=Vj (ks:=ts) fun u hu=>h u (List.mem_cons_of_mem _ hu)
  rw[ng,sizes,sizes,List.length_cons]
  omega
theorem I8:∀ks:List Tn,(ng ks).length=ks.length
 |[]=>rfl
 |t::ts=>by rw[ng,List.length_cons,I8 ts,List.length_cons]
theorem ao3(op:Int)(y:aF)(ks:List Tn):(amA op y ks).size≤32 * sizes ks+27:=by
 have h1:=Gy ⟨1,false,false,true,false⟩ (bif y==[] then ks else ks.take (ks.length - 1))
 have h2:sizes (bif y==[] then ks else ks.take (ks.length - 1))≤sizes ks:=by
  cases(y==[]) with
  |true=>exact Nat.le_refl _
  |false=>exact take_size _ _
 have h3:=lU (G9 ks (ks.length - 1)) ⟨9,false,false,false,false⟩
 have h4:=Ye ks (ks.length - 1)
 unfold amA
 generalize (bif y==[] then ks else ks.take (ks.length - 1))=args at *
 simp only[qX,oI,sizes,iD]
 cases Nat.blt 0 args.length<;>cases(y==[])<;>simp only[cond_true,cond_false,sizes,iD]<;>omega
theorem acF(w:aF)(ks:List Tn):(acz w ks).size≤16 * sizes ks+2:=by
 cases ks with
 |nil=>simp[acz,iD]
 |cons t l=>
  have:=MF t
  simp only[acz,qX,sizes,iD]
  omega
theorem afx{α:Type}{l:List α}(h:l.length=4):∃a b c d,l=[a,b,c,d]:=by
 match l,h with
 |[a,b,c,d],_=>exact⟨a,b,c,d,rfl⟩
theorem afy{α:Type}{l:List α}(h:l.length=2):∃a b,l=[a,b]:=by
 match l,h with
 |[a,b],_=>exact⟨a,b,rfl⟩
theorem ao4{α:Type}{l:List α}(h:l.length=3):∃a b c,l=[a,b,c]:=by
 match l,h with
 |[a,b,c],_=>exact⟨a,b,c,rfl⟩
theorem anF{k op:Int}{x y:aF}{ks:List Tn}(h:ED (Tn.mk k op x y ks)){i:Nat}{t:Tn}(e:ks[i]? =some t)(hc:cls k op ks.length i=1∨cls k op ks.length i=2):isS t∧ED t:=by
 obtain⟨h1,h2⟩:=Ls h e
 refine⟨?_,h2⟩
 unfold isS
 rcases hc with hc|hc<;>rw[hc] at h1<;>simp only[iJ] at h1<;>omega
theorem Vk(t:Tn):ED t→isS t→(jG t).size+2≤40 * t.size:=by
 refine Tn.ind (P:=fun t=>ED t→isS t→(jG t).size+2≤40 * t.size) ?_ t
 intro k op x y ks ih hok hs
 have hc:=Lu hok
 simp only[isS,Tn.kind] at hs
 have ihk:∀{i:Nat} {u:Tn},ks[i]? =some u→(cls k op ks.length i=1∨cls k op ks.length i=2)→(jG u).size+2≤40 * u.size:=by
  intro i u e hcl
  obtain⟨h1,h2⟩:=anF hok e hcl
  exact ih u (List.mem_of_getElem? e) h2 h1
 rw[jG,Tn.size]
 have hk:k=20∨k=21∨k=22∨k=23∨k=24∨k=25∨k=26∨k=27∨k=28∨k=29∨k=30∨k=31∨k=32∨k=33∨k=34:=by omega
 rcases hk with rfl|rfl|rfl|rfl|rfl|rfl|rfl|rfl|rfl|rfl|rfl|rfl|rfl|rfl|rfl<;>simp only[adr,Int.reduceBEq,cond_true,cond_false]
 ·have h1:=lU (G9 ks 0) .top
  have h2:=Ye ks 0
  unfold Lr
  omega
 ·have:=ao3 op y ks
  omega
 ·rw[iD];omega
 ·have:=acF [101,120,105,116] ks
  omega
 ·have:=acF [114,101,116,117,114,110] ks
  omega
 ·rw[iD];omega
 ·rw[iD];omega
 ·cases ks with
  |nil=>rw[iD];omega
  |cons u l=>
   have:=Gy .top (u::l)
   simp only[qX,iD,sizes] at this⊢
   omega
 ·rcases hc.cnd rfl with h2|h3
  ·obtain⟨u,v,rfl⟩:=afy h2
   have a0:=lU u .top
   have a1:=ihk (i:=1) (u:=v) rfl (by simp[cls])
   simp[vT,G9,ng,Lr,qX,iD,sizes,show Nat.blt 2 2=false from rfl] at *
   omega
  ·obtain⟨u,v,z,rfl⟩:=ao4 h3
   have a0:=lU u .top
   have a1:=ihk (i:=1) (u:=v) rfl (by simp[cls])
   have a2:=ihk (i:=2) (u:=z) rfl (by simp[cls])
   simp[vT,G9,ng,Lr,qX,iD,sizes,show Nat.blt 2 3=true from rfl] at *
   omega
 ·obtain⟨u,v,rfl⟩:=afy (hc.two (by omega))
  have a0:=lU u .top
  have a1:=ihk (i:=1) (u:=v) rfl (by simp[cls])
  simp[vT,G9,ng,Lr,qX,iD,sizes] at *
  omega
 ·obtain⟨u,v,rfl⟩:=afy (hc.two (by omega))
  have a0:=lU v .top
  have a1:=ihk (i:=0) (u:=u) rfl (by simp[cls])
  simp[vT,G9,ng,Lr,qX,iD,sizes] at *
  omega
 ·obtain⟨u,v,z,q,rfl⟩:=afx (hc.four rfl)
  have a0:=lU u ⟨1,false,true,false,false⟩
  have a1:=MF v
  have a2:=MF z
  have a3:=ihk (i:=3) (u:=q) rfl (by simp[cls])
  have a4:(bif u.kind==16 then lI [] else(zB u) ⟨1,false,true,false,false⟩).size≤16 * u.size:=by
   refine xR _ ?_ ?_
   ·have:=u.size_pos
    rw[iD];omega
   ·omega
  simp[vT,G9,ng,qX,iD,sizes] at *
  omega
 ·obtain⟨u,rfl⟩:=List.length_eq_one_iff.1 (hc.one (by omega))
  have a1:=ihk (i:=0) (u:=u) rfl (by simp[cls])
  simp[vT,G9,ng,qX,iD,sizes] at *
  omega
 ·have h1:=ao2 (ng ks)
  have h2:=Vj (ks:=ks) fun u hu=>by
   obtain⟨i,hi⟩:=List.mem_iff_getElem?.1 hu
   exact ihk hi (by simp[cls])
  rw[I8] at h1
  omega
 ·rw[iD];omega
theorem gQ{op:Int}(h:ab9 op=true):vS op≠0∧op≠61:=by
 have hc:op=60∨op=57∨op=58∨op=59∨op=55∨op=56∨op=99∨op=63∨op=48∨op=47∨op=50∨op=62∨op=49∨op=67∨op=46∨op=45∨op=44:=by
  simp only[ab9,Bool.or_eq_true,beq_iff_eq] at h
  omega
 rcases hc with rfl|rfl|rfl|rfl|rfl|rfl|rfl|rfl|rfl|rfl|rfl|rfl|rfl|rfl|rfl|rfl|rfl<;>decide
theorem iZ{op:Int}(h:acd op=true):op=54∨(38≤op∧op≤43):=by
 simp only[acd,Bool.or_eq_true,Bool.and_eq_true,beq_iff_eq,decide_eq_true_eq] at h
 omega
theorem aJC(op:Int)(t o:aF)(kids:ak)(h:M.ay 1 op t o kids=some true):Cnt 1 op o kids.length:=by
 simp only[M.ay,M.aC,M.aQ,M.aH,M.aW,M.aU,M.aS,M.aI,aX,aN,dH,bn,Int.reduceBEq,Int.reduceLE,Int.reduceLT,Int.reduceSub,Int.reduceAdd,aY,ah] at h
 revert h
 cases hn0:M.ig t with
 |none=>cases op==0<;>simp
 |some b0=>_
 all_goals try simp only[Int.reduceBEq,Int.reduceLE,Int.reduceLT,Int.reduceSub,Int.reduceAdd,aY,ah]
 all_goals(cases ho0:(op==0)<;>cases ht:(t==[])<;>cases hy:(o==[])<;>cases b0<;>simp_all<;>intros<;>constructor<;>intros<;>first|omega|exact gQ ‹_›|exact iZ ‹_›|(rw[aP (n:=op+1) (by omega) (by omega)] at *;omega)|(simp_all<;>omega))
theorem aJD(op:Int)(t o:aF)(kids:ak)(h:M.ay 2 op t o kids=some true):Cnt 2 op o kids.length:=by
 simp only[M.ay,M.aC,M.aQ,M.aH,M.aW,M.aU,M.aS,M.aI,aX,aN,dH,bn,Int.reduceBEq,Int.reduceLE,Int.reduceLT,Int.reduceSub,Int.reduceAdd,aY,ah] at h
 revert h
 cases hn0:M.kU 3 t 0 with
 |none=>cases op==0<;>simp
 |some b0=>_
 all_goals try simp only[Int.reduceBEq,Int.reduceLE,Int.reduceLT,Int.reduceSub,Int.reduceAdd,aY,ah]
 all_goals(cases ho0:(op==0)<;>cases ht:(t==[])<;>cases hy:(o==[])<;>cases b0<;>simp_all<;>intros<;>constructor<;>intros<;>first|omega|exact gQ ‹_›|exact iZ ‹_›|(rw[aP (n:=op+1) (by omega) (by omega)] at *;omega)|(simp_all<;>omega))
theorem aJE(op:Int)(t o:aF)(kids:ak)(h:M.ay 3 op t o kids=some true):Cnt 3 op o kids.length:=by
 simp only[M.ay,M.aC,M.aQ,M.aH,M.aW,M.aU,M.aS,M.aI,aX,aN,dH,bn,Int.reduceBEq,Int.reduceLE,Int.reduceLT,Int.reduceSub,Int.reduceAdd,aY,ah] at h
 revert h
 cases hn0:M.kU 4 t 0 with
 |none=>cases op==0<;>simp
 |some b0=>_
 all_goals try simp only[Int.reduceBEq,Int.reduceLE,Int.reduceLT,Int.reduceSub,Int.reduceAdd,aY,ah]
 all_goals(cases ho0:(op==0)<;>cases ht:(t==[])<;>cases hy:(o==[])<;>cases b0<;>simp_all<;>intros<;>constructor<;>intros<;>first|omega|exact gQ ‹_›|exact iZ ‹_›|(rw[aP (n:=op+1) (by omega) (by omega)] at *;omega)|(simp_all<;>omega))
theorem aJF(op:Int)(t o:aF)(kids:ak)(h:M.ay 4 op t o kids=some true):Cnt 4 op o kids.length:=by
 simp only[M.ay,M.aC,M.aQ,M.aH,M.aW,M.aU,M.aS,M.aI,aX,aN,dH,bn,Int.reduceBEq,Int.reduceLE,Int.reduceLT,Int.reduceSub,Int.reduceAdd,aY,ah] at h
 revert h
 cases hn0:M.kU 5 t 0 with
 |none=>cases op==0<;>simp
 |some b0=>_
 all_goals try simp only[Int.reduceBEq,Int.reduceLE,Int.reduceLT,Int.reduceSub,Int.reduceAdd,aY,ah]
 all_goals(cases ho0:(op==0)<;>cases ht:(t==[])<;>cases hy:(o==[])<;>cases b0<;>simp_all<;>intros<;>constructor<;>intros<;>first|omega|exact gQ ‹_›|exact iZ ‹_›|(rw[aP (n:=op+1) (by omega) (by omega)] at *;omega)|(simp_all<;>omega))
theorem aJG(op:Int)(t o:aF)(kids:ak)(h:M.ay 5 op t o kids=some true):Cnt 5 op o kids.length:=by
 simp only[M.ay,M.aC,M.aQ,M.aH,M.aW,M.aU,M.aS,M.aI,aX,aN,dH,bn,Int.reduceBEq,Int.reduceLE,Int.reduceLT,Int.reduceSub,Int.reduceAdd,aY,ah] at h
 revert h
 cases hn0:M.ig t with
 |none=>cases op==0<;>simp
 |some b0=>_
 all_goals try simp only[Int.reduceBEq,Int.reduceLE,Int.reduceLT,Int.reduceSub,Int.reduceAdd,aY,ah]
 all_goals(cases ho0:(op==0)<;>cases ht:(t==[])<;>cases hy:(o==[])<;>cases b0<;>simp_all<;>intros<;>constructor<;>intros<;>first|omega|exact gQ ‹_›|exact iZ ‹_›|(rw[aP (n:=op+1) (by omega) (by omega)] at *;omega)|(simp_all<;>omega))
theorem aJH(op:Int)(t o:aF)(kids:ak)(h:M.ay 6 op t o kids=some true):Cnt 6 op o kids.length:=by
 simp only[M.ay,M.aC,M.aQ,M.aH,M.aW,M.aU,M.aS,M.aI,aX,aN,dH,bn,Int.reduceBEq,Int.reduceLE,Int.reduceLT,Int.reduceSub,Int.reduceAdd,aY,ah] at h
 revert h
 all_goals try simp only[Int.reduceBEq,Int.reduceLE,Int.reduceLT,Int.reduceSub,Int.reduceAdd,aY,ah]
 all_goals(cases ho0:(op==0)<;>cases ht:(t==[])<;>cases hy:(o==[])<;>simp_all<;>intros<;>constructor<;>intros<;>first|omega|exact gQ ‹_›|exact iZ ‹_›|(rw[aP (n:=op+1) (by omega) (by omega)] at *;omega)|(simp_all<;>omega))
theorem aJI(op:Int)(t o:aF)(kids:ak)(h:M.ay 7 op t o kids=some true):Cnt 7 op o kids.length:=by
 simp only[M.ay,M.aC,M.aQ,M.aH,M.aW,M.aU,M.aS,M.aI,aX,aN,dH,bn,Int.reduceBEq,Int.reduceLE,Int.reduceLT,Int.reduceSub,Int.reduceAdd,aY,ah] at h
 revert h
 cases hn0:M.ig t with
 |none=>cases op==0<;>simp
 |some b0=>_
 all_goals try simp only[Int.reduceBEq,Int.reduceLE,Int.reduceLT,Int.reduceSub,Int.reduceAdd,aY,ah]
 all_goals(cases ho0:(op==0)<;>cases ht:(t==[])<;>cases hy:(o==[])<;>cases b0<;>simp_all<;>intros<;>constructor<;>intros<;>first|omega|exact gQ ‹_›|exact iZ ‹_›|(rw[aP (n:=op+1) (by omega) (by omega)] at *;omega)|(simp_all<;>omega))
theorem aJJ(op:Int)(t o:aF)(kids:ak)(h:M.ay 8 op t o kids=some true):Cnt 8 op o kids.length:=by
 simp only[M.ay,M.aC,M.aQ,M.aH,M.aW,M.aU,M.aS,M.aI,aX,aN,dH,bn,Int.reduceBEq,Int.reduceLE,Int.reduceLT,Int.reduceSub,Int.reduceAdd,aY,ah] at h
 revert h
 cases hn0:M.kG t with
 |none=>cases op==0<;>simp
 |some b0=>_
 all_goals try simp only[Int.reduceBEq,Int.reduceLE,Int.reduceLT,Int.reduceSub,Int.reduceAdd,aY,ah]
 all_goals(cases ho0:(op==0)<;>cases ht:(t==[])<;>cases hy:(o==[])<;>cases b0<;>simp_all<;>intros<;>constructor<;>intros<;>first|omega|exact gQ ‹_›|exact iZ ‹_›|(rw[aP (n:=op+1) (by omega) (by omega)] at *;omega)|(simp_all<;>omega))
theorem aJK(op:Int)(t o:aF)(kids:ak)(h:M.ay 9 op t o kids=some true):Cnt 9 op o kids.length:=by
 simp only[M.ay,M.aC,M.aQ,M.aH,M.aW,M.aU,M.aS,M.aI,aX,aN,dH,bn,Int.reduceBEq,Int.reduceLE,Int.reduceLT,Int.reduceSub,Int.reduceAdd,aY,ah] at h
 revert h
 all_goals try simp only[Int.reduceBEq,Int.reduceLE,Int.reduceLT,Int.reduceSub,Int.reduceAdd,aY,ah]
 all_goals(cases ho0:(op==51)<;>cases ho1:(op==52)<;>cases ht:(t==[])<;>cases hy:(o==[])<;>simp_all<;>intros<;>constructor<;>intros<;>first|omega|exact gQ ‹_›|exact iZ ‹_›|(rw[aP (n:=op+1) (by omega) (by omega)] at *;omega)|(simp_all<;>omega))
theorem ayq(op:Int)(t o:aF)(kids:ak)(h:M.ay 10 op t o kids=some true):Cnt 10 op o kids.length:=by
 simp only[M.ay,M.aC,M.aQ,M.aH,M.aW,M.aU,M.aS,M.aI,aX,aN,dH,bn,Int.reduceBEq,Int.reduceLE,Int.reduceLT,Int.reduceSub,Int.reduceAdd,aY,ah] at h
 revert h
 all_goals try simp only[Int.reduceBEq,Int.reduceLE,Int.reduceLT,Int.reduceSub,Int.reduceAdd,aY,ah]
 all_goals(cases ho0:(op==51)<;>cases ho1:(op==52)<;>cases ht:(t==[])<;>cases hy:(o==[])<;>simp_all<;>intros<;>constructor<;>intros<;>first|omega|exact gQ ‹_›|exact iZ ‹_›|(rw[aP (n:=op+1) (by omega) (by omega)] at *;omega)|(simp_all<;>omega))
theorem ayr(op:Int)(t o:aF)(kids:ak)(h:M.ay 11 op t o kids=some true):Cnt 11 op o kids.length:=by
 simp only[M.ay,M.aC,M.aQ,M.aH,M.aW,M.aU,M.aS,M.aI,aX,aN,dH,bn,Int.reduceBEq,Int.reduceLE,Int.reduceLT,Int.reduceSub,Int.reduceAdd,aY,ah] at h
 revert h
 all_goals try simp only[Int.reduceBEq,Int.reduceLE,Int.reduceLT,Int.reduceSub,Int.reduceAdd,aY,ah]
 all_goals(cases ho0:(op==55)<;>cases ho1:(op==56)<;>cases ho2:(op==61)<;>cases ht:(t==[])<;>cases hy:(o==[])<;>simp_all<;>intros<;>constructor<;>intros<;>first|omega|exact gQ ‹_›|exact iZ ‹_›|(rw[aP (n:=op+1) (by omega) (by omega)] at *;omega)|(simp_all<;>omega))
theorem ays(op:Int)(t o:aF)(kids:ak)(h:M.ay 12 op t o kids=some true):Cnt 12 op o kids.length:=by
 simp only[M.ay,M.aC,M.aQ,M.aH,M.aW,M.aU,M.aS,M.aI,aX,aN,dH,bn,Int.reduceBEq,Int.reduceLE,Int.reduceLT,Int.reduceSub,Int.reduceAdd,aY,ah] at h
 revert h
 all_goals try simp only[Int.reduceBEq,Int.reduceLE,Int.reduceLT,Int.reduceSub,Int.reduceAdd,aY,ah]
 all_goals(cases ho0:(ab9 op)<;>cases ht:(t==[])<;>cases hy:(o==[])<;>simp_all<;>intros<;>constructor<;>intros<;>first|omega|exact gQ ‹_›|exact iZ ‹_›|(rw[aP (n:=op+1) (by omega) (by omega)] at *;omega)|(simp_all<;>omega))
theorem ayt(op:Int)(t o:aF)(kids:ak)(h:M.ay 13 op t o kids=some true):Cnt 13 op o kids.length:=by
 simp only[M.ay,M.aC,M.aQ,M.aH,M.aW,M.aU,M.aS,M.aI,aX,aN,dH,bn,Int.reduceBEq,Int.reduceLE,Int.reduceLT,Int.reduceSub,Int.reduceAdd,aY,ah] at h
 revert h
 cases hn0:M.ig t with
 |none=>cases op==0<;>simp
 |some b0=>_
 all_goals try simp only[Int.reduceBEq,Int.reduceLE,Int.reduceLT,Int.reduceSub,Int.reduceAdd,aY,ah]
 all_goals(cases ho0:(op==0)<;>cases ht:(t==[])<;>cases hy:(o==[])<;>cases b0<;>simp_all<;>intros<;>constructor<;>intros<;>first|omega|exact gQ ‹_›|exact iZ ‹_›|(rw[aP (n:=op+1) (by omega) (by omega)] at *;omega)|(simp_all<;>omega))
theorem ayu(op:Int)(t o:aF)(kids:ak)(h:M.ay 14 op t o kids=some true):Cnt 14 op o kids.length:=by
 simp only[M.ay,M.aC,M.aQ,M.aH,M.aW,M.aU,M.aS,M.aI,aX,aN,dH,bn,Int.reduceBEq,Int.reduceLE,Int.reduceLT,Int.reduceSub,Int.reduceAdd,aY,ah] at h
 revert h
 all_goals try simp only[Int.reduceBEq,Int.reduceLE,Int.reduceLT,Int.reduceSub,Int.reduceAdd,aY,ah]
 all_goals(cases ho0:(op==0)<;>cases ht:(t==[])<;>cases hy:(o==[])<;>simp_all<;>intros<;>constructor<;>intros<;>first|omega|exact gQ ‹_›|exact iZ ‹_›|(rw[aP (n:=op+1) (by omega) (by omega)] at *;omega)|(simp_all<;>omega))
theorem ayv(op:Int)(t o:aF)(kids:ak)(h:M.ay 15 op t o kids=some true):Cnt 15 op o kids.length:=by
 simp only[M.ay,M.aC,M.aQ,M.aH,M.aW,M.aU,M.aS,M.aI,aX,aN,dH,bn,Int.reduceBEq,Int.reduceLE,Int.reduceLT,Int.reduceSub,Int.reduceAdd,aY,ah] at h
 revert h
 all_goals try simp only[Int.reduceBEq,Int.reduceLE,Int.reduceLT,Int.reduceSub,Int.reduceAdd,aY,ah]
 all_goals(cases ho0:(acd op)<;>cases ht:(t==[])<;>cases hy:(o==[])<;>simp_all<;>intros<;>constructor<;>intros<;>first|omega|exact gQ ‹_›|exact iZ ‹_›|(rw[aP (n:=op+1) (by omega) (by omega)] at *;omega)|(simp_all<;>omega))
theorem ayw(op:Int)(t o:aF)(kids:ak)(h:M.ay 16 op t o kids=some true):Cnt 16 op o kids.length:=by
 simp only[M.ay,M.aC,M.aQ,M.aH,M.aW,M.aU,M.aS,M.aI,aX,aN,dH,bn,Int.reduceBEq,Int.reduceLE,Int.reduceLT,Int.reduceSub,Int.reduceAdd,aY,ah] at h
 revert h
 all_goals try simp only[Int.reduceBEq,Int.reduceLE,Int.reduceLT,Int.reduceSub,Int.reduceAdd,aY,ah]
 all_goals(cases ho0:(op==0)<;>cases ht:(t==[])<;>cases hy:(o==[])<;>simp_all<;>intros<;>constructor<;>intros<;>first|omega|exact gQ ‹_›|exact iZ ‹_›|(rw[aP (n:=op+1) (by omega) (by omega)] at *;omega)|(simp_all<;>omega))
theorem ayx(op:Int)(t o:aF)(kids:ak)(h:M.ay 20 op t o kids=some true):Cnt 20 op o kids.length:=by
 simp only[M.ay,M.aC,M.aQ,M.aH,M.aW,M.aU,M.aS,M.aI,aX,aN,dH,bn,Int.reduceBEq,Int.reduceLE,Int.reduceLT,Int.reduceSub,Int.reduceAdd,aY,ah] at h
 revert h
 all_goals try simp only[Int.reduceBEq,Int.reduceLE,Int.reduceLT,Int.reduceSub,Int.reduceAdd,aY,ah]
 all_goals(cases ho0:(op==0)<;>cases ht:(t==[])<;>cases hy:(o==[])<;>simp_all<;>intros<;>constructor<;>intros<;>first|omega|exact gQ ‹_›|exact iZ ‹_›|(rw[aP (n:=op+1) (by omega) (by omega)] at *;omega)|(simp_all<;>omega))
theorem ayy(op:Int)(t o:aF)(kids:ak)(h:M.ay 21 op t o kids=some true):Cnt 21 op o kids.length:=by
 simp only[M.ay,M.aC,M.aQ,M.aH,M.aW,M.aU,M.aS,M.aI,aX,aN,dH,bn,Int.reduceBEq,Int.reduceLE,Int.reduceLT,Int.reduceSub,Int.reduceAdd,aY,ah] at h
 revert h
 all_goals try simp only[Int.reduceBEq,Int.reduceLE,Int.reduceLT,Int.reduceSub,Int.reduceAdd,aY,ah]
 all_goals(cases ho0:(decide (0≤op))<;>cases ho1:(decide (op≤1))<;>cases ht:(t==[])<;>cases hy:(o==[])<;>cases h1:(o==[62])<;>cases h2:(o==[62,62])<;>cases h3:(o==[124])<;>simp_all<;>intros<;>constructor<;>intros<;>first|omega|exact gQ ‹_›|exact iZ ‹_›|(rw[aP (n:=op+1) (by omega) (by omega)] at *;omega)|(simp_all<;>omega))
theorem ayz(op:Int)(t o:aF)(kids:ak)(h:M.ay 22 op t o kids=some true):Cnt 22 op o kids.length:=by
 simp only[M.ay,M.aC,M.aQ,M.aH,M.aW,M.aU,M.aS,M.aI,aX,aN,dH,bn,Int.reduceBEq,Int.reduceLE,Int.reduceLT,Int.reduceSub,Int.reduceAdd,aY,ah] at h
 revert h
 all_goals try simp only[Int.reduceBEq,Int.reduceLE,Int.reduceLT,Int.reduceSub,Int.reduceAdd,aY,ah]
 all_goals(cases ho0:(op==0)<;>cases ht:(t==[])<;>cases hy:(o==[])<;>simp_all<;>intros<;>constructor<;>intros<;>first|omega|exact gQ ‹_›|exact iZ ‹_›|(rw[aP (n:=op+1) (by omega) (by omega)] at *;omega)|(simp_all<;>omega))
theorem ayA(op:Int)(t o:aF)(kids:ak)(h:M.ay 23 op t o kids=some true):Cnt 23 op o kids.length:=by
 simp only[M.ay,M.aC,M.aQ,M.aH,M.aW,M.aU,M.aS,M.aI,aX,aN,dH,bn,Int.reduceBEq,Int.reduceLE,Int.reduceLT,Int.reduceSub,Int.reduceAdd,aY,ah] at h
 revert h
 all_goals try simp only[Int.reduceBEq,Int.reduceLE,Int.reduceLT,Int.reduceSub,Int.reduceAdd,aY,ah]
 all_goals(cases ho0:(op==0)<;>cases ht:(t==[])<;>cases hy:(o==[])<;>simp_all<;>intros<;>constructor<;>intros<;>first|omega|exact gQ ‹_›|exact iZ ‹_›|(rw[aP (n:=op+1) (by omega) (by omega)] at *;omega)|(simp_all<;>omega))
theorem ayB(op:Int)(t o:aF)(kids:ak)(h:M.ay 24 op t o kids=some true):Cnt 24 op o kids.length:=by
 simp only[M.ay,M.aC,M.aQ,M.aH,M.aW,M.aU,M.aS,M.aI,aX,aN,dH,bn,Int.reduceBEq,Int.reduceLE,Int.reduceLT,Int.reduceSub,Int.reduceAdd,aY,ah] at h
 revert h
 all_goals try simp only[Int.reduceBEq,Int.reduceLE,Int.reduceLT,Int.reduceSub,Int.reduceAdd,aY,ah]
 all_goals(cases ho0:(op==0)<;>cases ht:(t==[])<;>cases hy:(o==[])<;>simp_all<;>intros<;>constructor<;>intros<;>first|omega|exact gQ ‹_›|exact iZ ‹_›|(rw[aP (n:=op+1) (by omega) (by omega)] at *;omega)|(simp_all<;>omega))
theorem ayC(op:Int)(t o:aF)(kids:ak)(h:M.ay 25 op t o kids=some true):Cnt 25 op o kids.length:=by
 simp only[M.ay,M.aC,M.aQ,M.aH,M.aW,M.aU,M.aS,M.aI,aX,aN,dH,bn,Int.reduceBEq,Int.reduceLE,Int.reduceLT,Int.reduceSub,Int.reduceAdd,aY,ah] at h
 revert h
 all_goals try simp only[Int.reduceBEq,Int.reduceLE,Int.reduceLT,Int.reduceSub,Int.reduceAdd,aY,ah]
 all_goals(cases ho0:(op==0)<;>cases ht:(t==[])<;>cases hy:(o==[])<;>simp_all<;>intros<;>constructor<;>intros<;>first|omega|exact gQ ‹_›|exact iZ ‹_›|(rw[aP (n:=op+1) (by omega) (by omega)] at *;omega)|(simp_all<;>omega))
theorem ayD(op:Int)(t o:aF)(kids:ak)(h:M.ay 26 op t o kids=some true):Cnt 26 op o kids.length:=by
 simp only[M.ay,M.aC,M.aQ,M.aH,M.aW,M.aU,M.aS,M.aI,aX,aN,dH,bn,Int.reduceBEq,Int.reduceLE,Int.reduceLT,Int.reduceSub,Int.reduceAdd,aY,ah] at h
 revert h
 all_goals try simp only[Int.reduceBEq,Int.reduceLE,Int.reduceLT,Int.reduceSub,Int.reduceAdd,aY,ah]
 all_goals(cases ho0:(op==0)<;>cases ht:(t==[])<;>cases hy:(o==[])<;>simp_all<;>intros<;>constructor<;>intros<;>first|omega|exact gQ ‹_›|exact iZ ‹_›|(rw[aP (n:=op+1) (by omega) (by omega)] at *;omega)|(simp_all<;>omega))
theorem ayE(op:Int)(t o:aF)(kids:ak)(h:M.ay 27 op t o kids=some true):Cnt 27 op o kids.length:=by
 simp only[M.ay,M.aC,M.aQ,M.aH,M.aW,M.aU,M.aS,M.aI,aX,aN,dH,bn,Int.reduceBEq,Int.reduceLE,Int.reduceLT,Int.reduceSub,Int.reduceAdd,aY,ah] at h
 revert h
 cases hn0:M.ig t with
 |none=>cases op==0<;>simp
 |some b0=>_
 all_goals try simp only[Int.reduceBEq,Int.reduceLE,Int.reduceLT,Int.reduceSub,Int.reduceAdd,aY,ah]
 all_goals(cases ho0:(op==0)<;>cases ht:(t==[])<;>cases hy:(o==[])<;>cases b0<;>simp_all<;>intros<;>constructor<;>intros<;>first|omega|exact gQ ‹_›|exact iZ ‹_›|(rw[aP (n:=op+1) (by omega) (by omega)] at *;omega)|(simp_all<;>omega))
theorem ayF(op:Int)(t o:aF)(kids:ak)(h:M.ay 28 op t o kids=some true):Cnt 28 op o kids.length:=by
 simp only[M.ay,M.aC,M.aQ,M.aH,M.aW,M.aU,M.aS,M.aI,aX,aN,dH,bn,Int.reduceBEq,Int.reduceLE,Int.reduceLT,Int.reduceSub,Int.reduceAdd,aY,ah] at h
 revert h
 all_goals try simp only[Int.reduceBEq,Int.reduceLE,Int.reduceLT,Int.reduceSub,Int.reduceAdd,aY,ah]
 all_goals(cases ho0:(op==0)<;>cases ht:(t==[])<;>cases hy:(o==[])<;>simp_all<;>intros<;>constructor<;>intros<;>first|omega|exact gQ ‹_›|exact iZ ‹_›|(rw[aP (n:=op+1) (by omega) (by omega)] at *;omega)|(simp_all<;>omega))
theorem ayG(op:Int)(t o:aF)(kids:ak)(h:M.ay 29 op t o kids=some true):Cnt 29 op o kids.length:=by
 simp only[M.ay,M.aC,M.aQ,M.aH,M.aW,M.aU,M.aS,M.aI,aX,aN,dH,bn,Int.reduceBEq,Int.reduceLE,Int.reduceLT,Int.reduceSub,Int.reduceAdd,aY,ah] at h
 revert h
 all_goals try simp only[Int.reduceBEq,Int.reduceLE,Int.reduceLT,Int.reduceSub,Int.reduceAdd,aY,ah]
 all_goals(cases ho0:(op==0)<;>cases ht:(t==[])<;>cases hy:(o==[])<;>simp_all<;>intros<;>constructor<;>intros<;>first|omega|exact gQ ‹_›|exact iZ ‹_›|(rw[aP (n:=op+1) (by omega) (by omega)] at *;omega)|(simp_all<;>omega))
theorem ayH(op:Int)(t o:aF)(kids:ak)(h:M.ay 30 op t o kids=some true):Cnt 30 op o kids.length:=by
 simp only[M.ay,M.aC,M.aQ,M.aH,M.aW,M.aU,M.aS,M.aI,aX,aN,dH,bn,Int.reduceBEq,Int.reduceLE,Int.reduceLT,Int.reduceSub,Int.reduceAdd,aY,ah] at h
 revert h
 all_goals try simp only[Int.reduceBEq,Int.reduceLE,Int.reduceLT,Int.reduceSub,Int.reduceAdd,aY,ah]
 all_goals(cases ho0:(op==0)<;>cases ht:(t==[])<;>cases hy:(o==[])<;>simp_all<;>intros<;>constructor<;>intros<;>first|omega|exact gQ ‹_›|exact iZ ‹_›|(rw[aP (n:=op+1) (by omega) (by omega)] at *;omega)|(simp_all<;>omega))
theorem ayI(op:Int)(t o:aF)(kids:ak)(h:M.ay 31 op t o kids=some true):Cnt 31 op o kids.length:=by
 simp only[M.ay,M.aC,M.aQ,M.aH,M.aW,M.aU,M.aS,M.aI,aX,aN,dH,bn,Int.reduceBEq,Int.reduceLE,Int.reduceLT,Int.reduceSub,Int.reduceAdd,aY,ah] at h
 revert h
 all_goals try simp only[Int.reduceBEq,Int.reduceLE,Int.reduceLT,Int.reduceSub,Int.reduceAdd,aY,ah]
 all_goals(cases ho0:(op==0)<;>cases ht:(t==[])<;>cases hy:(o==[])<;>simp_all<;>intros<;>constructor<;>intros<;>first|omega|exact gQ ‹_›|exact iZ ‹_›|(rw[aP (n:=op+1) (by omega) (by omega)] at *;omega)|(simp_all<;>omega))
theorem ayJ(op:Int)(t o:aF)(kids:ak)(h:M.ay 32 op t o kids=some true):Cnt 32 op o kids.length:=by
 simp only[M.ay,M.aC,M.aQ,M.aH,M.aW,M.aU,M.aS,M.aI,aX,aN,dH,bn,Int.reduceBEq,Int.reduceLE,Int.reduceLT,Int.reduceSub,Int.reduceAdd,aY,ah] at h
 revert h
 cases hn0:M.ig t with
 |none=>cases op==0<;>simp
 |some b0=>_
 cases hn1:M.ig o with
 |none=>cases b0<;>cases op==0<;>simp
 |some b1=>_
 all_goals try simp only[Int.reduceBEq,Int.reduceLE,Int.reduceLT,Int.reduceSub,Int.reduceAdd,aY,ah]
 all_goals(cases ho0:(op==0)<;>cases ht:(t==[])<;>cases hy:(o==[])<;>cases b0<;>cases b1<;>simp_all<;>intros<;>constructor<;>intros<;>first|omega|exact gQ ‹_›|exact iZ ‹_›|(rw[aP (n:=op+1) (by omega) (by omega)] at *;omega)|(simp_all<;>omega))
theorem ayK(op:Int)(t o:aF)(kids:ak)(h:M.ay 33 op t o kids=some true):Cnt 33 op o kids.length:=by
 simp only[M.ay,M.aC,M.aQ,M.aH,M.aW,M.aU,M.aS,M.aI,aX,aN,dH,bn,Int.reduceBEq,Int.reduceLE,Int.reduceLT,Int.reduceSub,Int.reduceAdd,aY,ah] at h
 revert h
 all_goals try simp only[Int.reduceBEq,Int.reduceLE,Int.reduceLT,Int.reduceSub,Int.reduceAdd,aY,ah]
 all_goals(cases ho0:(op==0)<;>cases ht:(t==[])<;>cases hy:(o==[])<;>simp_all<;>intros<;>constructor<;>intros<;>first|omega|exact gQ ‹_›|exact iZ ‹_›|(rw[aP (n:=op+1) (by omega) (by omega)] at *;omega)|(simp_all<;>omega))
theorem ayL(op:Int)(t o:aF)(kids:ak)(h:M.ay 34 op t o kids=some true):Cnt 34 op o kids.length:=by
 simp only[M.ay,M.aC,M.aQ,M.aH,M.aW,M.aU,M.aS,M.aI,aX,aN,dH,bn,Int.reduceBEq,Int.reduceLE,Int.reduceLT,Int.reduceSub,Int.reduceAdd,aY,ah] at h
 revert h
 cases hn0:M.kU 2 t 0 with
 |none=>cases op==0<;>simp
 |some b0=>_
 all_goals try simp only[Int.reduceBEq,Int.reduceLE,Int.reduceLT,Int.reduceSub,Int.reduceAdd,aY,ah]
 all_goals(cases ho0:(op==0)<;>cases ht:(t==[])<;>cases hy:(o==[])<;>cases b0<;>simp_all<;>intros<;>constructor<;>intros<;>first|omega|exact gQ ‹_›|exact iZ ‹_›|(rw[aP (n:=op+1) (by omega) (by omega)] at *;omega)|(simp_all<;>omega))
theorem ayM(op:Int)(t o:aF)(kids:ak)(h:M.ay 40 op t o kids=some true):Cnt 40 op o kids.length:=by
 simp only[M.ay,M.aC,M.aQ,M.aH,M.aW,M.aU,M.aS,M.aI,aX,aN,dH,bn,Int.reduceBEq,Int.reduceLE,Int.reduceLT,Int.reduceSub,Int.reduceAdd,aY,ah] at h
 revert h
 all_goals try simp only[Int.reduceBEq,Int.reduceLE,Int.reduceLT,Int.reduceSub,Int.reduceAdd,aY,ah]
 all_goals(cases ho0:(op==0)<;>cases ht:(t==[])<;>cases hy:(o==[])<;>simp_all<;>intros<;>constructor<;>intros<;>first|omega|exact gQ ‹_›|exact iZ ‹_›|(rw[aP (n:=op+1) (by omega) (by omega)] at *;omega)|(simp_all<;>omega))
theorem ayN(op:Int)(t o:aF)(kids:ak)(h:M.ay 41 op t o kids=some true):Cnt 41 op o kids.length:=by
 simp only[M.ay,M.aC,M.aQ,M.aH,M.aW,M.aU,M.aS,M.aI,aX,aN,dH,bn,Int.reduceBEq,Int.reduceLE,Int.reduceLT,Int.reduceSub,Int.reduceAdd,aY,ah] at h
 revert h
 all_goals try simp only[Int.reduceBEq,Int.reduceLE,Int.reduceLT,Int.reduceSub,Int.reduceAdd,aY,ah]
 all_goals(cases ho0:(op==0)<;>cases ht:(t==[])<;>cases hy:(o==[])<;>simp_all<;>intros<;>constructor<;>intros<;>first|omega|exact gQ ‹_›|exact iZ ‹_›|(rw[aP (n:=op+1) (by omega) (by omega)] at *;omega)|(simp_all<;>omega))
theorem ayO(op:Int)(t o:aF)(kids:ak)(h:M.ay 42 op t o kids=some true):Cnt 42 op o kids.length:=by
 have hc:=afo h
 have hr:=hc.rule rfl
 constructor<;>intros<;>omega
theorem ayP(op:Int)(t o:aF)(kids:ak)(h:M.ay 43 op t o kids=some true):Cnt 43 op o kids.length:=by
 have hc:=afo h
 have hr:=hc.range rfl
 constructor<;>intros<;>omega
theorem ayQ(op:Int)(t o:aF)(kids:ak)(h:M.ay 44 op t o kids=some true):Cnt 44 op o kids.length:=by
 simp only[M.ay,M.aC,M.aQ,M.aH,M.aW,M.aU,M.aS,M.aI,aX,aN,dH,bn,Int.reduceBEq,Int.reduceLE,Int.reduceLT,Int.reduceSub,Int.reduceAdd,aY,ah] at h
 revert h
 cases hn0:M.ig t with
 |none=>cases op==0<;>simp
 |some b0=>_
 all_goals try simp only[Int.reduceBEq,Int.reduceLE,Int.reduceLT,Int.reduceSub,Int.reduceAdd,aY,ah]
 all_goals(cases ho0:(op==0)<;>cases ht:(t==[])<;>cases hy:(o==[])<;>cases b0<;>simp_all<;>intros<;>constructor<;>intros<;>first|omega|exact gQ ‹_›|exact iZ ‹_›|(rw[aP (n:=op+1) (by omega) (by omega)] at *;omega)|(simp_all<;>omega))
theorem ayR(op:Int)(t o:aF)(kids:ak)(h:M.ay 45 op t o kids=some true):Cnt 45 op o kids.length:=by
 simp only[M.ay,M.aC,M.aQ,M.aH,M.aW,M.aU,M.aS,M.aI,aX,aN,dH,bn,Int.reduceBEq,Int.reduceLE,Int.reduceLT,Int.reduceSub,Int.reduceAdd,aY,ah] at h
 revert h
 all_goals try simp only[Int.reduceBEq,Int.reduceLE,Int.reduceLT,Int.reduceSub,Int.reduceAdd,aY,ah]
 all_goals(cases ho0:(op==0)<;>cases ht:(t==[])<;>cases hy:(o==[])<;>simp_all<;>intros<;>constructor<;>intros<;>first|omega|exact gQ ‹_›|exact iZ ‹_›|(rw[aP (n:=op+1) (by omega) (by omega)] at *;omega)|(simp_all<;>omega))
theorem aJL(op:Int)(t o:aF)(kids:ak)(j:Nat)(d:Int)(hj:j<kids.length)(hl:kids.length≤400)(hc:Cnt 1 op o kids.length)(h:M.aG 1 op t o kids (j:Int) d=some true):iJ (cls 1 op kids.length j) d:=by
 have hw:IntKind.i64.wrap ((kids.length:Int) - 1)=(kids.length:Int) - 1:=aP (by omega) (by omega)
 simp only[M.aG,M.aO,bC,bg,bD,aV,aX,aN,Int.reduceBEq,Int.reduceLE,Int.reduceLT,Int.reduceSub,Int.reduceAdd,aY,ah] at h
 try rw[hw] at h
 have:=hc.non (by omega)
 omega
theorem aJM(op:Int)(t o:aF)(kids:ak)(j:Nat)(d:Int)(hj:j<kids.length)(hl:kids.length≤400)(hc:Cnt 2 op o kids.length)(h:M.aG 2 op t o kids (j:Int) d=some true):iJ (cls 2 op kids.length j) d:=by
 have hw:IntKind.i64.wrap ((kids.length:Int) - 1)=(kids.length:Int) - 1:=aP (by omega) (by omega)
 simp only[M.aG,M.aO,bC,bg,bD,aV,aX,aN,Int.reduceBEq,Int.reduceLE,Int.reduceLT,Int.reduceSub,Int.reduceAdd,aY,ah] at h
 try rw[hw] at h
 have:=hc.non (by omega)
 omega
theorem aJN(op:Int)(t o:aF)(kids:ak)(j:Nat)(d:Int)(hj:j<kids.length)(hl:kids.length≤400)(hc:Cnt 3 op o kids.length)(h:M.aG 3 op t o kids (j:Int) d=some true):iJ (cls 3 op kids.length j) d:=by
 have hw:IntKind.i64.wrap ((kids.length:Int) - 1)=(kids.length:Int) - 1:=aP (by omega) (by omega)
 simp only[M.aG,M.aO,bC,bg,bD,aV,aX,aN,Int.reduceBEq,Int.reduceLE,Int.reduceLT,Int.reduceSub,Int.reduceAdd,aY,ah] at h
 try rw[hw] at h
 have:=hc.non (by omega)
 omega
theorem aJO(op:Int)(t o:aF)(kids:ak)(j:Nat)(d:Int)(hj:j<kids.length)(hl:kids.length≤400)(hc:Cnt 4 op o kids.length)(h:M.aG 4 op t o kids (j:Int) d=some true):iJ (cls 4 op kids.length j) d:=by
 have hw:IntKind.i64.wrap ((kids.length:Int) - 1)=(kids.length:Int) - 1:=aP (by omega) (by omega)
 simp only[M.aG,M.aO,bC,bg,bD,aV,aX,aN,Int.reduceBEq,Int.reduceLE,Int.reduceLT,Int.reduceSub,Int.reduceAdd,aY,ah] at h
 try rw[hw] at h
 have:=hc.non (by omega)
 omega
theorem aJP(op:Int)(t o:aF)(kids:ak)(j:Nat)(d:Int)(hj:j<kids.length)(hl:kids.length≤400)(hc:Cnt 5 op o kids.length)(h:M.aG 5 op t o kids (j:Int) d=some true):iJ (cls 5 op kids.length j) d:=by
 have hw:IntKind.i64.wrap ((kids.length:Int) - 1)=(kids.length:Int) - 1:=aP (by omega) (by omega)
 simp only[M.aG,M.aO,bC,bg,bD,aV,aX,aN,Int.reduceBEq,Int.reduceLE,Int.reduceLT,Int.reduceSub,Int.reduceAdd,aY,ah] at h
 try rw[hw] at h
 simp[cls,iJ,lF,zD,CW,isIt,Bool.cond_eq_ite] at h⊢
 all_goals first|omega|((repeat' split at h)<;>simp_all<;>omega)
theorem aJQ(op:Int)(t o:aF)(kids:ak)(j:Nat)(d:Int)(hj:j<kids.length)(hl:kids.length≤400)(hc:Cnt 6 op o kids.length)(h:M.aG 6 op t o kids (j:Int) d=some true):iJ (cls 6 op kids.length j) d:=by
 have hw:IntKind.i64.wrap ((kids.length:Int) - 1)=(kids.length:Int) - 1:=aP (by omega) (by omega)
 simp only[M.aG,M.aO,bC,bg,bD,aV,aX,aN,Int.reduceBEq,Int.reduceLE,Int.reduceLT,Int.reduceSub,Int.reduceAdd,aY,ah] at h
 try rw[hw] at h
 simp[cls,iJ,lF,zD,CW,isIt,Bool.cond_eq_ite] at h⊢
 all_goals first|omega|((repeat' split at h)<;>simp_all<;>omega)
theorem aJR(op:Int)(t o:aF)(kids:ak)(j:Nat)(d:Int)(hj:j<kids.length)(hl:kids.length≤400)(hc:Cnt 7 op o kids.length)(h:M.aG 7 op t o kids (j:Int) d=some true):iJ (cls 7 op kids.length j) d:=by
 have hw:IntKind.i64.wrap ((kids.length:Int) - 1)=(kids.length:Int) - 1:=aP (by omega) (by omega)
 simp only[M.aG,M.aO,bC,bg,bD,aV,aX,aN,Int.reduceBEq,Int.reduceLE,Int.reduceLT,Int.reduceSub,Int.reduceAdd,aY,ah] at h
 try rw[hw] at h
 simp[cls,iJ,lF,zD,CW,isIt,Bool.cond_eq_ite] at h⊢
 all_goals first|omega|((repeat' split at h)<;>simp_all<;>omega)
theorem aJS(op:Int)(t o:aF)(kids:ak)(j:Nat)(d:Int)(hj:j<kids.length)(hl:kids.length≤400)(hc:Cnt 8 op o kids.length)(h:M.aG 8 op t o kids (j:Int) d=some true):iJ (cls 8 op kids.length j) d:=by
 have hw:IntKind.i64.wrap ((kids.length:Int) - 1)=(kids.length:Int) - 1:=aP (by omega) (by omega)
 simp only[M.aG,M.aO,bC,bg,bD,aV,aX,aN,Int.reduceBEq,Int.reduceLE,Int.reduceLT,Int.reduceSub,Int.reduceAdd,aY,ah] at h
 try rw[hw] at h
 simp[cls,iJ,lF,zD,CW,isIt,Bool.cond_eq_ite] at h⊢
 all_goals first|omega|((repeat' split at h)<;>simp_all<;>omega)
theorem aJT(op:Int)(t o:aF)(kids:ak)(j:Nat)(d:Int)(hj:j<kids.length)(hl:kids.length≤400)(hc:Cnt 9 op o kids.length)(h:M.aG 9 op t o kids (j:Int) d=some true):iJ (cls 9 op kids.length j) d:=by
 have hw:IntKind.i64.wrap ((kids.length:Int) - 1)=(kids.length:Int) - 1:=aP (by omega) (by omega)
 simp only[M.aG,M.aO,bC,bg,bD,aV,aX,aN,Int.reduceBEq,Int.reduceLE,Int.reduceLT,Int.reduceSub,Int.reduceAdd,aY,ah] at h
 try rw[hw] at h
 have hn:=hc.one (by omega)
 obtain rfl:j=0:=by omega
 all_goals(simp[cls,iJ,lF,zD,CW,isIt,Bool.cond_eq_ite] at h⊢<;>first|omega|(repeat' split at h)<;>simp_all<;>omega)
theorem ayS(op:Int)(t o:aF)(kids:ak)(j:Nat)(d:Int)(hj:j<kids.length)(hl:kids.length≤400)(hc:Cnt 10 op o kids.length)(h:M.aG 10 op t o kids (j:Int) d=some true):iJ (cls 10 op kids.length j) d:=by
 have hw:IntKind.i64.wrap ((kids.length:Int) - 1)=(kids.length:Int) - 1:=aP (by omega) (by omega)
 simp only[M.aG,M.aO,bC,bg,bD,aV,aX,aN,Int.reduceBEq,Int.reduceLE,Int.reduceLT,Int.reduceSub,Int.reduceAdd,aY,ah] at h
 try rw[hw] at h
 have hn:=hc.one (by omega)
 obtain rfl:j=0:=by omega
 all_goals(simp[cls,iJ,lF,zD,CW,isIt,Bool.cond_eq_ite] at h⊢<;>first|omega|(repeat' split at h)<;>simp_all<;>omega)
theorem ayT(op:Int)(t o:aF)(kids:ak)(j:Nat)(d:Int)(hj:j<kids.length)(hl:kids.length≤400)(hc:Cnt 11 op o kids.length)(h:M.aG 11 op t o kids (j:Int) d=some true):iJ (cls 11 op kids.length j) d:=by
 have hw:IntKind.i64.wrap ((kids.length:Int) - 1)=(kids.length:Int) - 1:=aP (by omega) (by omega)
 simp only[M.aG,M.aO,bC,bg,bD,aV,aX,aN,Int.reduceBEq,Int.reduceLE,Int.reduceLT,Int.reduceSub,Int.reduceAdd,aY,ah] at h
 try rw[hw] at h
 simp[cls,iJ,lF,zD,CW,isIt,Bool.cond_eq_ite] at h⊢
 all_goals first|omega|((repeat' split at h)<;>simp_all<;>omega)
theorem ayU(op:Int)(t o:aF)(kids:ak)(j:Nat)(d:Int)(hj:j<kids.length)(hl:kids.length≤400)(hc:Cnt 12 op o kids.length)(h:M.aG 12 op t o kids (j:Int) d=some true):iJ (cls 12 op kids.length j) d:=by
 have hw:IntKind.i64.wrap ((kids.length:Int) - 1)=(kids.length:Int) - 1:=aP (by omega) (by omega)
 simp only[M.aG,M.aO,bC,bg,bD,aV,aX,aN,Int.reduceBEq,Int.reduceLE,Int.reduceLT,Int.reduceSub,Int.reduceAdd,aY,ah] at h
 try rw[hw] at h
 simp[cls,iJ,lF,zD,CW,isIt,Bool.cond_eq_ite] at h⊢
 all_goals first|omega|((repeat' split at h)<;>simp_all<;>omega)
theorem ayV(op:Int)(t o:aF)(kids:ak)(j:Nat)(d:Int)(hj:j<kids.length)(hl:kids.length≤400)(hc:Cnt 13 op o kids.length)(h:M.aG 13 op t o kids (j:Int) d=some true):iJ (cls 13 op kids.length j) d:=by
 have hw:IntKind.i64.wrap ((kids.length:Int) - 1)=(kids.length:Int) - 1:=aP (by omega) (by omega)
 simp only[M.aG,M.aO,bC,bg,bD,aV,aX,aN,Int.reduceBEq,Int.reduceLE,Int.reduceLT,Int.reduceSub,Int.reduceAdd,aY,ah] at h
 try rw[hw] at h
 simp[cls,iJ,lF,zD,CW,isIt,Bool.cond_eq_ite] at h⊢
 all_goals first|omega|((repeat' split at h)<;>simp_all<;>omega)
theorem ayW(op:Int)(t o:aF)(kids:ak)(j:Nat)(d:Int)(hj:j<kids.length)(hl:kids.length≤400)(hc:Cnt 14 op o kids.length)(h:M.aG 14 op t o kids (j:Int) d=some true):iJ (cls 14 op kids.length j) d:=by
 have hw:IntKind.i64.wrap ((kids.length:Int) - 1)=(kids.length:Int) - 1:=aP (by omega) (by omega)
 simp only[M.aG,M.aO,bC,bg,bD,aV,aX,aN,Int.reduceBEq,Int.reduceLE,Int.reduceLT,Int.reduceSub,Int.reduceAdd,aY,ah] at h
 try rw[hw] at h
 simp[cls,iJ,lF,zD,CW,isIt,Bool.cond_eq_ite] at h⊢
 all_goals first|omega|((repeat' split at h)<;>simp_all<;>omega)
theorem ayX(op:Int)(t o:aF)(kids:ak)(j:Nat)(d:Int)(hj:j<kids.length)(hl:kids.length≤400)(hc:Cnt 15 op o kids.length)(h:M.aG 15 op t o kids (j:Int) d=some true):iJ (cls 15 op kids.length j) d:=by
 have hw:IntKind.i64.wrap ((kids.length:Int) - 1)=(kids.length:Int) - 1:=aP (by omega) (by omega)
 simp only[M.aG,M.aO,bC,bg,bD,aV,aX,aN,Int.reduceBEq,Int.reduceLE,Int.reduceLT,Int.reduceSub,Int.reduceAdd,aY,ah] at h
 try rw[hw] at h
 have hn:=hc.two (by omega)
 obtain rfl|rfl:j=0∨j=1:=by omega
 all_goals(simp[cls,iJ,lF,zD,CW,isIt,Bool.cond_eq_ite] at h⊢<;>first|omega|(repeat' split at h)<;>simp_all<;>omega)
theorem ayY(op:Int)(t o:aF)(kids:ak)(j:Nat)(d:Int)(hj:j<kids.length)(hl:kids.length≤400)(hc:Cnt 16 op o kids.length)(h:M.aG 16 op t o kids (j:Int) d=some true):iJ (cls 16 op kids.length j) d:=by
 have hw:IntKind.i64.wrap ((kids.length:Int) - 1)=(kids.length:Int) - 1:=aP (by omega) (by omega)
 simp only[M.aG,M.aO,bC,bg,bD,aV,aX,aN,Int.reduceBEq,Int.reduceLE,Int.reduceLT,Int.reduceSub,Int.reduceAdd,aY,ah] at h
 try rw[hw] at h
 have:=hc.non (by omega)
 omega
theorem ayZ(op:Int)(t o:aF)(kids:ak)(j:Nat)(d:Int)(hj:j<kids.length)(hl:kids.length≤400)(hc:Cnt 20 op o kids.length)(h:M.aG 20 op t o kids (j:Int) d=some true):iJ (cls 20 op kids.length j) d:=by
 have hw:IntKind.i64.wrap ((kids.length:Int) - 1)=(kids.length:Int) - 1:=aP (by omega) (by omega)
 simp only[M.aG,M.aO,bC,bg,bD,aV,aX,aN,Int.reduceBEq,Int.reduceLE,Int.reduceLT,Int.reduceSub,Int.reduceAdd,aY,ah] at h
 try rw[hw] at h
 simp[cls,iJ,lF,zD,CW,isIt,Bool.cond_eq_ite] at h⊢
 all_goals first|omega|((repeat' split at h)<;>simp_all<;>omega)
theorem ay0(op:Int)(t o:aF)(kids:ak)(j:Nat)(d:Int)(hj:j<kids.length)(hl:kids.length≤400)(hc:Cnt 21 op o kids.length)(h:M.aG 21 op t o kids (j:Int) d=some true):iJ (cls 21 op kids.length j) d:=by
 have hw:IntKind.i64.wrap ((kids.length:Int) - 1)=(kids.length:Int) - 1:=aP (by omega) (by omega)
 simp only[M.aG,M.aO,bC,bg,bD,aV,aX,aN,Int.reduceBEq,Int.reduceLE,Int.reduceLT,Int.reduceSub,Int.reduceAdd,aY,ah] at h
 try rw[hw] at h
 simp[cls,iJ,lF,zD,CW,isIt,Bool.cond_eq_ite] at h⊢
 all_goals first|omega|((repeat' split at h)<;>simp_all<;>omega)
theorem ay1(op:Int)(t o:aF)(kids:ak)(j:Nat)(d:Int)(hj:j<kids.length)(hl:kids.length≤400)(hc:Cnt 22 op o kids.length)(h:M.aG 22 op t o kids (j:Int) d=some true):iJ (cls 22 op kids.length j) d:=by
 have hw:IntKind.i64.wrap ((kids.length:Int) - 1)=(kids.length:Int) - 1:=aP (by omega) (by omega)
 simp only[M.aG,M.aO,bC,bg,bD,aV,aX,aN,Int.reduceBEq,Int.reduceLE,Int.reduceLT,Int.reduceSub,Int.reduceAdd,aY,ah] at h
 try rw[hw] at h
 have:=hc.non (by omega)
 omega
theorem ay2(op:Int)(t o:aF)(kids:ak)(j:Nat)(d:Int)(hj:j<kids.length)(hl:kids.length≤400)(hc:Cnt 23 op o kids.length)(h:M.aG 23 op t o kids (j:Int) d=some true):iJ (cls 23 op kids.length j) d:=by
 have hw:IntKind.i64.wrap ((kids.length:Int) - 1)=(kids.length:Int) - 1:=aP (by omega) (by omega)
 simp only[M.aG,M.aO,bC,bg,bD,aV,aX,aN,Int.reduceBEq,Int.reduceLE,Int.reduceLT,Int.reduceSub,Int.reduceAdd,aY,ah] at h
 try rw[hw] at h
 simp[cls,iJ,lF,zD,CW,isIt,Bool.cond_eq_ite] at h⊢
 all_goals first|omega|((repeat' split at h)<;>simp_all<;>omega)
theorem ay3(op:Int)(t o:aF)(kids:ak)(j:Nat)(d:Int)(hj:j<kids.length)(hl:kids.length≤400)(hc:Cnt 24 op o kids.length)(h:M.aG 24 op t o kids (j:Int) d=some true):iJ (cls 24 op kids.length j) d:=by
 have hw:IntKind.i64.wrap ((kids.length:Int) - 1)=(kids.length:Int) - 1:=aP (by omega) (by omega)
 simp only[M.aG,M.aO,bC,bg,bD,aV,aX,aN,Int.reduceBEq,Int.reduceLE,Int.reduceLT,Int.reduceSub,Int.reduceAdd,aY,ah] at h
 try rw[hw] at h
 simp[cls,iJ,lF,zD,CW,isIt,Bool.cond_eq_ite] at h⊢
 all_goals first|omega|((repeat' split at h)<;>simp_all<;>omega)
theorem ay4(op:Int)(t o:aF)(kids:ak)(j:Nat)(d:Int)(hj:j<kids.length)(hl:kids.length≤400)(hc:Cnt 25 op o kids.length)(h:M.aG 25 op t o kids (j:Int) d=some true):iJ (cls 25 op kids.length j) d:=by
 have hw:IntKind.i64.wrap ((kids.length:Int) - 1)=(kids.length:Int) - 1:=aP (by omega) (by omega)
 simp only[M.aG,M.aO,bC,bg,bD,aV,aX,aN,Int.reduceBEq,Int.reduceLE,Int.reduceLT,Int.reduceSub,Int.reduceAdd,aY,ah] at h
 try rw[hw] at h
 have:=hc.non (by omega)
 omega
theorem ay5(op:Int)(t o:aF)(kids:ak)(j:Nat)(d:Int)(hj:j<kids.length)(hl:kids.length≤400)(hc:Cnt 26 op o kids.length)(h:M.aG 26 op t o kids (j:Int) d=some true):iJ (cls 26 op kids.length j) d:=by
 have hw:IntKind.i64.wrap ((kids.length:Int) - 1)=(kids.length:Int) - 1:=aP (by omega) (by omega)
 simp only[M.aG,M.aO,bC,bg,bD,aV,aX,aN,Int.reduceBEq,Int.reduceLE,Int.reduceLT,Int.reduceSub,Int.reduceAdd,aY,ah] at h
 try rw[hw] at h
 have:=hc.non (by omega)
 omega
theorem ay6(op:Int)(t o:aF)(kids:ak)(j:Nat)(d:Int)(hj:j<kids.length)(hl:kids.length≤400)(hc:Cnt 27 op o kids.length)(h:M.aG 27 op t o kids (j:Int) d=some true):iJ (cls 27 op kids.length j) d:=by
 have hw:IntKind.i64.wrap ((kids.length:Int) - 1)=(kids.length:Int) - 1:=aP (by omega) (by omega)
 simp only[M.aG,M.aO,bC,bg,bD,aV,aX,aN,Int.reduceBEq,Int.reduceLE,Int.reduceLT,Int.reduceSub,Int.reduceAdd,aY,ah] at h
 try rw[hw] at h
 simp[cls,iJ,lF,zD,CW,isIt,Bool.cond_eq_ite] at h⊢
 all_goals first|omega|((repeat' split at h)<;>simp_all<;>omega)
theorem ay7(op:Int)(t o:aF)(kids:ak)(j:Nat)(d:Int)(hj:j<kids.length)(hl:kids.length≤400)(hc:Cnt 28 op o kids.length)(h:M.aG 28 op t o kids (j:Int) d=some true):iJ (cls 28 op kids.length j) d:=by
 have hw:IntKind.i64.wrap ((kids.length:Int) - 1)=(kids.length:Int) - 1:=aP (by omega) (by omega)
 simp only[M.aG,M.aO,bC,bg,bD,aV,aX,aN,Int.reduceBEq,Int.reduceLE,Int.reduceLT,Int.reduceSub,Int.reduceAdd,aY,ah] at h
 try rw[hw] at h
 have hn:=hc.cnd (by omega)
 obtain rfl|rfl|rfl:j=0∨j=1∨j=2:=by omega
 all_goals(simp[cls,iJ,lF,zD,CW,isIt,Bool.cond_eq_ite] at h⊢<;>first|omega|(repeat' split at h)<;>simp_all<;>omega)
theorem ay8(op:Int)(t o:aF)(kids:ak)(j:Nat)(d:Int)(hj:j<kids.length)(hl:kids.length≤400)(hc:Cnt 29 op o kids.length)(h:M.aG 29 op t o kids (j:Int) d=some true):iJ (cls 29 op kids.length j) d:=by
 have hw:IntKind.i64.wrap ((kids.length:Int) - 1)=(kids.length:Int) - 1:=aP (by omega) (by omega)
 simp only[M.aG,M.aO,bC,bg,bD,aV,aX,aN,Int.reduceBEq,Int.reduceLE,Int.reduceLT,Int.reduceSub,Int.reduceAdd,aY,ah] at h
 try rw[hw] at h
 have hn:=hc.two (by omega)
 obtain rfl|rfl:j=0∨j=1:=by omega
 all_goals(simp[cls,iJ,lF,zD,CW,isIt,Bool.cond_eq_ite] at h⊢<;>first|omega|(repeat' split at h)<;>simp_all<;>omega)
theorem ay9(op:Int)(t o:aF)(kids:ak)(j:Nat)(d:Int)(hj:j<kids.length)(hl:kids.length≤400)(hc:Cnt 30 op o kids.length)(h:M.aG 30 op t o kids (j:Int) d=some true):iJ (cls 30 op kids.length j) d:=by
 have hw:IntKind.i64.wrap ((kids.length:Int) - 1)=(kids.length:Int) - 1:=aP (by omega) (by omega)
 simp only[M.aG,M.aO,bC,bg,bD,aV,aX,aN,Int.reduceBEq,Int.reduceLE,Int.reduceLT,Int.reduceSub,Int.reduceAdd,aY,ah] at h
 try rw[hw] at h
 have hn:=hc.two (by omega)
 obtain rfl|rfl:j=0∨j=1:=by omega
 all_goals(simp[cls,iJ,lF,zD,CW,isIt,Bool.cond_eq_ite] at h⊢<;>first|omega|(repeat' split at h)<;>simp_all<;>omega)
theorem aza(op:Int)(t o:aF)(kids:ak)(j:Nat)(d:Int)(hj:j<kids.length)(hl:kids.length≤400)(hc:Cnt 31 op o kids.length)(h:M.aG 31 op t o kids (j:Int) d=some true):iJ (cls 31 op kids.length j) d:=by
 have hw:IntKind.i64.wrap ((kids.length:Int) - 1)=(kids.length:Int) - 1:=aP (by omega) (by omega)
 simp only[M.aG,M.aO,bC,bg,bD,aV,aX,aN,Int.reduceBEq,Int.reduceLE,Int.reduceLT,Int.reduceSub,Int.reduceAdd,aY,ah] at h
 try rw[hw] at h
 have hn:=hc.four (by omega)
 obtain rfl|rfl|rfl|rfl:j=0∨j=1∨j=2∨j=3:=by omega
 all_goals(simp[cls,iJ,lF,zD,CW,isIt,Bool.cond_eq_ite] at h⊢<;>first|omega|(repeat' split at h)<;>simp_all<;>omega)
theorem azb(op:Int)(t o:aF)(kids:ak)(j:Nat)(d:Int)(hj:j<kids.length)(hl:kids.length≤400)(hc:Cnt 32 op o kids.length)(h:M.aG 32 op t o kids (j:Int) d=some true):iJ (cls 32 op kids.length j) d:=by
 have hw:IntKind.i64.wrap ((kids.length:Int) - 1)=(kids.length:Int) - 1:=aP (by omega) (by omega)
 simp only[M.aG,M.aO,bC,bg,bD,aV,aX,aN,Int.reduceBEq,Int.reduceLE,Int.reduceLT,Int.reduceSub,Int.reduceAdd,aY,ah] at h
 try rw[hw] at h
 simp[cls,iJ,lF,zD,CW,isIt,Bool.cond_eq_ite] at h⊢
 all_goals first|omega|((repeat' split at h)<;>simp_all<;>omega)
theorem azc(op:Int)(t o:aF)(kids:ak)(j:Nat)(d:Int)(hj:j<kids.length)(hl:kids.length≤400)(hc:Cnt 33 op o kids.length)(h:M.aG 33 op t o kids (j:Int) d=some true):iJ (cls 33 op kids.length j) d:=by
 have hw:IntKind.i64.wrap ((kids.length:Int) - 1)=(kids.length:Int) - 1:=aP (by omega) (by omega)
 simp only[M.aG,M.aO,bC,bg,bD,aV,aX,aN,Int.reduceBEq,Int.reduceLE,Int.reduceLT,Int.reduceSub,Int.reduceAdd,aY,ah] at h
 try rw[hw] at h
 simp[cls,iJ,lF,zD,CW,isIt,Bool.cond_eq_ite] at h⊢
 all_goals first|omega|((repeat' split at h)<;>simp_all<;>omega)
theorem azd(op:Int)(t o:aF)(kids:ak)(j:Nat)(d:Int)(hj:j<kids.length)(hl:kids.length≤400)(hc:Cnt 34 op o kids.length)(h:M.aG 34 op t o kids (j:Int) d=some true):iJ (cls 34 op kids.length j) d:=by
 have hw:IntKind.i64.wrap ((kids.length:Int) - 1)=(kids.length:Int) - 1:=aP (by omega) (by omega)
 simp only[M.aG,M.aO,bC,bg,bD,aV,aX,aN,Int.reduceBEq,Int.reduceLE,Int.reduceLT,Int.reduceSub,Int.reduceAdd,aY,ah] at h
 try rw[hw] at h
 have:=hc.non (by omega)
 omega
theorem aze(op:Int)(t o:aF)(kids:ak)(j:Nat)(d:Int)(hj:j<kids.length)(hl:kids.length≤400)(hc:Cnt 40 op o kids.length)(h:M.aG 40 op t o kids (j:Int) d=some true):iJ (cls 40 op kids.length j) d:=by
 have hw:IntKind.i64.wrap ((kids.length:Int) - 1)=(kids.length:Int) - 1:=aP (by omega) (by omega)
 simp only[M.aG,M.aO,bC,bg,bD,aV,aX,aN,Int.reduceBEq,Int.reduceLE,Int.reduceLT,Int.reduceSub,Int.reduceAdd,aY,ah] at h
 try rw[hw] at h
 simp[cls,iJ,lF,zD,CW,isIt,Bool.cond_eq_ite] at h⊢
 all_goals first|omega|((repeat' split at h)<;>simp_all<;>omega)
theorem azf(op:Int)(t o:aF)(kids:ak)(j:Nat)(d:Int)(hj:j<kids.length)(hl:kids.length≤400)(hc:Cnt 41 op o kids.length)(h:M.aG 41 op t o kids (j:Int) d=some true):iJ (cls 41 op kids.length j) d:=by
 have hw:IntKind.i64.wrap ((kids.length:Int) - 1)=(kids.length:Int) - 1:=aP (by omega) (by omega)
 simp only[M.aG,M.aO,bC,bg,bD,aV,aX,aN,Int.reduceBEq,Int.reduceLE,Int.reduceLT,Int.reduceSub,Int.reduceAdd,aY,ah] at h
 try rw[hw] at h
 simp[cls,iJ,lF,zD,CW,isIt,Bool.cond_eq_ite] at h⊢
 all_goals first|omega|((repeat' split at h)<;>simp_all<;>omega)
theorem azg(op:Int)(t o:aF)(kids:ak)(j:Nat)(d:Int)(hj:j<kids.length)(hl:kids.length≤400)(hc:Cnt 42 op o kids.length)(h:M.aG 42 op t o kids (j:Int) d=some true):iJ (cls 42 op kids.length j) d:=by
 have hw:IntKind.i64.wrap ((kids.length:Int) - 1)=(kids.length:Int) - 1:=aP (by omega) (by omega)
 simp only[M.aG,M.aO,bC,bg,bD,aV,aX,aN,Int.reduceBEq,Int.reduceLE,Int.reduceLT,Int.reduceSub,Int.reduceAdd,aY,ah] at h
 try rw[hw] at h
 rcases hc.rule rfl with⟨rfl,h1⟩|⟨rfl,h1⟩|⟨rfl,h1⟩
 ·obtain rfl:j=0:=by omega
  all_goals(simp[cls,iJ,lF,zD,CW,isIt,Bool.cond_eq_ite,h1] at h⊢<;>first|omega|(repeat' split at h)<;>simp_all<;>omega)
 ·obtain rfl:j=0:=by omega
  all_goals(simp[cls,iJ,lF,zD,CW,isIt,Bool.cond_eq_ite,h1] at h⊢<;>first|omega|(repeat' split at h)<;>simp_all<;>omega)
 ·obtain rfl|rfl:j=0∨j=1:=by omega
  all_goals(simp[cls,iJ,lF,zD,CW,isIt,Bool.cond_eq_ite,h1] at h⊢<;>first|omega|(repeat' split at h)<;>simp_all<;>omega)
theorem azh(op:Int)(t o:aF)(kids:ak)(j:Nat)(d:Int)(hj:j<kids.length)(hl:kids.length≤400)(hc:Cnt 43 op o kids.length)(h:M.aG 43 op t o kids (j:Int) d=some true):iJ (cls 43 op kids.length j) d:=by
 have hw:IntKind.i64.wrap ((kids.length:Int) - 1)=(kids.length:Int) - 1:=aP (by omega) (by omega)
 simp only[M.aG,M.aO,bC,bg,bD,aV,aX,aN,Int.reduceBEq,Int.reduceLE,Int.reduceLT,Int.reduceSub,Int.reduceAdd,aY,ah] at h
 try rw[hw] at h
 rcases hc.range rfl with⟨rfl,h1⟩|⟨rfl,h1⟩
 ·obtain rfl|rfl:j=0∨j=1:=by omega
  all_goals(simp[cls,iJ,lF,zD,CW,isIt,Bool.cond_eq_ite,h1] at h⊢<;>first|omega|(repeat' split at h)<;>simp_all<;>omega)
 ·obtain rfl|rfl|rfl:j=0∨j=1∨j=2:=by omega
  all_goals(simp[cls,iJ,lF,zD,CW,isIt,Bool.cond_eq_ite,h1] at h⊢<;>first|omega|(repeat' split at h)<;>simp_all<;>omega)
theorem azi(op:Int)(t o:aF)(kids:ak)(j:Nat)(d:Int)(hj:j<kids.length)(hl:kids.length≤400)(hc:Cnt 44 op o kids.length)(h:M.aG 44 op t o kids (j:Int) d=some true):iJ (cls 44 op kids.length j) d:=by
 have hw:IntKind.i64.wrap ((kids.length:Int) - 1)=(kids.length:Int) - 1:=aP (by omega) (by omega)
 simp only[M.aG,M.aO,bC,bg,bD,aV,aX,aN,Int.reduceBEq,Int.reduceLE,Int.reduceLT,Int.reduceSub,Int.reduceAdd,aY,ah] at h
 try rw[hw] at h
 by_cases h1:j+1=kids.length
 ·have e:((j:Int)==(kids.length:Int) - 1)=true:=by rw[beq_iff_eq];omega
  rw[e] at h
  simp[cls,iJ,h1,Bool.cond_eq_ite] at h⊢
  first|omega|skip
 ·have e:((j:Int)==(kids.length:Int) - 1)=false:=by rw[beq_eq_false_iff_ne];omega
  rw[e] at h
  simp[cls,iJ,h1,Bool.cond_eq_ite] at h⊢
  first|omega|skip
theorem azj(op:Int)(t o:aF)(kids:ak)(j:Nat)(d:Int)(hj:j<kids.length)(hl:kids.length≤400)(hc:Cnt 45 op o kids.length)(h:M.aG 45 op t o kids (j:Int) d=some true):iJ (cls 45 op kids.length j) d:=by
 have hw:IntKind.i64.wrap ((kids.length:Int) - 1)=(kids.length:Int) - 1:=aP (by omega) (by omega)
 simp only[M.aG,M.aO,bC,bg,bD,aV,aX,aN,Int.reduceBEq,Int.reduceLE,Int.reduceLT,Int.reduceSub,Int.reduceAdd,aY,ah] at h
 try rw[hw] at h
 simp[cls,iJ,lF,zD,CW,isIt,Bool.cond_eq_ite] at h⊢
 all_goals first|omega|((repeat' split at h)<;>simp_all<;>omega)
theorem alr{k op:Int}{t o:aF}{kids:ak}(h:M.ay k op t o kids=some true):Yc k:=by
 by_cases hk:Yc k
 ·exact hk
 ·exfalso
  have e1:(decide (k≥1) && decide (k≤16))=false:=by
   cases hq:(decide (k≥1) && decide (k≤16)) with
   |false=>rfl
   |true=>rw[Bool.and_eq_true,decide_eq_true_eq,decide_eq_true_eq] at hq;exact absurd (Or.inl hq) hk
  have e2:(decide (k≥20) && decide (k≤34))=false:=by
   cases hq:(decide (k≥20) && decide (k≤34)) with
   |false=>rfl
   |true=>rw[Bool.and_eq_true,decide_eq_true_eq,decide_eq_true_eq] at hq;exact absurd (Or.inr (Or.inl hq)) hk
  have e3:(decide (k≥40) && decide (k≤45))=false:=by
   cases hq:(decide (k≥40) && decide (k≤45)) with
   |false=>rfl
   |true=>rw[Bool.and_eq_true,decide_eq_true_eq,decide_eq_true_eq] at hq;exact absurd (Or.inr (Or.inr hq)) hk
  simp only[M.ay,M.aC,aX,e1,e2,e3,ah,cond_false] at h
  cases hm:M.aQ k op t o kids with
  |none=>rw[hm] at h;cases h
  |some r=>rw[hm,ah] at h;cases h
theorem azk{k op:Int}{t o:aF}{kids:ak}(h:M.ay k op t o kids=some true):Cnt k op o kids.length:=by
 have hk:k=1∨k=2∨k=3∨k=4∨k=5∨k=6∨k=7∨k=8∨k=9∨k=10∨k=11∨k=12∨k=13∨k=14∨k=15∨k=16∨k=20∨k=21∨k=22∨k=23∨k=24∨k=25∨k=26∨k=27∨k=28∨k=29∨k=30∨k=31∨k=32∨k=33∨k=34∨k=40∨k=41∨k=42∨k=43∨k=44∨k=45:=by
  have:=alr h
  unfold Yc at this
  omega
 rcases hk with rfl|rfl|rfl|rfl|rfl|rfl|rfl|rfl|rfl|rfl|rfl|rfl|rfl|rfl|rfl|rfl|rfl|rfl|rfl|rfl|rfl|rfl|rfl|rfl|rfl|rfl|rfl|rfl|rfl|rfl|rfl|rfl|rfl|rfl|rfl|rfl|rfl
 ·exact aJC _ _ _ _ h
 ·exact aJD _ _ _ _ h
 ·exact aJE _ _ _ _ h
 ·exact aJF _ _ _ _ h
 ·exact aJG _ _ _ _ h
 ·exact aJH _ _ _ _ h
 ·exact aJI _ _ _ _ h
 ·exact aJJ _ _ _ _ h
 ·exact aJK _ _ _ _ h
 ·exact ayq _ _ _ _ h
 ·exact ayr _ _ _ _ h
 ·exact ays _ _ _ _ h
 ·exact ayt _ _ _ _ h
 ·exact ayu _ _ _ _ h
 ·exact ayv _ _ _ _ h
 ·exact ayw _ _ _ _ h
 ·exact ayx _ _ _ _ h
 ·exact ayy _ _ _ _ h
 ·exact ayz _ _ _ _ h
 ·exact ayA _ _ _ _ h
 ·exact ayB _ _ _ _ h
 ·exact ayC _ _ _ _ h
 ·exact ayD _ _ _ _ h
 ·exact ayE _ _ _ _ h
 ·exact ayF _ _ _ _ h
 ·exact ayG _ _ _ _ h
 ·exact ayH _ _ _ _ h
 ·exact ayI _ _ _ _ h
 ·exact ayJ _ _ _ _ h
 ·exact ayK _ _ _ _ h
 ·exact ayL _ _ _ _ h
 ·exact ayM _ _ _ _ h
 ·exact ayN _ _ _ _ h
 ·exact ayO _ _ _ _ h
 ·exact ayP _ _ _ _ h
 ·exact ayQ _ _ _ _ h
 ·exact ayR _ _ _ _ h
theorem azl{k op:Int}{t o:aF}{kids:ak}{j:Nat}{d:Int}(hk:Yc k)(hj:j<kids.length)(hl:kids.length≤400)(hc:Cnt k op o kids.length)(h:M.aG k op t o kids (j:Int) d=some true):iJ (cls k op kids.length j) d:=by
 have hk:k=1∨k=2∨k=3∨k=4∨k=5∨k=6∨k=7∨k=8∨k=9∨k=10∨k=11∨k=12∨k=13∨k=14∨k=15∨k=16∨k=20∨k=21∨k=22∨k=23∨k=24∨k=25∨k=26∨k=27∨k=28∨k=29∨k=30∨k=31∨k=32∨k=33∨k=34∨k=40∨k=41∨k=42∨k=43∨k=44∨k=45:=by
  unfold Yc at hk
  omega
 rcases hk with rfl|rfl|rfl|rfl|rfl|rfl|rfl|rfl|rfl|rfl|rfl|rfl|rfl|rfl|rfl|rfl|rfl|rfl|rfl|rfl|rfl|rfl|rfl|rfl|rfl|rfl|rfl|rfl|rfl|rfl|rfl|rfl|rfl|rfl|rfl|rfl|rfl
 ·exact aJL _ _ _ _ _ _ hj hl hc h
 ·exact aJM _ _ _ _ _ _ hj hl hc h
 ·exact aJN _ _ _ _ _ _ hj hl hc h
 ·exact aJO _ _ _ _ _ _ hj hl hc h
 ·exact aJP _ _ _ _ _ _ hj hl hc h
 ·exact aJQ _ _ _ _ _ _ hj hl hc h
 ·exact aJR _ _ _ _ _ _ hj hl hc h
 ·exact aJS _ _ _ _ _ _ hj hl hc h
 ·exact aJT _ _ _ _ _ _ hj hl hc h
 ·exact ayS _ _ _ _ _ _ hj hl hc h
 ·exact ayT _ _ _ _ _ _ hj hl hc h
 ·exact ayU _ _ _ _ _ _ hj hl hc h
 ·exact ayV _ _ _ _ _ _ hj hl hc h
 ·exact ayW _ _ _ _ _ _ hj hl hc h
 ·exact ayX _ _ _ _ _ _ hj hl hc h
 ·exact ayY _ _ _ _ _ _ hj hl hc h
 ·exact ayZ _ _ _ _ _ _ hj hl hc h
 ·exact ay0 _ _ _ _ _ _ hj hl hc h
 ·exact ay1 _ _ _ _ _ _ hj hl hc h
 ·exact ay2 _ _ _ _ _ _ hj hl hc h
 ·exact ay3 _ _ _ _ _ _ hj hl hc h
 ·exact ay4 _ _ _ _ _ _ hj hl hc h
 ·exact ay5 _ _ _ _ _ _ hj hl hc h
 ·exact ay6 _ _ _ _ _ _ hj hl hc h
 ·exact ay7 _ _ _ _ _ _ hj hl hc h
 ·exact ay8 _ _ _ _ _ _ hj hl hc h
 ·exact ay9 _ _ _ _ _ _ hj hl hc h
 ·exact aza _ _ _ _ _ _ hj hl hc h
 ·exact azb _ _ _ _ _ _ hj hl hc h
 ·exact azc _ _ _ _ _ _ hj hl hc h
 ·exact azd _ _ _ _ _ _ hj hl hc h
 ·exact aze _ _ _ _ _ _ hj hl hc h
 ·exact azf _ _ _ _ _ _ hj hl hc h
 ·exact azg _ _ _ _ _ _ hj hl hc h
 ·exact azh _ _ _ _ _ _ hj hl hc h
 ·exact azi _ _ _ _ _ _ hj hl hc h
 ·exact azj _ _ _ _ _ _ hj hl hc h
theorem acG{α:Type}{p:Nat→α→Bool}:∀{l:List α} {i j:Nat} {x:α},QC p l i=true→l[j]? =some x→p (i+j) x=true
 |[],_,j,_,_,h=>by simp at h
 |y::l,i,0,x,h,e=>by
  rw[QC,Bool.and_eq_true] at h
  cases e
  exact h.1
 |y::l,i,j+1,x,h,e=>by
  rw[QC,Bool.and_eq_true] at h
  rw[List.getElem?_cons_succ] at e
  have:=acG h.2 e
  rwa [show i+1+j=i+(j+1) by omega] at this
theorem asE{k op:Int}{n:Nat}:∀{ks:List Tn} {j:Nat},(∀i t,ks[i]? =some t→iJ (cls k op n (j+i)) t.kind∧ED t)→oks k op n ks j
 |[],_,_=>by rw[oks];trivial
 |t::ts,j,h=>by
  rw[oks]
  have h0:=h 0 t rfl
  refine⟨h0.1,h0.2,asE fun i u hu=> ?_⟩
  have:=h (i+1) u (by rw[List.getElem?_cons_succ];exact hu)
  rwa [show j+(i+1)=j+1+i by omega] at this
theorem auy{l:List Nd}(hall:QC (np l) l 0=true)(hsm:∀n,n∈l→Small n)(hkl:∀n,n∈l→n.kids.length≤400)(t:Tn):∀b,Lies l b t→ED t:=by
 refine Tn.ind (P:=fun t=>∀b,Lies l b t→ED t) ?_ t
 intro k op x y ks ih b h
 have hr:=h.root
 have hm:=List.mem_of_getElem? hr
 have hn:=acG hall hr
 unfold np at hn
 rw[Bool.and_eq_true] at hn
 have hf:=(aft (hsm _ hm) (hkl _ hm)).1
 rw[hn.1] at hf
 have hc:=azk hf
 rw[dw,gZ] at hc
 have hkn:=alr hf
 rw[ED]
 refine⟨hkn,hc,asE fun i u hu=>⟨?_,ih u (List.mem_of_getElem? hu) _ (Lies.Vg h hu)⟩⟩
 have he:=afw (b:=b) hu
 have hlt:=(List.getElem?_eq_some_iff.1 hu).1
 have hk:=acG hn.2 he
 have hroot:=Lies.root' (Lies.Vg h hu)
 unfold kp at hk
 rw[Int.toNat_natCast] at hk
 have hnd:(TB l (b+sizes (ks.take i)+sizes u.kids)).kind=u.kind:=by rw[TB,hroot]
 rw[hnd] at hk
 have hko:=(amu (hsm _ hm) (hkl _ hm) hn.1 (0+i) (by rw[gZ];omega) u.kind).1
 rw[hk] at hko
 have:=azl (j:=0+i) hkn (by rw[dw,gZ];omega) (by rw[dw];exact hkl _ hm) (by rw[dw,gZ];exact hc) hko
 rw[dw,gZ] at this
 exact this
theorem amC{t:Tn}(h:Qc (t.flat 0)=true)(hsm:∀n,n∈t.flat 0→Small n):ED t:=by
 unfold Qc at h
 rw[Bool.and_eq_true,Bool.and_eq_true] at h
 obtain⟨r,hv⟩:=afr h.1
 exact auy h.2.2 hsm hv.aco t 0 (Lies.whole t)
noncomputable def mkNode(k:Int)(n:Nd):Nd:=⟨k,k+1,mk (k+2),mk (k+3),yD (k+4) n.kids.length⟩
def wK:List Nd→Nat
 |[]=>0
 |n::l=>4+n.kids.length+wK l
theorem Yf:∀a b:List Nd,wK (a++b)=wK a+wK b
 |[],b=>by simp[wK]
 |n::a,b=>by rw[List.cons_append,wK,wK,Yf a b];omega
noncomputable def vP(k:Int):List Nd→List Nd
 |[]=>[]
 |n::l=>mkNode k n::vP (k+4+n.kids.length) l
theorem Si(k:Int)(l:List Nd):(vP k l).length=l.length:=by
 induction l generalizing k with
 |nil=>rfl
 |cons n l ih=>rw[vP,List.length_cons,ih,List.length_cons]
theorem acH(k:Int)(a b:List Nd):vP k (a++b)=vP k a++vP (k+wK a) b:=by
 induction a generalizing k with
 |nil=>simp[vP,wK]
 |cons n a ih=>
  have e:k+4+(n.kids.length:Int)+(wK a:Int)=k+(wK (n::a):Int):=by rw[wK];omega
  rw[List.cons_append,vP,vP,ih,e,List.cons_append]
theorem amD{l:List Nd}{i:Nat}{n:Nd}(h:l[i]? =some n):wK (l.take i)+4+n.kids.length≤wK l:=by
 obtain⟨hi,rfl⟩:=List.getElem?_eq_some_iff.1 h
 have e:l=l.take i++l[i]::l.drop (i+1):=by
  rw[←List.drop_eq_getElem_cons hi,List.take_append_drop]
 have:=congrArg wK e
 rw[Yf,wK] at this
 omega
theorem asF:∀l:List Nd,l.length≤wK l
 |[]=>Nat.le_refl _
 |n::l=>by have:=asF l;rw[wK,List.length_cons];omega
theorem auz{l:List Nd}{i:Nat}{n:Nd}(h:l[i]? =some n):wK (l.take (i+1))=wK (l.take i)+(4+n.kids.length):=by
 rw[List.take_add_one,h,Yf]
 rfl
theorem afz(k:Int)(l:List Nd)(h0:0≤k)(h1:k+wK l≤900000000):M.rM k (dP true l)=some (k+wK l,dP true (vP k l)):=by
 simp only[M.rM,M.Eu]
 have hwl:=asF l
 have hloop:=jC (b:=M.yJ) (t:=(k+wK l,(l.length:Int),dP true (vP k l))) (fun i=>(k+wK (l.take i),(i:Int),dP true (vP k (l.take i))++dP true (l.drop i))) l.length
  (by
   intro i hi
   obtain⟨n,hn⟩:∃n,l[i]? =some n:=⟨l[i],by simp[hi]⟩
   have hd:l.drop i=n::l.drop (i+1):=by
    rw[List.drop_eq_getElem_cons hi]
    rw[List.getElem?_eq_getElem hi] at hn
    rw[Option.some.inj hn]
   have hla:(dP true (vP k (l.take i))).length=i:=by rw[iq,Si,List.length_take];omega
   have hw:=amD hn
   generalize hK:k+(wK (l.take i):Int)=K
   have w1:IntKind.i64.wrap (K+1)=K+1:=aP (by omega) (by omega)
   have w2:IntKind.i64.wrap (K+1+1)=K+2:=(aP (by omega) (by omega)).trans (by omega)
   have w3:IntKind.i64.wrap (K+2+1)=K+3:=(aP (by omega) (by omega)).trans (by omega)
   have w4:IntKind.i64.wrap (K+3+1)=K+4:=(aP (by omega) (by omega)).trans (by omega)
   have hm:=Y5 (K+4) n.kids (by omega) (by omega) (by omega)
   have hlen:decide ((i:Int)<((dP true (vP k (l.take i))++KP true n::dP true (l.drop (i+1))).length:Int))=true:=decide_eq_true (by
    rw[List.length_append,hla,List.length_cons];omega)
   have he:dP true (n::l.drop (i+1))=KP true n::dP true (l.drop (i+1)):=rfl
   have s0:splice (KP true n) 0 [D.int .i64 K]=[.int .i64 K,.int .i64 n.op,.str n.text,.str n.other,.sl true 1 (encI n.kids)]:=rfl
   have s1:splice [D.int .i64 K,.int .i64 n.op,.str n.text,.str n.other,.sl true 1 (encI n.kids)] 1 [D.int .i64 (K+1)]=[.int .i64 K,.int .i64 (K+1),.str n.text,.str n.other,.sl true 1 (encI n.kids)]:=rfl
   have s2:splice [D.int .i64 K,.int .i64 (K+1),.str n.text,.str n.other,.sl true 1 (encI n.kids)] 2 [D.str (mk (K+2))]=[.int .i64 K,.int .i64 (K+1),.str (mk (K+2)),.str n.other,.sl true 1 (encI n.kids)]:=rfl
   have s3:splice [D.int .i64 K,.int .i64 (K+1),.str (mk (K+2)),.str n.other,.sl true 1 (encI n.kids)] 3 [D.str (mk (K+3))]=[.int .i64 K,.int .i64 (K+1),.str (mk (K+2)),.str (mk (K+3)),.sl true 1 (encI n.kids)]:=rfl
   have s4:∀r,splice [D.int .i64 K,.int .i64 (K+1),.str (mk (K+2)),.str (mk (K+3)),.sl true 1 (encI n.kids)] 4 [D.sl true 1 r]=[.int .i64 K,.int .i64 (K+1),.str (mk (K+2)),.str (mk (K+3)),.sl true 1 r]:=fun _=>rfl
   have c4:aeC 1 [D.int .i64 K,.int .i64 (K+1),.str (mk (K+2)),.str (mk (K+3)),.sl true 1 (encI n.kids)] 4=some (encI n.kids):=rfl
   have hb:(Nat.beq 1 1 &&(true==true &&(true && true)))=true:=rfl
   simp only[hd,M.yJ,M.tu,hlen,cond_true,he,asC _ _ _ hla,Int.toNat_natCast,asD _ _ _ hla,at_set _ _ _ _ hla,ah,s0,s1,s2,s3,s4,c4,w1,w2,w3,w4,Oe (K+2) (by omega),Oe (K+3) (by omega),GU,aei,hm,hb]
   rw[aP (by omega) (by omega),auz hn,List.take_add_one,hn,Option.toList_some,acH,afu]
   have e2:vP (k+(wK (l.take i):Int)) [n]=[mkNode K n]:=by rw[hK];rfl
   have e3:dP true [mkNode K n]=[[D.int .i64 K,.int .i64 (K+1),.str (mk (K+2)),.str (mk (K+3)),.sl true 1 (encI (yD (K+4) n.kids.length))]]:=rfl
   rw[e2,e3,List.append_assoc]
   congr 3
   omega)
  (by
   simp only[M.yJ,M.tu,List.take_length,List.drop_length]
   have hlen:decide ((l.length:Int)<((dP true (vP k l)++dP true []).length:Int))=false:=decide_eq_false (by
    rw[List.length_append,iq,Si];simp[dP])
   rw[hlen,cond_false]
   simp[dP]) 0 (Nat.zero_le _)
 have e0:dP true (vP k (l.take 0))++dP true (l.drop 0)=dP true l:=by simp[vP,dP]
 have e1:k+(wK (l.take 0):Int)=k:=by simp[wK]
 rw[e0,e1,qH] at hloop
 rw[M.CJ,hloop,ah]
structure Ok(l:List Nd):Prop where
 len:l.length≤1048576
 kids:∀n,n∈l→n.kids.length≤1048576∧∀e,e∈n.kids→I64 e
 sm:∀n,n∈l→Small n
 w:wK l≤10000000
theorem Ok.k{l:List Nd}(h:Ok l):∀n,n∈l→n.kids.length≤1048576:=fun n hn=>by have:=(h.kids n hn).1;omega
theorem afA{l:List Nd}(h:Qc l=true):Dh l=true:=by
 unfold Qc at h
 rw[Bool.and_eq_true] at h
 exact h.1
theorem aJU{l:List Nd}(hs:(l.length+wNs l:Int)≤1048576)(hf:∀n,n∈l→Fit n)(hl:l.length≤1048576)(hk:∀n,n∈l→n.kids.length≤1048576):Ok l:=by
 have hw:∀l:List Nd,wK l≤4 * l.length+wNs l:=by
  intro l
  induction l with
  |nil=>exact Nat.le_refl _
  |cons n l ih=>rw[wK,wNs,wN,List.length_cons];omega
 have:=hw l
 exact⟨hl,fun n hn=>⟨hk n hn,(hf n hn).kid⟩,fun n hn=>by
  have h1:=anB hn
  have h2:wN n=n.text.length+n.other.length+n.kids.length:=rfl
  exact⟨by omega,by omega⟩,by omega⟩
def TD(o:Bool)(n:Nd):Row:=[.int .i64 n.kind,.int .i64 n.op,.str n.text,.sl o 1 (encI n.kids)]
def fB(o:Bool)(l:List Nd):ak:=l.map (TD o)
section
variable (o:Bool) (n:Nd) (l:List Nd) (i:Int)
@[simp] theorem kX:(fB o l).length=l.length:=by simp[fB]
@[simp] theorem azF:idx (fB o l) i=(idx l i).map (TD o):=aal _ _ _
@[simp] theorem Pn(j:Nat):(fB o l)[j]? =(l[j]?).map (TD o):=by simp[fB]
@[simp] theorem cD0:dn .i64 (TD o n) 0=some n.kind:=rfl
@[simp] theorem cD1:dn .i64 (TD o n) 1=some n.op:=rfl
@[simp] theorem cD2:cStr (TD o n) 2=some n.text:=rfl
@[simp] theorem cD3:BK 1 (TD o n) 3=some (encI n.kids):=rfl
@[simp] theorem acI:aA (fB o l)=fB false l:=by
 induction l with
 |nil=>rfl
 |cons x l ih=>
  simp only[fB,List.map_cons,aA] at ih⊢
  rw[ih]
  simp[TD,qZ,D.fz,anf]
end
theorem afB(n:Nd)(hk:n.kids.length≤maxLen):M.wQ n.kind n.op n.text (encI n.kids) n.kind n.op n.text (encI n.kids)=some true:=by
 simp only[M.wQ,M.IX,bne_self_eq_false,cond_false,beq_self_eq_true,Bool.not_true]
 rw[Y1 _ hk]
 rfl
theorem ads(l:List Nd)(o o':Bool)(hl:l.length≤maxLen)(hk:∀n,n∈l→n.kids.length≤maxLen):M.oC (fB o l) (fB o' l)=some true:=by
 unfold maxLen at hl
 simp only[M.oC,M.F5,kX,bne_self_eq_false,cond_false]
 have hloop:=jC (b:=M.Aw (fB o l) (fB o' l)) (t:=.inr ((l.length:Int))) (fun i=>(i:Int)) l.length
  (by
   intro i hi
   obtain⟨x,hx⟩:∃x,l[i]? =some x:=⟨l[i],by simp[hi]⟩
   simp only[M.Aw,M.vI,kX,fG,Pn,hx,Option.map_some,ah,cD0,cD1,cD2,cD3,afB x (hk x (List.mem_of_getElem? hx)),Bool.not_true,cond_false]
   rw[decide_eq_true (by omega),cond_true,aP (by omega) (by omega)]
   simp)
  (by
   simp only[M.Aw,M.vI,kX]
   rw[decide_eq_false (by omega),cond_false]) 0 (Nat.zero_le _)
 have h0':((0:Nat):Int)=0:=rfl
 rw[h0'] at hloop
 rw[M.Es,hloop,ah]
 rfl
noncomputable def mkD(k:Int)(n:Nd):Nd:=⟨k,k+1,mk (k+2),[],yD (k+3) n.kids.length⟩
def wD:List Nd→Nat
 |[]=>0
 |n::l=>3+n.kids.length+wD l
theorem Po:∀a b:List Nd,wD (a++b)=wD a+wD b
 |[],b=>by simp[wD]
 |n::a,b=>by rw[List.cons_append,wD,wD,Po a b];omega
noncomputable def I9(k:Int):List Nd→List Nd
 |[]=>[]
 |n::l=>mkD k n::I9 (k+3+n.kids.length) l
theorem KU(k:Int)(l:List Nd):(I9 k l).length=l.length:=by
 induction l generalizing k with
 |nil=>rfl
 |cons n l ih=>rw[I9,List.length_cons,ih,List.length_cons]
theorem Y6(k:Int)(a b:List Nd):I9 k (a++b)=I9 k a++I9 (k+wD a) b:=by
 induction a generalizing k with
 |nil=>simp[I9,wD]
 |cons n a ih=>
  have e:k+3+(n.kids.length:Int)+(wD a:Int)=k+(wD (n::a):Int):=by rw[wD];omega
  rw[List.cons_append,I9,I9,ih,e,List.cons_append]
theorem asG(k:Int){l:List Nd}{i:Nat}{n:Nd}(h:l[i]? =some n):(I9 k l)[i]? =some (mkD (k+wD (l.take i)) n):=by
 obtain⟨hi,rfl⟩:=List.getElem?_eq_some_iff.1 h
 have e:l=l.take i++l[i]::l.drop (i+1):=by
  rw[←List.drop_eq_getElem_cons hi,List.take_append_drop]
 have hl:(I9 k (l.take i)).length=i:=by rw[KU,List.length_take];omega
 have h2:I9 k l=I9 k (l.take i)++I9 (k+wD (l.take i)) (l[i]::l.drop (i+1)):=by
  rw[←Y6,←e]
 rw[h2,List.getElem?_append_right (by omega),hl,Nat.sub_self,I9]
 rfl
theorem Ez(o:Bool)(a b:List Nd):fB o (a++b)=fB o a++fB o b:=by simp[fB]
theorem acJ{l:List Nd}{i:Nat}{n:Nd}(h:l[i]? =some n):wD (l.take i)+3+n.kids.length≤wD l:=by
 obtain⟨hi,rfl⟩:=List.getElem?_eq_some_iff.1 h
 have e:l=l.take i++l[i]::l.drop (i+1):=by
  rw[←List.drop_eq_getElem_cons hi,List.take_append_drop]
 have:=congrArg wD e
 rw[Po,wD] at this
 omega
theorem afC:∀l:List Nd,l.length≤wD l
 |[]=>Nat.le_refl _
 |n::l=>by have:=afC l;rw[wD,List.length_cons];omega
theorem anG{l:List Nd}{i:Nat}{n:Nd}(h:l[i]? =some n):wD (l.take (i+1))=wD (l.take i)+(3+n.kids.length):=by
 rw[List.take_add_one,h,Po]
 rfl
theorem adt(k:Int)(l:List Nd)(h0:0≤k)(h1:k+wD l≤900000000):M.pX k (fB true l)=some (k+wD l,fB true (I9 k l)):=by
 simp only[M.pX,M.CO]
 have hwl:=afC l
 have hloop:=jC (b:=M.xM) (t:=(k+wD l,(l.length:Int),fB true (I9 k l))) (fun i=>(k+wD (l.take i),(i:Int),fB true (I9 k (l.take i))++fB true (l.drop i))) l.length
  (by
   intro i hi
   obtain⟨n,hn⟩:∃n,l[i]? =some n:=⟨l[i],by simp[hi]⟩
   have hd:l.drop i=n::l.drop (i+1):=by
    rw[List.drop_eq_getElem_cons hi]
    rw[List.getElem?_eq_getElem hi] at hn
    rw[Option.some.inj hn]
   have hla:(fB true (I9 k (l.take i))).length=i:=by rw[kX,KU,List.length_take];omega
   have hw:=acJ hn
   generalize hK:k+(wD (l.take i):Int)=K
   have w1:IntKind.i64.wrap (K+1)=K+1:=aP (by omega) (by omega)
   have w2:IntKind.i64.wrap (K+1+1)=K+2:=(aP (by omega) (by omega)).trans (by omega)
   have w3:IntKind.i64.wrap (K+2+1)=K+3:=(aP (by omega) (by omega)).trans (by omega)
   have hm:=Y5 (K+3) n.kids (by omega) (by omega) (by omega)
   have hlen:decide ((i:Int)<((fB true (I9 k (l.take i))++TD true n::fB true (l.drop (i+1))).length:Int))=true:=decide_eq_true (by
    rw[List.length_append,hla,List.length_cons];omega)
   have he:fB true (n::l.drop (i+1))=TD true n::fB true (l.drop (i+1)):=rfl
   have s0:splice (TD true n) 0 [D.int .i64 K]=[.int .i64 K,.int .i64 n.op,.str n.text,.sl true 1 (encI n.kids)]:=rfl
   have s1:splice [D.int .i64 K,.int .i64 n.op,.str n.text,.sl true 1 (encI n.kids)] 1 [D.int .i64 (K+1)]=[.int .i64 K,.int .i64 (K+1),.str n.text,.sl true 1 (encI n.kids)]:=rfl
   have s2:splice [D.int .i64 K,.int .i64 (K+1),.str n.text,.sl true 1 (encI n.kids)] 2 [D.str (mk (K+2))]=[.int .i64 K,.int .i64 (K+1),.str (mk (K+2)),.sl true 1 (encI n.kids)]:=rfl
   have s4:∀r,splice [D.int .i64 K,.int .i64 (K+1),.str (mk (K+2)),.sl true 1 (encI n.kids)] 3 [D.sl true 1 r]=[.int .i64 K,.int .i64 (K+1),.str (mk (K+2)),.sl true 1 r]:=fun _=>rfl
   have c4:aeC 1 [D.int .i64 K,.int .i64 (K+1),.str (mk (K+2)),.sl true 1 (encI n.kids)] 3=some (encI n.kids):=rfl
   have hb:(Nat.beq 1 1 &&(true==true &&(true && true)))=true:=rfl
   simp only[hd,M.xM,M.rU,hlen,cond_true,he,asC _ _ _ hla,Int.toNat_natCast,asD _ _ _ hla,at_set _ _ _ _ hla,ah,s0,s1,s2,s4,c4,w1,w2,w3,Oe (K+2) (by omega),GU,aei,hm,hb]
   rw[aP (by omega) (by omega),anG hn,List.take_add_one,hn,Option.toList_some,Y6,Ez]
   have e2:I9 (k+(wD (l.take i):Int)) [n]=[mkD K n]:=by rw[hK];rfl
   have e3:fB true [mkD K n]=[[D.int .i64 K,.int .i64 (K+1),.str (mk (K+2)),.sl true 1 (encI (yD (K+3) n.kids.length))]]:=rfl
   rw[e2,e3,List.append_assoc]
   congr 3
   omega)
  (by
   simp only[M.xM,M.rU,List.take_length,List.drop_length]
   have hlen:decide ((l.length:Int)<((fB true (I9 k l)++fB true []).length:Int))=false:=decide_eq_false (by
    rw[List.length_append,kX,KU];simp[fB])
   rw[hlen,cond_false]
   simp[fB]) 0 (Nat.zero_le _)
 have e0:fB true (I9 k (l.take 0))++fB true (l.drop 0)=fB true l:=by simp[I9,fB]
 have e1:k+(wD (l.take 0):Int)=k:=by simp[wD]
 rw[e0,e1,qH] at hloop
 rw[M.AB,hloop,ah]
theorem adu(k:Int)(l:List Nd)(h0:0≤k)(h1:k+wD l≤900000000):M.nH (aA (fB true (I9 k l))) k=some (k+wD l):=by
 simp only[M.nH,M.CP,acI]
 have hwl:=afC l
 have hloop:=jC (b:=M.xO (fB false (I9 k l))) (t:=.inr (k+wD l,(l.length:Int))) (fun i=>(k+wD (l.take i),(i:Int))) l.length
  (by
   intro i hi
   obtain⟨n,hn⟩:∃n,l[i]? =some n:=⟨l[i],by simp[hi]⟩
   have hw:=acJ hn
   have hg:=asG k hn
   generalize hK:k+(wD (l.take i):Int)=K at hg⊢
   have w1:IntKind.i64.wrap (K+1)=K+1:=aP (by omega) (by omega)
   have w2:IntKind.i64.wrap (K+1+1)=K+2:=(aP (by omega) (by omega)).trans (by omega)
   have w3:IntKind.i64.wrap (K+2+1)=K+3:=(aP (by omega) (by omega)).trans (by omega)
   have hm:=alp (K+3) n.kids.length (by omega) (by omega) (by omega)
   have d1:decide (K+3+(n.kids.length:Int)<0)=false:=decide_eq_false (by omega)
   have hlen:decide ((i:Int)<((fB false (I9 k l)).length:Int))=true:=decide_eq_true (by rw[kX,KU];omega)
   have hr:idx (fB false (I9 k l)) (i:Int)=some [D.int .i64 K,.int .i64 (K+1),.str (mk (K+2)),.sl false 1 (encI (yD (K+3) n.kids.length))]:=by
    rw[fG,Pn,hg];rfl
   have c0:dn .i64 [D.int .i64 K,.int .i64 (K+1),.str (mk (K+2)),.sl false 1 (encI (yD (K+3) n.kids.length))] 0=some K:=rfl
   have c1:dn .i64 [D.int .i64 K,.int .i64 (K+1),.str (mk (K+2)),.sl false 1 (encI (yD (K+3) n.kids.length))] 1=some (K+1):=rfl
   have c2:cStr [D.int .i64 K,.int .i64 (K+1),.str (mk (K+2)),.sl false 1 (encI (yD (K+3) n.kids.length))] 2=some (mk (K+2)):=rfl
   have c4:BK 1 [D.int .i64 K,.int .i64 (K+1),.str (mk (K+2)),.sl false 1 (encI (yD (K+3) n.kids.length))] 3=some (encI (yD (K+3) n.kids.length)):=rfl
   simp only[M.xO,M.rV,hlen,cond_true,cond_false,hr,ah,c0,c1,c2,c4,w1,w2,w3,bne_self_eq_false,Oe (K+2) (by omega),beq_self_eq_true,Bool.not_true,hm,d1]
   rw[aP (by omega) (by omega),anG hn]
   congr 3
   omega)
  (by
   have hlen:decide ((l.length:Int)<((fB false (I9 k l)).length:Int))=false:=decide_eq_false (by rw[kX,KU];omega)
   simp only[M.xO,M.rV,List.take_length,hlen,cond_false]) 0 (Nat.zero_le _)
 have e1:k+(wD (l.take 0):Int)=k:=by simp[wD]
 rw[e1,qH] at hloop
 rw[M.AO,hloop,ah]
 rfl
theorem acK:∀l:List Nd,AQ (fB true l)=true
 |[]=>rfl
 |n::l=>by
  have:fB true (n::l)=TD true n::fB true l:=rfl
  rw[this,AQ,acK l]
  simp[TD,dM,D.pure]
theorem aeo(l:List Nd):[[D.sl true 4 (fB true l)]].all dM=true:=by simp[dM,D.pure,acK]
theorem auA(l:List Nd)(o:Bool)(d:Int)(hl:l.length≤90000000)(hk:∀n,n∈l→n.kids.length≤90000000∧∀e,e∈n.kids→ -4000000000≤e+d∧e+d≤4000000000):
  M.oh (fB o l) d=some (fB true (l.map (Nd.up d))):=by
 simp only[M.oh,M.Fp]
 have hloop:=jC (b:=M.Ah (fB o l) d) (t:=((l.length:Int),fB true (l.map (Nd.up d)))) (fun i=>((i:Int),fB true ((l.take i).map (Nd.up d)))) l.length
  (by
   intro i hi
   obtain⟨n,hn⟩:∃n,l[i]? =some n:=⟨l[i],by simp[hi]⟩
   obtain⟨hkl,hke⟩:=hk n (List.mem_of_getElem? hn)
   have hin:=jC (b:=M.Ag (fB o l) d (i:Int) (fB true ((l.take i).map (Nd.up d))) n.kind n.op n.text) (t:=((n.kids.length:Int),encI (n.kids.map (· +d)))) (fun j=>((j:Int),encI ((n.kids.take j).map (· +d)))) n.kids.length
    (by
     intro j hj
     obtain⟨e,he⟩:∃e,n.kids[j]? =some e:=⟨n.kids[j],by simp[hj]⟩
     have:=hke e (List.mem_of_getElem? he)
     simp only[M.Ag,M.uX,fG,Pn,hn,Option.map_some,ah,cD3,dw,rD,he,Ll,List.length_map,List.length_take,List.length_singleton]
     rw[decide_eq_true (by omega),cond_true,eY (by omega),cond_true,eY (by omega),cond_true,aP (by omega) (by omega),aP (by omega) (by omega),lG he]
     simp[encI])
    (by
     simp only[M.Ag,M.uX,fG,Pn,hn,Option.map_some,ah,cD3,dw]
     rw[decide_eq_false (by omega),cond_false,List.take_length]) 0 (Nat.zero_le _)
   simp only[qH,List.take_zero,List.map_nil] at hin
   have hin':M.D7 (fB o l) d (i:Int) (fB true ((l.take i).map (Nd.up d))) n.kind n.op n.text (0,[])=some ((n.kids.length:Int),encI (n.kids.map (· +d))):=hin
   simp only[M.Ah,M.uY,kX,fG,Pn,hn,Option.map_some,ah,cD0,cD1,cD2,cD3,hin',GU,cond_true,List.length_map,List.length_take,List.length_singleton]
   rw[decide_eq_true (by omega),cond_true,eY (by omega),cond_true,eY (by omega),cond_true,aP (by omega) (by omega),lG hn,List.map_append,Ez]
   rfl)
  (by
   simp only[M.Ah,M.uY,kX]
   rw[decide_eq_false (by omega),cond_false,List.take_length]) 0 (Nat.zero_le _)
 simp only[qH,List.take_zero,List.map_nil] at hloop
 have JI:M.D8 (fB o l) d (0,[])=some ((l.length:Int),fB true (l.map (Nd.up d))):=hloop
 rw[JI,ah]
def o9(ts:List Tn):ak:=ts.map fun t=>[.sl false 4 (fB false (t.flat 0))]
theorem afD(t:Tn)(n:Nd)(hn:n∈t.flat 0):n.kids.length≤t.size∧∀e,e∈n.kids→0≤e∧e<t.size:=by
 obtain⟨h1,h2⟩:=aek t 0 n hn
 refine⟨by omega,fun e he=> ?_⟩
 have:=h2 e he
 omega
theorem amE(k op:Int)(ts:List Tn)(hs:sizes ts≤90000000):M.aT k op (o9 ts)=some (fB true ((Tn.mk k op [] [] ts).flat 0)):=by
 have htl:=lQ ts
 simp only[M.aT,M.Il]
 have hpl:(o9 ts).length=ts.length:=by simp[o9]
 have hloop:=jC (b:=M.xg)
  (t:=if ts=[] then .inl (o9 ts,0,[],k,op,[]) else .inr (o9 ts,(ts.length:Int),fB true (kZ ts 0),k,op,[],encI (ends ts 0)))
  (fun j=>if j=0 then .inl (o9 ts,0,[],k,op,[]) else .inr (o9 ts,(j:Int),fB true (kZ (ts.take j) 0),k,op,[],encI (ends (ts.take j) 0))) ts.length
  (by
   intro j hj
   obtain⟨t,ht⟩:∃t,ts[j]? =some t:=⟨ts[j],by simp[hj]⟩
   have hst:=NJ ht
   have hp:=t.size_pos
   have hr:(o9 ts)[j]? =some [.sl false 4 (fB false (t.flat 0))]:=by simp[o9,ht]
   have c0:BK 4 [D.sl false 4 (fB false (t.flat 0))] 0=some (fB false (t.flat 0)):=rfl
   have hfl:(fB true (kZ (ts.take j) 0)).length=sizes (ts.take j):=by rw[kX,ni]
   have hsh:M.oh (fB false (t.flat 0)) ((sizes (ts.take j):Nat):Int)=some (fB true (t.flat (sizes (ts.take j)))):=by
    rw[auA (t.flat 0) false _ (by rw[t.flat_length];omega) (fun n hn=> ?_)]
    ·rw[t.anh 0 (sizes (ts.take j))]
     congr 4<;>omega
    ·obtain⟨h1,h2⟩:=afD t n hn
     refine⟨by omega,fun e he=> ?_⟩
     have:=h2 e he
     omega
   have hrl:(fB true (t.flat (sizes (ts.take j)))).length=t.size:=by rw[kX,t.flat_length]
   have hel:(encI (ends (ts.take j) 0)).length=j:=by rw[dw,gZ,List.length_take];omega
   rw[if_neg (show¬j+1=0 by omega),aej ht,acu ht]
   by_cases h0:j=0
   ·subst h0
    have hi:idx (o9 ts) 0=some [.sl false 4 (fB false (t.flat 0))]:=by
     have:=fG (o9 ts) 0
     rw[qH] at this
     rw[this,hr]
    rw[if_pos rfl]
    have z:sizes (ts.take 0)=0:=rfl
    rw[z] at hsh hrl
    have z2:(([]:ak).length:Int)=((0:Nat):Int):=rfl
    simp only[M.xg,M.rZ,hpl,hi,ah,c0,z2,hsh,hrl,List.nil_append,List.length_nil,Nat.zero_add]
    rw[decide_eq_true (by omega),cond_true,eY (by omega),cond_true,eY (by omega),cond_true,aP (by omega) (by omega),aP (by omega) (by omega)]
    simp[encI,fB,kZ,ends,sizes]
   ·rw[if_neg h0]
    simp only[M.xg,M.rZ,hpl,fG,hr,ah,c0,hfl,hsh,hrl,hel,List.length_append,List.length_singleton]
    rw[decide_eq_true (by omega),cond_true,eY (by omega),cond_true,eY (by omega),cond_true,eY (by omega),cond_true,eY (by omega),cond_true,aP (by omega) (by omega),aP (by omega) (by omega),Ez,Nat.zero_add]
    simp[encI])
  (by
   by_cases h0:ts=[]
   ·rw[if_pos (by rw[h0];rfl),if_pos h0]
    subst h0
    rfl
   ·have h1:¬ts.length=0:=fun e=>h0 (List.length_eq_zero_iff.1 e)
    rw[if_neg h1,if_neg h0,List.take_length]
    simp only[M.xg,M.rZ,hpl]
    rw[decide_eq_false (by omega),cond_false]) 0 (Nat.zero_le _)
 rw[if_pos rfl] at hloop
 rw[M.Fq,hloop,ah]
 by_cases h0:ts=[]
 ·rw[if_pos h0]
  subst h0
  rfl
 ·rw[if_neg h0]
  simp only[xZ,letE,GU,cond_true,kX,ni,List.length_singleton]
  rw[eY (by omega),cond_true,eY (by omega),cond_true,Tn.flat,Ez]
  rfl
mutual
def xU(w:Bool):Tn→Row
 | .mk k n x _ ks=>[.int .i64 k,.int .i64 n,.str x,.sl w 5 (nJ w ks),.int .i64 0]
def nJ(w:Bool):List Tn→ak
 |[]=>[]
 |t::ts=>xU w t::nJ w ts
end
theorem S9(w:Bool):∀ts:List Tn,nJ w ts=ts.map (xU w)
 |[]=>rfl
 |t::ts=>by rw[nJ,S9 w ts];rfl
theorem Md(w:Bool)(a:List Tn):(nJ w a).length=a.length:=by simp[S9]
mutual
theorem auB(w:Bool):∀t:Tn,qZ (xU w t)=xU false t
 | .mk k n x y ks=>by
  have:=acL w ks
  simp only[xU,qZ,D.fz,this]
theorem acL(w:Bool):∀ts:List Tn,aA (nJ w ts)=nJ false ts
 |[]=>rfl
 |t::ts=>by rw[nJ,aA,auB w t,acL w ts,nJ]
end
theorem aJV(t:Tn):∀(f:Nat) (w:Bool) (p:List Nd),t.size≤f→p.length+t.size≤90000000→
  M.jT f t.kind t.op t.text (nJ w t.kids) 0 (fB true p)=some (fB true (p++t.flat p.length)):=by
 refine Tn.ind (P:=fun t=>∀(f:Nat) (w:Bool) (p:List Nd),t.size≤f→p.length+t.size≤90000000→M.jT f t.kind t.op t.text (nJ w t.kids) 0 (fB true p)=some (fB true (p++t.flat p.length))) ?_ t
 intro k op x y ks ih f w p hf hp
 cases f with
 |zero=>rw[Tn.size] at hf;omega
 |succ f=>
  rw[Tn.size] at hf hp
  have hkl:=lQ ks
  simp only[M.jT,M.Dy,Tn.kids,Tn.kind,Tn.op,Tn.text,Md]
  have hrec:∀j t,ks[j]? =some t→M.jT f t.kind t.op t.text (nJ w t.kids) 0 (fB true (p++kZ (ks.take j) p.length))=some (fB true (p++kZ (ks.take (j+1)) p.length)):=by
   intro j t hj
   have hst:=NJ hj
   have hfl:(p++kZ (ks.take j) p.length).length=p.length+sizes (ks.take j):=by rw[List.length_append,ni]
   have:=ih t (List.mem_of_getElem? hj) f w (p++kZ (ks.take j) p.length) (by omega) (by rw[hfl];omega)
   rw[this,hfl,acu hj,List.append_assoc]
  have hloop:=jC (b:=M.sD (M.jT f))
   (t:=if ks=[] then .inl (nJ w ks,(ks.length:Int),0,fB true p,k,op,x) else .inr (nJ w ks,(ks.length:Int),(ks.length:Int),fB true (p++kZ ks p.length),k,op,x,encI (ends ks p.length)))
   (fun j=>if j=0 then .inl (nJ w ks,(ks.length:Int),0,fB true p,k,op,x) else .inr (nJ w ks,(ks.length:Int),(j:Int),fB true (p++kZ (ks.take j) p.length),k,op,x,encI (ends (ks.take j) p.length))) ks.length
   (by
    intro j hj
    obtain⟨t,ht⟩:∃t,ks[j]? =some t:=⟨ks[j],by simp⟩
    have hr:=hrec j t ht
    have hst:=NJ ht
    have hp1:=t.size_pos
    have hg:(nJ w ks)[j]? =some (xU w t):=by rw[S9];simp[ht]
    have hc0:dn .i64 (xU w t) 0=some t.kind:=by cases t;rfl
    have hc1:dn .i64 (xU w t) 1=some t.op:=by cases t;rfl
    have hc2:cStr (xU w t) 2=some t.text:=by cases t;rfl
    have hc3:BK 5 (xU w t) 3=some (nJ w t.kids):=by cases t;rfl
    have hc4:dn .i64 (xU w t) 4=some 0:=by cases t;rfl
    have hfl:(fB true (p++kZ (ks.take (j+1)) p.length)).length=p.length+sizes (ks.take j)+t.size:=by rw[kX,List.length_append,ni,lG ht,oI,sizes,sizes];omega
    rw[if_neg (show¬j+1=0 by omega),aej ht]
    by_cases h0:j=0
    ·subst h0
     rw[if_pos rfl]
     have hi:idx (nJ w ks) 0=some (xU w t):=by
      have:=fG (nJ w ks) 0
      rw[qH] at this
      rw[this,hg]
     have hr0:M.jT f t.kind t.op t.text (nJ w t.kids) 0 (fB true p)=some (fB true (p++kZ (ks.take (0+1)) p.length)):=by
      rw[←hr]
      simp[kZ]
     simp only[M.sD,M.oZ,hi,ah,hc0,hc1,hc2,hc3,hc4,hr0,hfl]
     rw[decide_eq_true (by omega),cond_true,aP (by omega) (by omega),aP (by omega) (by omega)]
     rfl
    ·rw[if_neg h0]
     simp only[M.sD,M.oZ,fG,hg,ah,hc0,hc1,hc2,hc3,hc4,hr,hfl,dw,gZ,List.length_take,List.length_singleton]
     rw[decide_eq_true (by omega),cond_true,eY (by omega),cond_true,eY (by omega),cond_true,aP (by omega) (by omega),aP (by omega) (by omega)]
     simp[encI])
   (by
    by_cases h0:ks.length=0
    ·have he:ks=[]:=List.length_eq_zero_iff.1 h0
     rw[if_pos h0,if_pos he]
     simp only[M.sD,M.oZ]
     rw[decide_eq_false (by omega),cond_false]
    ·have he:¬ks=[]:=fun e=>h0 (by rw[e];rfl)
     rw[if_neg h0,if_neg he,List.take_length]
     simp only[M.sD,M.oZ]
     rw[decide_eq_false (by omega),cond_false]) 0 (Nat.zero_le _)
  rw[if_pos rfl] at hloop
  rw[M.FY,hloop,ah]
  by_cases he:ks=[]
  ·rw[if_pos he]
   subst he
   simp only[xZ,kX,List.length_singleton]
   rw[eY (by omega),cond_true,eY (by omega),cond_true,Ez]
   rfl
  ·rw[if_neg he]
   simp only[xZ,letE,kX,List.length_append,ni,List.length_singleton,GU,cond_true]
   rw[eY (by omega),cond_true,eY (by omega),cond_true,Tn.flat,←List.append_assoc]
   simp only[Ez]
   rfl
theorem Vl{a b:Int×Int}(c:Bool)(ha:(1≤a.1∧a.1≤14)∧1≤a.2∧a.2≤14)(hb:(1≤b.1∧b.1≤14)∧1≤b.2∧b.2≤14):(1≤(bif c then a else b).1∧(bif c then a else b).1≤14)∧1≤(bif c then a else b).2∧(bif c then a else b).2≤14:=by cases c<;>assumption
theorem als(op:Int):(1≤(sides op).1∧(sides op).1≤14)∧1≤(sides op).2∧(sides op).2≤14:=by
 unfold sides
 exact Vl _ (by decide) (Vl _ (by decide) (Vl _ (by decide) (Vl _ (by decide) (Vl _ (by decide) (Vl _ (by decide) (Vl _ (by decide) (by decide)))))))
theorem afE(k op:Int)(j:Nat):1≤Qd k op j∧Qd k op j≤14:=by
 have h:=als op
 unfold Qd
 exact EP _ (EP _ (by decide) (by decide)) (EP _ (EP _ (by decide) (by decide)) (EP _ (by decide) (EP _ (by decide) (EP _ (EP _ h.1 h.2) (by decide)))))
theorem sG{k op:Int}{n j:Nat}{p:Ps}(hp:lu p=true)(hj:j<n)(hl:lvl k op≠0):lu (dZ k op n j p)=true:=by
 have h1:Nat.blt j n=true:=by rw[Nat.blt_eq];exact hj
 have h2:(lvl k op==0)=false:=by simpa using hl
 unfold dZ
 rw[hp,h1,h2]
 simp only[Bool.not_true,Bool.or_false,cond_false]
 cases(lvl k op==15||(k==13 && Nat.blt 1 n)) with
 |true=>rfl
 |false=>
  have hr:=afE k op j
  simp only[cond_false,lu]
  rw[decide_eq_true hr.1,decide_eq_true (show Qd k op j≤15 by omega)]
  by_cases h6:k=6
  ·subst h6;rfl
  ·have:(k==6)=false:=by simpa using h6
   rw[this];rfl
theorem Sj{k op:Int}{n:Nat}{p q:Ps}(h:∀j,j<n→dZ k op n j p=dZ k op n j q):∀(ts:List Tn) (j:Nat),j+ts.length=n→jg k op n p ts j=jg k op n q ts j
 |[],_,_=>by rw[jg,jg]
 |t::ts,j,hj=>by
  rw[List.length_cons] at hj
  rw[jg,jg,h j (by omega),Sj h ts (j+1) (by omega)]
theorem Y7{k op:Int}{n:Nat}{p q:Ps}(h:∀j,j<n→dZ k op n j p=dZ k op n j q):∀(ts:List Tn) (j:Nat),j+ts.length=n→qI k op n p ts j=qI k op n q ts j
 |[],_,_=>by rw[qI,qI]
 |t::ts,j,hj=>by
  rw[List.length_cons] at hj
  rw[qI,qI,h j (by omega),Y7 h ts (j+1) (by omega)]
theorem DC{k op:Int}{n j:Nat}{p:Ps}(hp:lu p=true)(hj:j<n)(hl:lvl k op=15):dZ k op n j p=.top:=by
 have h1:Nat.blt j n=true:=by rw[Nat.blt_eq];exact hj
 unfold dZ
 rw[hp,h1,hl]
 rfl
theorem Qe{k op:Int}(h:13≤lvl k op)(he:1≤k∧k≤15):lvl k op=15∨k=6∨k=9∨k=10:=by
 have hk:k=1∨k=2∨k=3∨k=4∨k=5∨k=6∨k=7∨k=8∨k=9∨k=10∨k=11∨k=12∨k=13∨k=14∨k=15:=by omega
 rcases hk with rfl|rfl|rfl|rfl|rfl|rfl|rfl|rfl|rfl|rfl|rfl|rfl|rfl|rfl|rfl
 all_goals first
  |(left;rfl)
  |(right;simp;done)
  |(exfalso;have h2:=(acA op).2;have h3:lvl 12 op=vS op:=rfl;omega)
  |(exfalso;revert h;simp[lvl];done)
theorem afF{k op:Int}(h:k=1∨k=5∨k=6):13≤lvl k op∧(1≤k∧k≤15):=by
 rcases h with rfl|rfl|rfl<;>simp[lvl]
theorem Y8{k op:Int}{a b c:Bool}{i j:Bool}(hl:lvl k op≠0):fits k op ⟨14,true,a,b,false⟩=fits k op ⟨14,true,i,j,false⟩:=by
 have e:∀a b,fits k op ⟨14,true,a,b,false⟩=(k==9||decide (14≤lvl k op)):=by
  intro a b
  have h2:(lvl k op==0)=false:=by simpa using hl
  unfold fits
  rw[h2,show lu ⟨14,true,a,b,false⟩=true from rfl]
  simp only[Bool.not_true,Bool.or_false,cond_false,Bool.false_and,Bool.true_and]
  by_cases h13:k=13
  ·subst h13
   have:lvl 13 op=5:=rfl
   rw[this]
   cases a<;>cases b<;>rfl
  ·have e13:(k==13)=false:=by simpa using h13
   rw[e13,Bool.and_false,cond_false]
   by_cases h12:k=12∧op=62
   ·obtain⟨rfl,rfl⟩:=h12
    cases b<;>rfl
   ·have e12:(k==12 && op==62)=false:=by
     rw[Bool.and_eq_false_iff,beq_eq_false_iff_ne,beq_eq_false_iff_ne]
     omega
    rw[e12,Bool.and_false,cond_false]
 rw[e,e]
theorem amF(t:Tn):(ED t)→13≤lvl t.kind t.op→(RX t)→∀p q,lu p=true→lu q=true→sF t p=sF t q:=by
 refine Tn.ind (P:=fun t=>(ED t)→13≤lvl t.kind t.op→(RX t)→∀p q,lu p=true→lu q=true→sF t p=sF t q) ?_ t
 intro k op x y ks ih hok hl he p q hp hq
 simp only[Tn.kind,Tn.op] at hl
 simp only[RX,Tn.kind] at he
 rw[sF,sF]
 congr 1
 rcases Qe hl he with h|h
 ·exact Sj (fun j hj=>by rw[DC hp hj h,DC hq hj h]) ks 0 (by omega)
 ·have hn:ks.length=1:=(Lu hok).one (by omega)
  obtain⟨u,rfl⟩:=List.length_eq_one_iff.1 hn
  obtain⟨hue,huo⟩:=Xm hok he (i:=0) (t:=u) rfl
  obtain⟨huc,_⟩:=Ls hok (i:=0) (t:=u) rfl
  have hlu:1≤lvl u.kind u.op∧lvl u.kind u.op≤15:=by cases u;exact Og hue (Lu huo)
  have hlk:lvl k op≠0:=by omega
  have kp:=sG (n:=[u].length) (j:=0) hp (by simp) hlk
  have kq:=sG (n:=[u].length) (j:=0) hq (by simp) hlk
  rw[jg,jg,jg,jg]
  congr 1
  rcases h with rfl|h
  ·have e1:∀r:Ps,lu r=true→dZ 6 op [u].length 0 r=⟨14,true,r.o7,r.o8,false⟩:=by
    intro r hr
    unfold dZ
    rw[hr]
    rfl
   rw[e1 p hp] at kp⊢
   rw[e1 q hq] at kq⊢
   have ht:nI 6 0=false:=rfl
   rw[ht,Bool.false_or,Bool.false_or,Y8 (c:=false) (i:=q.o7) (j:=q.o8) (by omega)]
   cases hf:fits u.kind u.op ⟨14,true,q.o7,q.o8,false⟩ with
   |false=>rfl
   |true=>
    have azm:13≤lvl u.kind u.op:=by
     unfold fits at hf
     revert hf
     cases(!(lu ⟨14,true,q.o7,q.o8,false⟩)||lvl u.kind u.op==0)<;>cases(q.o7 && u.kind==13)<;>cases(q.o8 &&(u.kind==12 && u.op==62))<;>simp
     intro hf
     rcases hf with h9|h14
     ·rw[h9];exact(show(13:Int)≤13 by omega)
     ·omega
    rw[cond_true,cond_true]
    exact ih u (by simp) huo azm hue _ _ kp kq
  ·have ht:nI k 0=true:=by rcases h with rfl|rfl<;>rfl
   rw[ht,Bool.true_or,cond_true,Bool.true_or,cond_true]
   have hc6:cls k op [u].length 0=6:=by
    unfold cls
    rw[if_pos (by omega)]
   rw[hc6] at huc
   exact ih u (by simp) huo (afF huc).1 hue _ _ kp kq
theorem amG(t:Tn):(ED t)→13≤lvl t.kind t.op→(RX t)→∀p q,lu p=true→lu q=true→qh t p=qh t q:=by
 refine Tn.ind (P:=fun t=>(ED t)→13≤lvl t.kind t.op→(RX t)→∀p q,lu p=true→lu q=true→qh t p=qh t q) ?_ t
 intro k op x y ks ih hok hl he p q hp hq
 simp only[Tn.kind,Tn.op] at hl
 simp only[RX,Tn.kind] at he
 have hT:jg k op ks.length p ks 0=jg k op ks.length q ks 0∨k=6∨k=9∨k=10:=by
  rcases Qe hl he with h|h
  ·exact .inl (Sj (fun j hj=>by rw[DC hp hj h,DC hq hj h]) ks 0 (by omega))
  ·exact .inr h
 rw[qh,qh]
 have hg:∀g g' L,k≠11→Vh k op ks.length x g L=Vh k op ks.length x g' L:=by
  intro g g' L h11
  have:(k==11)=false:=by simpa using h11
  unfold Vh
  rw[this]
  rfl
 have h11:k≠11:=by
  rcases Qe hl he with h|h
  ·rintro rfl
   exact absurd h (by change¬(11:Int)=15;decide)
  ·omega
 rw[hg _ (ael op (jg k op ks.length q ks 0)) _ h11]
 congr 1
 rcases Qe hl he with h|h
 ·exact Y7 (fun j hj=>by rw[DC hp hj h,DC hq hj h]) ks 0 (by omega)
 ·have hn:ks.length=1:=(Lu hok).one (by omega)
  obtain⟨u,rfl⟩:=List.length_eq_one_iff.1 hn
  obtain⟨hue,huo⟩:=Xm hok he (i:=0) (t:=u) rfl
  obtain⟨huc,_⟩:=Ls hok (i:=0) (t:=u) rfl
  have hlu:1≤lvl u.kind u.op∧lvl u.kind u.op≤15:=by cases u;exact Og hue (Lu huo)
  have hlk:lvl k op≠0:=by omega
  have kp:=sG (n:=[u].length) (j:=0) hp (by simp) hlk
  have kq:=sG (n:=[u].length) (j:=0) hq (by simp) hlk
  rw[qI,qI,qI,qI]
  congr 1
  rcases h with rfl|h
  ·have e1:∀r:Ps,lu r=true→dZ 6 op [u].length 0 r=⟨14,true,r.o7,r.o8,false⟩:=by
    intro r hr
    unfold dZ
    rw[hr]
    rfl
   rw[e1 p hp] at kp⊢
   rw[e1 q hq] at kq⊢
   have ht:nI 6 0=false:=rfl
   rw[ht,Bool.false_or,Bool.false_or,Y8 (c:=false) (i:=q.o7) (j:=q.o8) (by omega)]
   cases hf:fits u.kind u.op ⟨14,true,q.o7,q.o8,false⟩ with
   |false=>rfl
   |true=>
    have azm:13≤lvl u.kind u.op:=by
     unfold fits at hf
     revert hf
     cases(!(lu ⟨14,true,q.o7,q.o8,false⟩)||lvl u.kind u.op==0)<;>cases(q.o7 && u.kind==13)<;>cases(q.o8 &&(u.kind==12 && u.op==62))<;>simp
     intro hf
     rcases hf with h9|h14
     ·rw[h9];exact(show(13:Int)≤13 by omega)
     ·omega
    rw[cond_true,cond_true]
    exact ih u (by simp) huo azm hue _ _ kp kq
  ·have ht:nI k 0=true:=by rcases h with rfl|rfl<;>rfl
   rw[ht,Bool.true_or,cond_true,Bool.true_or,cond_true]
   have hc6:cls k op [u].length 0=6:=by
    unfold cls
    rw[if_pos (by omega)]
   rw[hc6] at huc
   exact ih u (by simp) huo (afF huc).1 hue _ _ kp kq
theorem Vo{α:Type}(a b:Bool)(x y:α):(bif a||b then x else y)=bif a then x else bif b then x else y:=by cases a<;>rfl
theorem afG{α:Type}(a b:Bool)(x y:α):(bif a && b then x else y)=bif a then(bif b then x else y) else y:=by cases a<;>rfl
theorem Pq{α:Type}(a:Bool)(x y:α):some (bif a then x else y)=bif a then some x else some y:=by cases a<;>rfl
theorem Qg(op:Int):M.lJ op=some (vS op)∧M.qM op=some (vS op):=by
 simp only[M.lJ,M.Dt,M.qM,M.Ih,vS,Vo,Pq]
 constructor<;>first|trivial|rfl
theorem Qh(k op:Int)(x y:aF)(r:ak):M.lY k op x y r=some (lvl k op)∧M.dU k op x y r=some (lvl k op):=by
 simp only[M.lY,M.IJ,M.dU,M.Ii,lvl,Vo,Pq,(Qg op).1,(Qg op).2,ah]
 constructor<;>first|trivial|rfl
theorem Xo(p:Ps):M.yu p.level p.kW p.o7 p.o8 p.jX=some (lu p)∧M.yc p.level p.kW p.o7 p.o8 p.jX=some (lu p):=by
 simp only[M.yu,M.LZ,M.yc,M.LU,aX,aN,ah,lu,ge_iff_le]
 cases(decide (1≤p.level) && decide (p.level≤15))<;>cases p.kW<;>exact⟨rfl,rfl⟩
theorem AP:M.qo=some (1,false,false,false,false)∧M.gJ=some (1,false,false,false,false):=⟨rfl,rfl⟩
theorem auC(k op:Int)(p:Ps):fits k op p=bif !(lu p) then false else bif lvl k op==0 then false else bif p.o7 && k==13 then false else bif p.o8 &&(k==12 && op==62) then false else
  bif p.jX &&(k==11||(k==9||k==4)) then false else bif p.kW && k==9 then true else decide (p.level≤lvl k op):=by
 unfold fits
 rw[Vo]
 cases(p.kW && k==9)<;>rfl
theorem aap(k op:Int)(x y:aF)(r:ak)(p:Ps):M.BA k op x y r p.level p.kW p.o7 p.o8 p.jX=some (fits k op p)∧M.Bz k op x y r p.level p.kW p.o7 p.o8 p.jX=some (fits k op p):=by
 rw[auC]
 simp only[M.BA,M.N9,M.Bz,M.N7,(Qh k op x y r).1,(Qh k op x y r).2,(Xo p).1,(Xo p).2,ah,Vo,afG,Pq]
 constructor<;>first|trivial|rfl
theorem nb0(j:Nat):((j:Int)==0)=Nat.beq j 0:=by cases j<;>rfl
theorem nb1(j:Nat):((j:Int)==1)=Nat.beq j 1:=by
 rcases j with _|_|j
 ·rfl
 ·rfl
 ·rw[beq_eq_false_iff_ne.2 (by omega)];rfl
theorem gt0(j:Nat):decide ((j:Int)>0)= !(Nat.beq j 0):=by
 cases j with
 |zero=>rfl
 |succ j=>rw[decide_eq_true (by omega)];rfl
theorem alu(op:Int)(j:Nat):M.uo op (j:Int)=some (bif Nat.beq j 0 then(sides op).1 else(sides op).2):=by
 simp only[M.uo,M.FT,(Qg op).1,ah,nb0,sides]
 cases vS op==3<;>cases vS op==4<;>cases vS op==6<;>cases vS op==7<;>cases vS op==8<;>cases vS op==9<;>cases vS op==10<;>cases Nat.beq j 0<;>rfl
theorem amH(op:Int):M.tN op=some (sides op):=by
 simp only[M.tN,M.Io,(Qg op).2,ah,sides,Pq]
theorem alv(k op:Int)(x y:aF)(r:ak)(j:Nat):M.qQ k op x y r (j:Int)=some (Qd k op j):=by
 simp only[M.qQ,M.FU,alu,ah,Qd,gt0]
 cases k==15<;>cases k==14<;>cases k==13<;>cases k==11<;>cases k==12<;>cases Nat.beq j 0<;>rfl
def Ps.yE(p:Ps):Int×Bool×Bool×Bool×Bool:=(p.level,p.kW,p.o7,p.o8,p.jX)
theorem anH(j n:Nat)(h:n≤1048576):(decide ((j:Int)≥0) && decide ((j:Int)≤IntKind.i64.wrap ((n:Int) - 1)))=Nat.blt j n:=by
 rw[aP (by omega) (by omega)]
 cases hb:Nat.blt j n with
 |true=>
  rw[Nat.blt_eq] at hb
  rw[decide_eq_true (by omega),decide_eq_true (by omega)];rfl
 |false=>
  have:¬j<n:=by rw[←Nat.blt_eq,hb];simp
  rw[decide_eq_false (show¬(j:Int)≤(n:Int) - 1 by omega),Bool.and_false]
theorem many(n:Nat):decide ((n:Int)>1)=Nat.blt 1 n:=by
 cases hb:Nat.blt 1 n with
 |true=>rw[Nat.blt_eq] at hb;exact decide_eq_true (by omega)
 |false=>
  have:¬1<n:=by rw[←Nat.blt_eq,hb];simp
  exact decide_eq_false (by omega)
theorem Sl(k op:Int)(x y:aF)(r:ak)(j:Nat)(p:Ps)(hr:r.length≤1048576):M.uq k op x y r (j:Int) p.level p.kW p.o7 p.o8 p.jX=some (dZ k op r.length j p).yE:=by
 simp only[M.uq,M.KC,(Xo p).1,aN,(Qh k op x y r).1,alv,AP.1,ah,anH j r.length hr,many,nb0,nb1,dZ]
 cases lu p with
 |false=>rfl
 |true=>
  cases Nat.blt j r.length with
  |false=>rfl
  |true=>
   cases hz:(lvl k op==0) with
   |true=>rfl
   |false=>
    cases h15:(lvl k op==15) with
    |true=>rfl
    |false=>
     simp only[Bool.not_true,cond_false,Bool.false_or]
     have fin:∀z:Int,(bif k==11 then some (z,k==6,p.o7,p.o8,false) else bif k==9 then some (z,k==6,p.o7,p.o8,false) else bif k==10 then some (z,k==6,p.o7,p.o8,false) else bif k==6 then some (z,k==6,p.o7,p.o8,false) else
       bif Nat.beq j 0 then(bif p.jX then some (z,k==6,p.o7,p.o8,true) else bif Nat.beq j 1 then(bif k==12 then some (z,k==6,p.o7,p.o8,op==99) else some (z,k==6,p.o7,p.o8,false)) else some (z,k==6,p.o7,p.o8,false)) else
       bif Nat.beq j 1 then(bif k==12 then some (z,k==6,p.o7,p.o8,op==99) else some (z,k==6,p.o7,p.o8,false)) else some (z,k==6,p.o7,p.o8,false))=
       some (z,k==6,p.o7,p.o8,bif k==11||(k==9||(k==10||k==6)) then false else(Nat.beq j 0 && p.jX)||(Nat.beq j 1 &&(k==12 && op==99))):=by
      intro z
      cases h11:(k==11) with
      |true=>rfl
      |false=>cases h9:(k==9) with
       |true=>rfl
       |false=>cases h10:(k==10) with
        |true=>rfl
        |false=>cases h6:(k==6) with
         |true=>rfl
         |false=>
          simp only[cond_false,Bool.or_false]
          cases Nat.beq j 0<;>cases p.jX<;>cases Nat.beq j 1<;>cases(k==12)<;>simp
     cases h13:(k==13) with
     |true=>
      cases Nat.blt 1 r.length with
      |true=>rfl
      |false=>exact fin _
     |false=>exact fin _
theorem Y9(k op:Int)(x y:aF)(r:ak)(j:Nat):M.oz k op x y r (j:Int)=some (nI k j):=by
 simp only[M.oz,M.FV,nb0,nI]
 cases Nat.beq j 0<;>cases k==9<;>cases k==10<;>rfl
theorem kQ(k:Int)(hk:I64 k):M.iY k=some (k,spell k,0)∧M.dX k=some (k,spell k,0):=by
 simp only[M.iY,M.Oa,M.dX,M.Kq,(lT k hk).1,(lT k hk).2,ah]
 constructor<;>first|trivial|rfl
end Go.Proofs.YtbpldgeajbfgnaaGreatDoor
