import Derived.Test.YtoaeipkhadpbiaaGreatDoorPForms4
import Derived.Test.YtoaeipkhadpbiaaGreatDoorVm4
import Derived.Lib.IndexLaws
set_option linter.defProp false
namespace Go.Proofs.YtoaeipkhadpbiaaGreatDoor
set_option linter.unusedVariables false
set_option linter.unusedSimpArgs false
set_option linter.unusedSectionVars false
open Go Go.Vm
open Go.IntKind (i64)
def aRz:(∀a b:Int,(a>=b)=(b<=a))/\(∀a b:Int,(a>b)=(b<a))/\(∀h:Decidable True,@decide True h=true)/\(∀h:Decidable False,@decide False h=false)/\(∀(α:Type) (a b:α),cond true a b=a)/\(∀(α:Type) (a b:α),cond false a b=b)/\(∀b:Bool,(b && true)=b)/\(∀b:Bool,(b && false)=false)/\(∀b:Bool,(true && b)=b)/\(∀b:Bool,(false && b)=false)/\((!true)=false)/\((!false)=true):=
 ⟨λ_ _=>rfl,λ_ _=>rfl,λh=>@decide_eq_true True h trivial,λh=>@decide_eq_false False h id,λ_ _ _=>rfl,λ_ _ _=>rfl,λb=>by cases b<;>rfl,λb=>by cases b<;>rfl,λ_=>rfl,λ_=>rfl,rfl,rfl⟩
def bG{m n:Nat}(h:m<=n):m.ble n=true:=Nat.ble_eq_true_of_le h
def aj{α β:Type}(a:α)(f:α->Option β):(some a).bind f=f a:=rfl
def adk:((0:Nat):Int)=0:=rfl
def qI(s:aJ)(a:Int):Int:=if 0<=a then(match s[a.toNat]? with|some c=>(c.toNat:Int)|none=> -1) else -1
def isD(b:Int):Bool:=decide (b>=48) && decide (b<=57)
def Ez(s:aJ)(a:Int):Int:=if 0<=a then a+(((s.drop a.toNat).takeWhile λc=>isD (c.toNat:Int)).length:Nat) else a
def aoG(c:UInt8):c.toNat<256:=c.toNat_lt
def HY(s:aJ)(i:Nat):qI s (i:Int)=(match s[i]? with|some c=>(c.toNat:Int)|none=> -1):=by rw[qI,if_pos aB,ztn]
section
variable {s:aJ} (h:s.length<=1048576)
include h
theorem C9(a:Int):M.fO s a=some (qI s a):=by
 simp only[M.fO,M.QB]
 by_cases h0:a<0
 ·rw[zdt h0,aI,qI,if_neg aB]
 ·rw[zD h0,aX];obtain⟨i,rfl⟩:∃i:Nat,a=i:=⟨a.toNat,aB⟩
  rw[HY]
  by_cases h1:(i:Int)>=(s.length:Int)
  ·rw[zdt h1,aI,List.getElem?_eq_none aB]
  ·obtain⟨c,hc⟩:∃c,s[i]? =some c:=⟨s[i]'aB,by simp⟩
   have:=aoG c;rw[zD h1,aX,dI,hc,aj,bC aB aB]
theorem Dc(a:Int):M.iG s a=some (qI s a):=by
 simp only[M.iG,M.QK,M.jr,M.ER];rw[bC aB aB]
 by_cases h0:a<0
 ·rw[zD aB,aX,aj,Bool.not_false,aI,qI,if_neg aB]
 ·rw[zdt aB,aI,aj];obtain⟨i,rfl⟩:∃i:Nat,a=i:=⟨a.toNat,aB⟩
  rw[HY]
  by_cases h1:(i:Int)>=(s.length:Int)
  ·rw[zD aB,Bool.not_false,aI,List.getElem?_eq_none aB]
  ·obtain⟨c,hc⟩:∃c,s[i]? =some c:=⟨s[i]'aB,by simp⟩
   have:=aoG c;rw[zdt aB,zaN,aX,dI,hc,aj,bC aB aB]
end
def aiL(b:Int):M.rX b=some (isD b):=by simp only[M.rX,M.Oq,M.kG,M.DX,isD];cases decide (b>=48)<;>rfl
def aiM(b:Int):M.rY b=some (isD b):=by simp only[M.rY,M.OX,isD];cases decide (b>=48)<;>rfl
def aBP{s:aJ}{b:Int->Option (Int⊕Int)}(hb:∀a,0<=a->a<=2000000->b a=some (bif isD (qI s a) then .inl (a+1) else .inr a))(h:s.length<=1048576):
  ∀(rest pre:aJ),s=pre++rest->fQ b (pre.length:Int)=some ((pre.length:Int)+((rest.takeWhile λc=>isD (c.toNat:Int)).length:Nat))
 |[],pre,e=>by
  have hl:pre.length=s.length:=by rw[e];simp
  refine aN ?_;rw[hb _ aB aB,HY,List.getElem?_eq_none aB];simp[isD]
 |c::rest,pre,e=>by
  have hl:s.length=pre.length+(rest.length+1):=by rw[e];simp
  have hget:s[pre.length]? =some c:=by rw[e,List.getElem?_append_right (zaO _),Nat.sub_self];rfl
  have hs:=hb (pre.length:Int) aB aB;rw[HY,hget] at hs;simp only at hs;cases hd:isD (c.toNat:Int) with
  |true=>have:=aBP hb h rest (pre++[c]) (by rw[e];simp);rw[Au,zf] at this;rw[hd,aI] at hs;rw[aY hs,List.takeWhile_cons,if_pos hd,show(pre.length:Int)+1=((pre.length+1:Nat):Int) by omega,this];simp;omega
  |false=>rw[hd,aX] at hs;rw[aN hs,List.takeWhile_cons,hd];simp
def axP{s:aJ}{b:Int->Option (Int⊕Int)}(hb:∀a,0<=a->a<=2000000->b a=some (bif isD (qI s a) then .inl (a+1) else .inr a))(h:s.length<=1048576)(a:Int)(h0:0<=a)(h1:a<=2000000):fQ b a=some (Ez s a):=by
 obtain⟨i,rfl⟩:∃i:Nat,a=i:=⟨a.toNat,aB⟩
 rw[Ez,if_pos h0,ztn]
 by_cases hi:i<=s.length
 ·have:=aBP hb h (s.drop i) (s.take i) (List.take_append_drop i s).symm;rw[zlt,Nat.min_eq_left hi] at this;exact this
 ·rw[List.drop_eq_nil_of_le aB];refine aN ?_;rw[hb _ h0 h1,HY,List.getElem?_eq_none aB];simp[isD]
def JR{s:aJ}(h:s.length<=1048576){a:Int}(h0:0<=a):a<=Ez s a/\(Ez s a<=a\/Ez s a<=s.length):=by have h1:=(List.takeWhile_sublist (p:=λc:UInt8=>isD (c.toNat:Int)) (l:=s.drop a.toNat)).length_le;rw[List.length_drop] at h1;rw[Ez,if_pos h0];omega
section
variable {s:aJ} (h:s.length<=1048576)
include h
theorem Gg(a:Int)(h0:0<=a)(h1:a<=2000000):M.fH s a=some (Ez s a):=by simp only[M.fH,M.Mc,M.J7];rw[axP (λa h0 h1=>by simp only[M.Ue,M.GU,C9 h,aiL,aj];rw[bC aB aB];cases isD (qI s a)<;>rfl) h a h0 h1,aj]
theorem EC(a:Int)(h0:0<=a)(h1:a<=2000000):M.jd s a=some (Ez s a):=by simp only[M.jd,M.Ky,M.IX];rw[axP (λa h0 h1=>by simp only[M.Sm,M.EZ,Dc h,aiM,aj];rw[bC aB aB];cases isD (qI s a)<;>rfl) h a h0 h1,aj]
end
def Vz(s:aJ)(r:Int):Int:=bif(qI s r==101)||(qI s r==69) then
  (bif(qI s (r+1)==43)||(qI s (r+1)==45) then(bif decide (Ez s (r+1+1)>r+1+1) then Ez s (r+1+1) else r) else(bif decide (Ez s (r+1)>r+1) then Ez s (r+1) else r)) else r
def Uw(s:aJ)(a:Int):Int:=if a<0\/(s.length:Int)<=a then -1 else
 bif qI s (Ez s a)==46 then(bif(Ez s a==a) &&(Ez s (Ez s a+1)==Ez s a+1) then -1 else Vz s (Ez s (Ez s a+1))) else(bif Ez s a==a then -1 else Vz s (Ez s a))
section
variable {s:aJ} (h:s.length<=1048576)
include h
set_option maxHeartbeats 2000000 in
theorem ZQ(a:Int)(ha:a<=1048576):M.yD s a=some (Uw s a):=by
 simp only[M.yD,M.QL,M.F5,M.jr,M.ER,Uw];rw[bC aB aB]
 by_cases h0:a<0
 ·rw[zD aB,aX,aj,Bool.not_false,aI,if_pos (.inl h0)]
 ·rw[zdt aB,aI,aj]
  by_cases h1:(s.length:Int)<=a
  ·rw[zD aB,Bool.not_false,aI,if_pos (.inr h1)]
  ·rw[zdt aB,zaN,aX,if_neg aB,EC h a aB aB,aj];have e1:=JR h (a:=a) aB;generalize hE:Ez s a=e at e1|-;simp only[Dc h,aj];rw[bC (n:=e+1) aB aB,bC (n:=e - a) aB aB,EC h (e+1) aB aB,aj];have e2:=JR h (a:=e+1) aB;generalize hK:Ez s (e+1)=k at e2|-;have hz:(i64.wrap (e - a+i64.wrap (i64.wrap (k - e) - 1))==0)=((e==a) &&(k==e+1)):=by rw[bC (n:=k - e) aB aB,bC (n:=k - e - 1) aB aB,bC aB aB,Bool.eq_iff_iff];simp only[Ji,beq_iff_eq];omega
   have hz2:(e - a==0)=(e==a):=by rw[Bool.eq_iff_iff];simp only[beq_iff_eq];omega
   rw[hz,hz2];have ex:∀r:Int,0<=r->r<=1048578->(bif qI s r==101 then
      ((some (qI s (i64.wrap (r+1)))).bind λaLK=>
      (bif aLK==43 then
       ((M.jd s (i64.wrap (i64.wrap (r+1)+1))).bind λaLL=>
       (bif decide (aLL>i64.wrap (i64.wrap (r+1)+1)) then(some aLL) else(some r))) else
       (bif aLK==45 then
       ((M.jd s (i64.wrap (i64.wrap (r+1)+1))).bind λad3=>(bif decide (ad3>i64.wrap (i64.wrap (r+1)+1)) then(some ad3) else(some r))) else
       ((M.jd s (i64.wrap (r+1))).bind λanq=>(bif decide (anq>i64.wrap (r+1)) then(some anq) else(some r)))))) else
      (bif qI s r==69 then
      ((some (qI s (i64.wrap (r+1)))).bind λaeS=>
       (bif aeS==43 then
       ((M.jd s (i64.wrap (i64.wrap (r+1)+1))).bind λanp=>(bif decide (anp>i64.wrap (i64.wrap (r+1)+1)) then(some anp) else(some r))) else
       (bif aeS==45 then
        ((M.jd s (i64.wrap (i64.wrap (r+1)+1))).bind λano=>
        (bif decide (ano>i64.wrap (i64.wrap (r+1)+1)) then(some ano) else(some r))) else
        ((M.jd s (i64.wrap (r+1))).bind λLl=>(bif decide (Ll>i64.wrap (r+1)) then(some Ll) else(some r)))))) else(some r)))=some (Vz s r):=by
    intro r h0 h1;rw[bC (n:=r+1) aB aB,bC (n:=r+1+1) aB aB,EC h (r+1) aB aB,EC h (r+1+1) aB aB,Vz];simp only[aj];cases qI s r==101<;>cases qI s r==69<;>cases qI s (r+1)==43<;>cases qI s (r+1)==45<;>cases decide (Ez s (r+1+1)>r+1+1)<;>cases decide (Ez s (r+1)>r+1)<;>rfl
   simp only[aj] at ex;cases qI s e==46 with
   |true=>
    simp only[aI];cases(e==a) &&(k==e+1) with
    |true=>rfl
    |false=>simp only[aX];exact ex k aB aB
   |false=>
    simp only[aX];cases e==a with
    |true=>rfl
    |false=>simp only[aX];have h2:=ex e aB aB;rw[bC (n:=e+1) aB aB,EC h (e+1) aB aB,hK] at h2;simp only[aj] at h2;exact h2
theorem ZR(a:Int)(ha:a<=1048576):M.yB s a=some (Uw s a):=by
 simp only[M.yB,M.QC,M.yF,Uw]
 by_cases h0:a<0
 ·rw[zdt h0,aI,if_pos (.inl h0)]
 ·rw[zD h0,aX];have e1:=JR h (a:=a) aB;rw[Gg h a aB aB,aj];simp only[C9 h,aj]
  by_cases h1:(s.length:Int)<=a
  ·have he:Ez s a=a:=aB;obtain⟨i,rfl⟩:∃i:Nat,a=i:=⟨a.toNat,aB⟩
   have hb:qI s (i:Int)= -1:=by rw[HY,List.getElem?_eq_none aB]
   rw[he,hb,if_pos (.inr h1),show((-1:Int)==46)=false from rfl,aX,beq_self_eq_true,aI]
  ·rw[if_neg aB];generalize hE:Ez s a=e at e1|-;have e2:=JR h (a:=e+1) aB;rw[bC (n:=e+1) aB aB,Gg h (e+1) aB aB,aj];have ex:∀r:Int,0<=r->r<=1048578->(bif qI s r==101 then
      (bif qI s (i64.wrap (r+1))==43 then
       ((M.fH s (i64.wrap (i64.wrap (r+1)+1))).bind λaCx=>
        (bif decide (aCx>i64.wrap (i64.wrap (r+1)+1)) then
        ((M.fH s (i64.wrap (i64.wrap (r+1)+1))).bind λaCy=>(some aCy)) else(some r))) else
        (bif qI s (i64.wrap (r+1))==45 then
        ((M.fH s (i64.wrap (i64.wrap (r+1)+1))).bind λaCD=>
         (bif decide (aCD>i64.wrap (i64.wrap (r+1)+1)) then
         ((M.fH s (i64.wrap (i64.wrap (r+1)+1))).bind λaCE=>(some aCE)) else(some r))) else
        ((M.fH s (i64.wrap (r+1))).bind λaCz=>(bif decide (aCz>i64.wrap (r+1)) then((M.fH s (i64.wrap (r+1))).bind λazz=>(some azz)) else(some r))))) else
       (bif qI s r==69 then
        (bif qI s (i64.wrap (r+1))==43 then
        ((M.fH s (i64.wrap (i64.wrap (r+1)+1))).bind λaRA=>
         (bif decide (aRA>i64.wrap (i64.wrap (r+1)+1)) then
         ((M.fH s (i64.wrap (i64.wrap (r+1)+1))).bind λaCB=>(some aCB)) else(some r))) else
         (bif qI s (i64.wrap (r+1))==45 then
         ((M.fH s (i64.wrap (i64.wrap (r+1)+1))).bind λaRB=>
          (bif decide (aRB>i64.wrap (i64.wrap (r+1)+1)) then
          ((M.fH s (i64.wrap (i64.wrap (r+1)+1))).bind λaRC=>(some aRC)) else(some r))) else
         ((M.fH s (i64.wrap (r+1))).bind λaRD=>(bif decide (aRD>i64.wrap (r+1)) then((M.fH s (i64.wrap (r+1))).bind λaCF=>(some aCF)) else(some r))))) else(some r)))=some (Vz s r):=by
    intro r h0 h1;rw[bC (n:=r+1) aB aB,bC (n:=r+1+1) aB aB,Gg h (r+1) aB aB,Gg h (r+1+1) aB aB,Vz];simp only[aj];cases qI s r==101<;>cases qI s r==69<;>cases qI s (r+1)==43<;>cases qI s (r+1)==45<;>cases decide (Ez s (r+1+1)>r+1+1)<;>cases decide (Ez s (r+1)>r+1)<;>rfl
   generalize hK:Ez s (e+1)=k at e2|-;have hka:(k==a)=false:=by rw[XB];omega
   rw[hka];cases qI s e==46 with
   |true=>
    simp only[aI,aX];cases e==a with
    |true=>
     simp only[aI,Bool.true_and];cases k==e+1 with
     |true=>rfl
     |false=>simp only[aX];exact ex k aB aB
    |false=>simp only[aX,Bool.false_and];exact ex k aB aB
   |false=>
    simp only[aX];cases e==a with
    |true=>rfl
    |false=>simp only[aX];have h2:=ex e aB aB;rw[bC (n:=e+1) aB aB,Gg h (e+1) aB aB,hK] at h2;simp only[aj] at h2;exact h2
end
def ael(q:Int):aJ->Int->Int
 |[],_=> -1
 |c::l,i=>if(c.toNat:Int)=q then i+1 else if(c.toNat:Int)=10 then -1 else if(c.toNat:Int)=92 then(match l with
   |[]=> -1
   |d::l'=>if(d.toNat:Int)=10 then -1 else ael q l' (i+2)) else ael q l (i+1)
def afa(q:Int)(c:UInt8)(l:aJ)(i:Int):ael q (c::l) i=if(c.toNat:Int)=q then i+1 else if(c.toNat:Int)=10 then -1 else if(c.toNat:Int)=92 then(match l with
   |[]=> -1
   |d::l'=>if(d.toNat:Int)=10 then -1 else ael q l' (i+2)) else ael q l (i+1):=by
 cases l with
 |nil=>simp[ael]
 |cons d l=>simp[ael]
def hdI:aJ->Int
 |[]=> -1
 |d::_=>(d.toNat:Int)
def quoted(s:aJ)(a q:Int):Int:=if qI s a=q then ael q (s.drop (a+1).toNat) (a+1) else -1
def axQ{s:aJ}(h:s.length<=1048576)(q:Int)(hq:q≠10):∀(n:Nat) (rest pre:aJ),rest.length<=n->s=pre++rest->
  (∃r,M.xg s q (pre.length:Int)=some r/\(iO r some λu=>letE u λ_=>some (-1))=some (ael q rest (pre.length:Int)))/\
  (∃r,M.vI s q (pre.length:Int)=some r/\(iO r some λu=>letE u λ_=>some (-1))=some (ael q rest (pre.length:Int)))
 |n,[],pre,hn,e=>by
  have hl:pre.length=s.length:=by rw[e];simp
  constructor
  ·refine⟨.inr (pre.length:Int), ?_,rfl⟩;rw[M.xg];refine aN ?_;simp only[M.BL,M.wZ];rw[zD aB,aX]
  ·refine⟨.inr (pre.length:Int), ?_,rfl⟩;rw[M.vI];refine aN ?_;simp only[M.zI,M.wo];rw[zD aB,aX]
 |0,c::rest,pre,hn,e=>by simp at hn
 |n+1,c::rest,pre,hn,e=>by
  simp only[X8] at hn;have hl:s.length=pre.length+(rest.length+1):=by rw[e];simp
  have hget:s[pre.length]? =some c:=by rw[e,List.getElem?_append_right (zaO _),Nat.sub_self];rfl
  have hc:=aoG c;have hw:i64.wrap ((c.toNat:Nat):Int)=(c.toNat:Int):=bC aB aB;have hw1:i64.wrap ((pre.length:Int)+1)=((pre.length+1:Nat):Int):=by rw[bC aB aB];omega
  have hw2:i64.wrap (((pre.length+1:Nat):Int)+1)=((pre.length+2:Nat):Int):=by rw[bC aB aB];omega
  have hnext:qI s ((pre.length+1:Nat):Int)=hdI rest:=by rw[HY,e,List.getElem?_append_right aB,show pre.length+1 - pre.length=1 by omega];cases rest<;>rfl
  have hS:M.BL s q (pre.length:Int)=some (if(c.toNat:Int)=q then .inr (.inl ((pre.length+1:Nat):Int)) else if(c.toNat:Int)=10 then .inr (.inl (-1)) else if(c.toNat:Int)=92 then
    (if qI s ((pre.length+1:Nat):Int)=10 then .inr (.inl (-1)) else .inl ((pre.length+2:Nat):Int)) else .inl ((pre.length+1:Nat):Int)):=by
   simp only[M.BL,M.wZ,dI,hget,aj,hw,hw1,hw2,C9 h];rw[zdt aB,aI]
   by_cases c1:(c.toNat:Int)=q
   ·rw[if_pos c1,show((c.toNat:Int)==q)=true by simpa using c1,aI]
   ·rw[if_neg c1,show((c.toNat:Int)==q)=false by simpa using c1,aX]
    by_cases c2:(c.toNat:Int)=10
    ·rw[if_pos c2,show((c.toNat:Int)==10)=true by simpa using c2,aI]
    ·rw[if_neg c2,show((c.toNat:Int)==10)=false by simpa using c2,aX]
     by_cases c3:(c.toNat:Int)=92
     ·rw[if_pos c3,show((c.toNat:Int)==92)=true by simpa using c3,aI]
      by_cases c4:qI s ((pre.length+1:Nat):Int)=10
      ·rw[if_pos c4,c4];rfl
      ·rw[if_neg c4,show(qI s ((pre.length+1:Nat):Int)==10)=false by simpa using c4,aX]
     ·rw[if_neg c3,show((c.toNat:Int)==92)=false by simpa using c3,aX]
  have hI:M.zI s q (pre.length:Int)=some (if(c.toNat:Int)=10 then .inr (.inr (pre.length:Int)) else if(c.toNat:Int)=q then .inr (.inl ((pre.length+1:Nat):Int)) else if(c.toNat:Int)=92 then
    (if qI s ((pre.length+1:Nat):Int)=10 then .inl ((pre.length+1:Nat):Int) else .inl ((pre.length+2:Nat):Int)) else .inl ((pre.length+1:Nat):Int)):=by
   simp only[M.zI,M.wo,dI,hget,aj,hw,hw1,hw2,Dc h];rw[zdt aB,aI]
   by_cases c2:(c.toNat:Int)=10
   ·rw[if_pos c2,show((c.toNat:Int) !=10)=false by simpa using c2,aX]
   ·rw[if_neg c2,show((c.toNat:Int) !=10)=true by simpa using c2,aI]
    by_cases c1:(c.toNat:Int)=q
    ·rw[if_pos c1,show((c.toNat:Int)==q)=true by simpa using c1,aI]
    ·rw[if_neg c1,show((c.toNat:Int)==q)=false by simpa using c1,aX]
     by_cases c3:(c.toNat:Int)=92
     ·rw[if_pos c3,show((c.toNat:Int)==92)=true by simpa using c3,aI]
      by_cases c4:qI s ((pre.length+1:Nat):Int)=10
      ·rw[if_pos c4,c4];rfl
      ·rw[if_neg c4,show(qI s ((pre.length+1:Nat):Int) !=10)=true by simpa using c4,aI]
     ·rw[if_neg c3,show((c.toNat:Int)==92)=false by simpa using c3,aX]
  have e1:s=(pre++[c])++rest:=by rw[e];simp
  have ih1:=axQ h q hq n rest (pre++[c]) aB e1;rw[Au,zf] at ih1;rw[M.xg,M.vI] at ih1|-;rw[afa]
  by_cases c1:(c.toNat:Int)=q
  ·have c2:¬(c.toNat:Int)=10:=aB;rw[if_pos c1];rw[if_pos c1] at hS;rw[if_neg c2,if_pos c1] at hI;refine⟨⟨_,aN hS, ?_⟩,⟨_,aN hI, ?_⟩⟩<;>simp[iO]
  ·rw[if_neg c1];rw[if_neg c1] at hS
   by_cases c2:(c.toNat:Int)=10
   ·rw[if_pos c2];rw[if_pos c2] at hS hI;exact⟨⟨_,aN hS,rfl⟩,⟨_,aN hI,rfl⟩⟩
   ·rw[if_neg c2];rw[if_neg c2] at hS hI;rw[if_neg c1] at hI
    by_cases c3:(c.toNat:Int)=92
    ·rw[if_pos c3];rw[if_pos c3] at hS hI;cases rest with
     |nil=>
      rw[hnext,hdI] at hS hI;simp only[show¬((-1:Int)=10) by omega,if_false] at hS hI;have hend:∀(b:Int->Option (Int⊕(Int⊕Int))),True:=λ_=>trivial
      simp only[zln] at hl;refine⟨⟨.inr ((pre.length+2:Nat):Int), ?_,rfl⟩,⟨.inr ((pre.length+2:Nat):Int), ?_,rfl⟩⟩
      ·rw[aY hS];refine aN ?_;simp only[M.BL,M.wZ];rw[zD aB,aX]
      ·rw[aY hI];refine aN ?_;simp only[M.zI,M.wo];rw[zD aB,aX]
     |cons d rest'=>
      simp only[hdI] at hnext|-;rw[hnext] at hS hI
      by_cases c4:(d.toNat:Int)=10
      ·rw[if_pos c4];rw[if_pos c4] at hS hI;refine⟨⟨_,aN hS,rfl⟩, ?_⟩;obtain⟨r,h1,h2⟩:=ih1.2;refine⟨r,by rw[aY hI];exact h1, ?_⟩;rw[h2,afa,if_neg aB,if_pos c4]
      ·rw[if_neg c4];rw[if_neg c4] at hS hI;have e2:s=(pre++[c,d])++rest':=by rw[e];simp
       simp only[X8] at hn;have ih2:=axQ h q hq n rest' (pre++[c,d]) aB e2;rw[Au,show[c,d].length=2 from rfl,M.xg,M.vI] at ih2;rw[aY hS,aY hI,show(pre.length:Int)+2=((pre.length+2:Nat):Int) by omega];exact ih2
    ·rw[if_neg c3];rw[if_neg c3] at hS hI;rw[aY hS,aY hI,show(pre.length:Int)+1=((pre.length+1:Nat):Int) by omega];exact ih1
section
variable {s:aJ} (h:s.length<=1048576)
include h
theorem ak6(a q:Int)(h0:0<=a)(h1:a<=1048576)(hq:0<=q)(hq2:q≠10):M.uF s a q=some (quoted s a q)/\M.rP s a q=some (quoted s a q):=by
 simp only[M.uF,M.Md,M.rP,M.Kz,C9 h,Dc h,aj,quoted]
 by_cases hb:qI s a=q
 ·rw[if_pos hb,show(qI s a !=q)=false by simpa using hb,aX,aX,bC aB aB];obtain⟨i,rfl⟩:∃i:Nat,a=i:=⟨a.toNat,aB⟩
  have hi:i<s.length:=by
   rcases Nat.lt_or_ge i s.length with hlt|hge
   ·exact hlt
   ·rw[HY,List.getElem?_eq_none hge] at hb;simp only at hb;omega
  obtain⟨⟨r,k1,k2⟩,⟨r',k3,k4⟩⟩:=axQ h q hq2 _ (s.drop (i+1)) (s.take (i+1)) (zaO _) (List.take_append_drop _ s).symm;rw[zlt,Nat.min_eq_left aB] at k1 k2 k3 k4;rw[show(i:Int)+1=((i+1:Nat):Int) by omega,ztn,k1,k3,aj,aj];exact⟨k2,k4⟩
 ·rw[if_neg hb,show(qI s a !=q)=true by simpa using hb,aI,aI];exact⟨rfl,rfl⟩
theorem afb(a:Int)(h0:0<=a)(h1:a<=1048576):M.Aw s a=some (quoted s a 34)/\M.Ba s a=some (quoted s a 34):=by have:=ak6 h a 34 h0 h1 aB aB;simp only[M.Aw,M.QD,M.Ba,M.QM,this.1,this.2,aj];constructor<;>first|rfl|trivial
def VA(s:aJ)(a:Int):Int:=bif quoted s a 47==a+2 then -1 else quoted s a 47
theorem afc(a:Int)(h0:0<=a)(h1:a<=1048576):M.Az s a=some (VA s a)/\M.Bc s a=some (VA s a):=by have:=ak6 h a 47 h0 h1 aB aB;simp only[M.Az,M.QE,M.Bc,M.QN,this.1,this.2,aj,VA];rw[bC aB aB];cases quoted s a 47==a+2<;>simp
end
end Go.Proofs.YtoaeipkhadpbiaaGreatDoor
namespace Go.Proofs.YtoaeipkhadpbiaaGreatDoor
set_option linter.unusedVariables false
set_option linter.unusedSimpArgs false
set_option linter.unusedSectionVars false
open Go Go.Vm
open Go.IntKind (i64)
@[simp] theorem Ry(l:List (aJ)):(encS l).length=l.length:=by simp[encS]
@[simp] theorem ZT(l:List (aJ))(i:Nat):(encS l)[i]? =(l[i]?).map λs=>[D.str s]:=by simp[encS]
def cS0(s:aJ):cStr [D.str s] 0=some s:=rfl
def strsOf:Row->List (aJ)
 |[]=>[]
 | .str s::r=>s::strsOf r
 |_::r=>strsOf r
def X4:List (aJ):=strsOf Gn
def X5:List (aJ):=strsOf Uc
def aoH:List (aJ):=strsOf NW
def Vb(s:aJ):List (aJ)->Int->Int
 |[],_=> -1
 |x::l,i=>if x==s then i else Vb s l (i+1)
def ZU(s:aJ):∀(l:List (aJ)) (i:Int),0<=i-> -1<=Vb s l i/\Vb s l i<i+l.length
 |[],i,h=>by simp[Vb];omega
 |x::l,i,h=>by
  rw[Vb];split
  ·simp;omega
  ·have:=ZU s l (i+1) aB;simp only[X8];omega
def ak7(s:aJ)(l:List (aJ))(hl:l.length<=1048576){b:Int->Option (Int⊕(Int⊕Int))}
  (hb:∀(i:Nat) x,l[i]? =some x->b (i:Int)=some (if x==s then .inr (.inl (i:Int)) else .inl ((i:Int)+1))) (he:b (l.length:Int)=some (.inr (.inr (l.length:Int)))):
  ∃r,fQ b 0=some r/\(iO r some λu=>letE u λ_=>some (-1))=some (Vb s l 0):=by
 have key:∀(t:List (aJ)) (i:Nat),l.drop i=t->i<=l.length->∃r,fQ b (i:Int)=some r/\(iO r some λu=>letE u λ_=>some (-1))=some (Vb s t (i:Int)):=by
  intro t;induction t with
  |nil=>
   intro i hd hi;have:i=l.length:=by have:=congrArg List.length hd;simp at this;omega
   subst this;exact⟨_,aN he,rfl⟩
  |cons x t ih=>
   intro i hd hi;have hx:l[i]? =some x:=by
    have:(l.drop i)[0]? =some x:=by rw[hd];rfl
    simpa using this
   have hlt:i<l.length:=(VG.1 hx).1;have hd':l.drop (i+1)=t:=by rw[<-List.drop_drop,hd];rfl
   have hs:=hb i x hx;rw[Vb];cases hxs:x==s with
   |true=>rw[hxs] at hs;exact⟨_,aN hs,rfl⟩
   |false=>
    rw[hxs] at hs;obtain⟨r,h1,h2⟩:=ih (i+1) hd' hlt;refine⟨r, ?_, ?_⟩
    ·rw[aY hs,show(i:Int)+1=((i+1:Nat):Int) by omega];exact h1
    ·rw[h2];simp
 exact key l 0 rfl (Nat.zero_le _)
def ak8(s:aJ)(l:List (aJ))(hl:l.length<=1048576):M.AA (encS l) s=some (Vb s l 0):=by
 obtain⟨r,h1,h2⟩:=ak7 s l hl (b:=M.J9 (encS l) s)
  (λi x hx=>by have hi:=(VG.1 hx).1;simp only[M.J9,M.FC,Ry,dI,ZT,hx,KZ,aj,cS0];rw[zdt aB,aI,bC aB aB];cases x==s<;>rfl)
  (by simp only[M.J9,M.FC,Ry];rw[zD aB,aX])
 simp only[M.AA,M.QF,M.Ot];rw[h1,aj];exact h2
def aoI(s:aJ)(l:List (aJ))(hl:l.length<=1048576):M.slices_Index (encS l) s=some (Vb s l 0):=by
 obtain⟨r,h1,h2⟩:=ak7 s l hl (b:=M.I4 (encS l) s (l.length:Int))
  (λi x hx=>by have hi:=(VG.1 hx).1;simp only[M.I4,M.D9,dI,ZT,hx,KZ,aj,cS0];rw[zdt aB,aI,bC aB aB,show(s==x)=(x==s) by rw[Bool.eq_iff_iff,beq_iff_eq,beq_iff_eq];exact⟨Eq.symm,Eq.symm⟩];cases x==s<;>rfl)
  (by simp only[M.I4,M.D9];rw[zD aB,aX])
 simp only[M.slices_Index,M.OY,M.MR,Ry];rw[h1,aj];exact h2
def agC(s:aJ):Int:=if Vb s X4 0<0 then 0 else 10+Vb s X4 0
def ZV(s:aJ):Bool:=decide (Vb s aoH 0>=0)
def aoJ:M.zX=some (encS X4):=rfl
def aoK:M.zn=some (encS aoH):=rfl
def aoL:M.zY=some (encS X5):=rfl
def aDx:List.map (λx=>[x]) Gn=encS X4:=rfl
def aAm:List.map (λx=>[x]) NW=encS aoH:=rfl
def Xu(s:aJ):M.o8 s=some (agC s)/\M.pq s=some (agC s):=by
 have hr:=ZU s X4 0 aB;have hl:X4.length=17:=rfl;simp only[M.o8,M.Ko,M.pq,M.KC,aoJ,aDx,aj,ak8 s X4 (by rw[hl];omega),aoI s X4 (by rw[hl];omega),agC]
 by_cases h:Vb s X4 0<0
 ·rw[zdt h,aI,if_pos h];exact⟨rfl,rfl⟩
 ·rw[zD h,aX,if_neg h,bC aB aB];exact⟨rfl,rfl⟩
def Tq(s:aJ):M.nP s=some (ZV s)/\M.nS s=some (ZV s):=by have hl:aoH.length=21:=rfl;simp only[M.nP,M.Kq,M.nS,M.KD,M.slices_Contains,M.I5,aoK,aAm,aj,ak8 s aoH (by rw[hl];omega),aoI s aoH (by rw[hl];omega),ZV];constructor<;>first|rfl|trivial
def isL(b:Int):Bool:=(decide (b>=97) && decide (b<=122))||((decide (b>=65) && decide (b<=90))||(b==95))
def isW(b:Int):Bool:=isL b||isD b
def Oa(b:Int):M.lF b=some (isL b)/\M.lG b=some (isL b):=by simp only[M.lF,M.Me,M.kG,M.DX,M.lG,M.MQ,isL];cases decide (b>=97)<;>cases decide (b<=122)<;>cases decide (b>=65)<;>cases decide (b<=90)<;>cases(b==95)<;>exact⟨rfl,rfl⟩
def IC(b:Int):M.nO b=some (isW b)/\M.nR b=some (isW b):=by simp only[M.nO,M.IK,M.nR,M.IY,Oa,aiL,aiM,aj,isW];cases isL b<;>cases isD b<;>exact⟨rfl,rfl⟩
def axR(s:aJ):Bool:=s.all λc=>isW (c.toNat:Int)
def aRE:aJ->Bool
 |[]=>false
 |c::_=>isL (c.toNat:Int)
def IE(s:aJ):Bool:=axR s &&((decide ((s.length:Int)>=1) && decide ((s.length:Int)<=12)) && aRE s)
def aiN(s:aJ){b:Int->Option (Int⊕(Unit⊕Int))}
  (hb:∀(i:Nat) c,s[i]? =some c->b (i:Int)=some (bif isW (c.toNat:Int) then .inl ((i:Int)+1) else .inr (.inl ()))) (he:b (s.length:Int)=some (.inr (.inr (s.length:Int)))):
  fQ b 0=some (bif axR s then .inr (s.length:Int) else .inl ()):=by
 have key:∀(t:aJ) (i:Nat),s.drop i=t->i<=s.length->fQ b (i:Int)=some (bif axR t then .inr (s.length:Int) else .inl ()):=by
  intro t;induction t with
  |nil=>
   intro i hd hi;have:i=s.length:=by have:=congrArg List.length hd;simp at this;omega
   subst this;exact aN he
  |cons x t ih=>
   intro i hd hi;have hx:s[i]? =some x:=by
    have:(s.drop i)[0]? =some x:=by rw[hd];rfl
    simpa using this
   have hlt:i<s.length:=(VG.1 hx).1;have hd':s.drop (i+1)=t:=by rw[<-List.drop_drop,hd];rfl
   have hs:=hb i x hx;rw[axR,List.all_cons];cases hw:isW (x.toNat:Int) with
   |true=>rw[hw,aI] at hs;rw[aY hs,show(i:Int)+1=((i+1:Nat):Int) by omega,ih (i+1) hd' hlt,Bool.true_and];rfl
   |false=>rw[hw,aX] at hs;rw[aN hs];rfl
 exact key s 0 rfl (Nat.zero_le _)
def Xv(s:aJ)(h:s.length<=1048576):M.o7 s=some (IE s)/\M.o9 s=some (IE s):=by
 have hw:∀c:UInt8,i64.wrap ((c.toNat:Nat):Int)=(c.toNat:Int):=λc=>by have:=aoG c;exact bC aB aB
 have h1:=aiN s (b:=M.EY s)
  (λi c hc=>by have hi:=(VG.1 hc).1;simp only[M.EY,M.zG,dI,hc,aj,hw,IC];rw[zdt aB,aI,bC aB aB];cases isW (c.toNat:Int)<;>rfl)
  (by simp only[M.EY,M.zG];rw[zD aB,aX])
 have h2:=aiN s (b:=M.E5 s (s.length:Int))
  (λi c hc=>by have hi:=(VG.1 hc).1;simp only[M.E5,M.zJ,dI,hc,aj,hw,IC];rw[zdt aB,aI,bC aB aB];cases isW (c.toNat:Int)<;>rfl)
  (by simp only[M.E5,M.zJ];rw[zD aB,aX])
 simp only[M.o7,M.J8,M.o9,M.KA,M.IL,M.IZ,M.kG,M.DX,M.jr,M.ER];rw[h1,h2,aj,aj,IE];cases axR s with
 |false=>exact⟨rfl,rfl⟩
 |true=>
  simp only[aI,iO,letE,Bool.true_and];cases s with
  |nil=>exact⟨rfl,rfl⟩
  |cons c l=>have hi:idx (c::l) 0=some c:=rfl;simp only[hi,aj,hw,Oa];cases decide (((c::l).length:Int)>=1)<;>cases decide (((c::l).length:Int)<=12)<;>exact⟨rfl,rfl⟩
def afd(s:aJ):Bool:=IE s &&((agC s==0) && !(ZV s))
def aul(s:aJ)(h:s.length<=1048576):M.DJ s=some (afd s)/\M.DT s=some (afd s):=by have h1:=Xv s h;simp only[M.DJ,M.QG,M.DT,M.QO,h1.1,h1.2,Xu,Tq,aj,afd];cases IE s<;>cases agC s==0<;>cases ZV s<;>exact⟨rfl,rfl⟩
end Go.Proofs.YtoaeipkhadpbiaaGreatDoor
namespace Go.Proofs.YtoaeipkhadpbiaaGreatDoor
set_option linter.unusedVariables false
set_option linter.unusedSimpArgs false
set_option linter.unusedSectionVars false
open Go Go.Vm
open Go.IntKind (i64)
def aBQ(c:UInt8)(n:Nat)(h:n<256):(((c.toNat:Nat):Int)==(n:Int))=(c==UInt8.ofNat n):=by
 rw[Bool.eq_iff_iff,beq_iff_eq,beq_iff_eq];constructor
 ·intro e;apply UInt8.toNat_inj.1;rw[UInt8.toNat_ofNat',Nat.mod_eq_of_lt h];omega
 ·rintro rfl;rw[UInt8.toNat_ofNat',Nat.mod_eq_of_lt h]
def hasB(c:UInt8)(s:aJ):Bool:=s.any (· ==c)
def aum(s:aJ)(c:UInt8):decide (0<=Lib.indexByte s c)=hasB c s:=by
 have hge:=Lib.indexByte_ge s c;rw[Bool.eq_iff_iff,decide_eq_true_eq,hasB,List.any_eq_true];constructor
 ·intro h;obtain⟨i,hi⟩:∃i:Nat,Lib.indexByte s c=i:=⟨(Lib.indexByte s c).toNat,aB⟩
  exact⟨c,zmg (Lib.indexByte_some hi).1,by simp⟩
 ·rintro⟨x,hx,hc⟩;have:=beq_iff_eq.1 hc;subst this;rcases Int.lt_or_le (Lib.indexByte s x) 0 with h|h
  ·obtain⟨i,hi⟩:=List.mem_iff_getElem?.1 hx;exact absurd hi (Lib.indexByte_none aB i)
  ·exact h
def axS(s:aJ)(h:s.length<=1000000000):M.DI s=some (!(hasB 10 s)):=by
 have key:∀(t:aJ) (i:Nat),s.drop i=t->i<=s.length->fQ (M.DW s) (i:Int)=some (bif hasB 10 t then .inl () else .inr (s.length:Int)):=by
  intro t;induction t with
  |nil=>
   intro i hd hi;have:i=s.length:=by have:=congrArg List.length hd;simp at this;omega
   subst this;refine aN ?_;simp only[M.DW,M.DV];rw[zD aB,aX];rfl
  |cons x t ih=>
   intro i hd hi;have hx:s[i]? =some x:=by
    have:(s.drop i)[0]? =some x:=by rw[hd];rfl
    simpa using this
   have hlt:i<s.length:=(VG.1 hx).1;have hd':s.drop (i+1)=t:=by rw[<-List.drop_drop,hd];rfl
   have hs:M.DW s (i:Int)=some (bif x==10 then .inr (.inl ()) else .inl ((i:Int)+1)):=by simp only[M.DW,M.DV,dI,hx,aj];rw[zdt aB,aI,show(10:Int)=((10:Nat):Int) from rfl,aBQ _ _ aB,bC aB aB,show(x==UInt8.ofNat 10)=(x==10) from rfl];cases x==10<;>rfl
   rw[hasB,List.any_cons];cases hc:x==10 with
   |true=>rw[hc,aI] at hs;rw[aN hs];rfl
   |false=>rw[hc,aX] at hs;rw[aY hs,show(i:Int)+1=((i+1:Nat):Int) by omega,ih (i+1) hd' hlt,Bool.false_or];rfl
 have:=key s 0 rfl (Nat.zero_le _);rw[adk] at this;simp only[M.DI,M.Oo,M.L9];rw[this,aj];cases hasB 10 s<;>rfl
def aAn:∀i,i<17->cStr Gn i=X4[i]? :=by decide+kernel
def ar9:∀i,i<39->cStr Uc i=X5[i]? :=by decide+kernel
def spell(k:Int):aJ:=if k=1 then[10] else if 10<=k/\k<=26 then X4[(k - 10).toNat]?.getD [] else if 30<=k/\k<=68 then X5[(k - 30).toNat]?.getD [] else[]
def aiO(k:Int)(hk:I64 k):M.qw k=some (spell k)/\M.DU k=some (spell k):=by
 have l1:X4.length=17:=rfl;have l2:X5.length=39:=rfl;simp only[M.qw,M.Ov,M.DU,M.OZ,M.sJ,M.Ea,M.zo,M.I7,M.jr,M.ER,M.kG,M.DX,aoJ,aoL,aj,spell]
 by_cases h1:k=1
 ·subst h1;exact⟨rfl,rfl⟩
 ·rw[show(k==1)=false by simpa using h1,aX,aX,if_neg h1]
  by_cases h2:10<=k/\k<=26
  ·obtain⟨i,hi⟩:∃i:Nat,k=10+i:=⟨(k - 10).toNat,aB⟩
   have hw:i64.wrap (k - 10)=(i:Int):=by rw[bC aB aB];omega
   obtain⟨x,hx⟩:∃x,X4[i]? =some x:=⟨X4[i]'aB,by simp⟩
   rw[if_pos h2,zdt (show k>=10 by omega),aI,zdt (show k<=26 by omega),hw,zdt (show(0:Int)<=(i:Int) by omega),zdt (show(i:Int)<17 by omega)];simp only[aj,aI,dI,ztn,ZT,hx,KZ,cS0,Bool.and_self,Nat.zero_add,Nat.mul_one,aAn i aB];rw[show(k - 10).toNat=i by omega,hx];exact⟨rfl,rfl⟩
  ·have hf:(bif decide (k>=10) then some (decide (k<=26)) else some false)=some false:=by
    by_cases h3:k>=10
    ·rw[zdt h3,aI,zD aB]
    ·rw[zD h3,aX]
   rw[if_neg h2,hf];simp only[aj,aX]
   by_cases h4:30<=k/\k<=68
   ·obtain⟨i,hi⟩:∃i:Nat,k=30+i:=⟨(k - 30).toNat,aB⟩
    have hw:i64.wrap (k - 30)=(i:Int):=by rw[bC aB aB];omega
    obtain⟨x,hx⟩:∃x,X5[i]? =some x:=⟨X5[i]'aB,by simp⟩
    rw[if_pos h4,zdt (show k>=30 by omega),aI,zdt (show k<=68 by omega),hw,zdt (show(0:Int)<=(i:Int) by omega),zdt (show(i:Int)<39 by omega)];simp only[aj,aI,dI,ztn,ZT,hx,KZ,cS0,Bool.and_self,Nat.zero_add,Nat.mul_one,ar9 i aB];rw[show(k - 30).toNat=i by omega,hx];exact⟨rfl,rfl⟩
   ·have hf:(bif decide (k>=30) then some (decide (k<=68)) else some false)=some false:=by
     by_cases h3:k>=30
     ·rw[zdt h3,aI,zD aB]
     ·rw[zD h3,aX]
    rw[if_neg h4,hf];exact⟨rfl,rfl⟩
def PL(k:Int)(s:aJ):Bool:=bif s==[] then false else
 bif k==2 then(qI s 0==35) && !(hasB 10 s) else bif k==3 then Uw s 0==(s.length:Int) else bif k==4 then quoted s 0 34==(s.length:Int) else bif k==5 then VA s 0==(s.length:Int) else
 bif k==6 then afd s else bif k==7 then afd s else bif k==8 then ZV s else s==spell k
def aiP(k:Int)(s:aJ)(a:Int)(h:s.length<=1048576)(hk:I64 k):M.zZ k s a=some (PL k s)/\M.Ad k s a=some (PL k s):=by
 have hn:=aul s h;have hb:=Tq s;have hst:=afb h 0 aB aB;have her:=afc h 0 aB aB;have hsp:=aiO k hk;have hct:M.strings_Contains s [10]=some (hasB 10 s):=by rw[M.strings_Contains,aum]
 simp only[M.zZ,M.Ox,M.Ad,M.O1,hn.1,hn.2,hb.1,hb.2,hst.1,hst.2,her.1,her.2,hsp.1,hsp.2,hct,axS s aB,ZR h 0 aB,ZQ h 0 aB,aj,PL];cases s with
 |nil=>refine⟨?_,rfl⟩;have q1:afd []=false:=rfl;have q2:ZV []=false:=rfl;have q3:(quoted [] 0 34==(([]:aJ).length:Int))=false:=rfl;have q4:(VA [] 0==(([]:aJ).length:Int))=false:=rfl;rw[q1,q2,q3,q4];cases k==2<;>cases k==3<;>cases k==4<;>cases k==5<;>cases k==6<;>cases k==7<;>cases k==8<;>rfl
 |cons c l=>
  have hi:idx (c::l) 0=some c:=rfl;have hb0:qI (c::l) 0=(c.toNat:Int):=rfl;have hne:((c::l:aJ)==[])=false:=rfl;have hgt:decide (((c::l).length:Int)>0)=true:=by simp
  have hsw:(spell k==c::l)=(c::l==spell k):=by rw[Bool.eq_iff_iff,beq_iff_eq,beq_iff_eq];exact⟨Eq.symm,Eq.symm⟩
  rw[hi,hb0,hne,hgt,hsw];simp only[aj,aI,aX,Bool.not_false];cases k==2<;>cases k==3<;>cases k==4<;>cases k==5<;>cases k==6<;>cases k==7<;>cases k==8<;>cases(c.toNat:Int)==35<;>exact⟨rfl,rfl⟩
end Go.Proofs.YtoaeipkhadpbiaaGreatDoor
namespace Go.Proofs.YtoaeipkhadpbiaaGreatDoor
set_option linter.unusedVariables false
set_option linter.unusedSimpArgs false
set_option linter.unusedSectionVars false
open Go Go.Vm
open Go.IntKind (i64)
def asa(x a b:Int):M.kG x a b=some (decide (x>=a) && decide (x<=b)):=by simp only[M.kG,M.DX];cases decide (x>=a)<;>rfl
def ak9(x a b:Int):M.jr x a b=some (decide (x>=a) && decide (x<=b)):=asa x a b
def aiQ(op:Int):Bool:=op==54||(decide (op>=38) && decide (op<=43))
def aga(op:Int):M.wB op=some (aiQ op)/\M.Bf op=some (aiQ op):=by simp only[M.wB,M.IQ,M.Bf,M.MV,asa,ak9,aj,aiQ];cases op==54<;>exact⟨rfl,rfl⟩
end Go.Proofs.YtoaeipkhadpbiaaGreatDoor
namespace Go.Proofs.YtoaeipkhadpbiaaGreatDoor
set_option linter.unusedVariables false
set_option linter.unusedSimpArgs false
set_option linter.unusedSectionVars false
open Go Go.Vm
open Go.IntKind (i64)
structure Cons(k op:Int)(n:Nat):Prop where
 two:k=29\/k=30->n=2
 four:k=31->n=4
 rule:k=42->(op=1/\n=1)\/(op=2/\n=1)\/(op=3/\n=2)
 range:k=43->(op=1/\n=2)\/(op=3/\n=3)
def aqG(k:Int):Bool:=k==1||(k==5||k==6)
end Go.Proofs.YtoaeipkhadpbiaaGreatDoor
namespace Go.Proofs.YtoaeipkhadpbiaaGreatDoor
set_option linter.unusedVariables false
set_option linter.unusedSimpArgs false
open Go Go.Vm
open Go.IntKind (i64)
def ach{α:Type}(a:List α)(b:List α)(x y:α):(a++x::b).set a.length y=a++y::b:=by
 induction a with
 |nil=>rfl
 |cons z a ih=>simp[ih]
def aoM(k:List Int)(hk:k.length<=maxLen):M.Gt (encI k) (encI k)=some true:=by
 unfold maxLen at hk;simp only[M.Gt,M.QU,bne_self_eq_false,aX];have hloop:=qX (b:=M.KI (encI k) (encI k)) (t:=.inr ((k.length:Int))) (λi=>(i:Int)) k.length
  (by
   intro i hi;obtain⟨x,hx⟩:∃x,k[i]? =some x:=⟨k[i],by simp[hi]⟩
   simp only[M.KI,M.Gf,mZ,dI,LQ,hx,KZ,aj,cI0,bne_self_eq_false,aX];rw[zdt aB,aI,bC aB aB];simp)
  (by simp only[M.KI,M.Gf,mZ];rw[zD aB,aX]) 0 (Nat.zero_le _)
 have h0':((0:Nat):Int)=0:=rfl;rw[h0'] at hloop;rw[M.Pm,hloop,aj];rfl
def aoN(n:Nd)(hk:n.kids.length<=maxLen):M.Gu n.kind n.op n.text n.other (encI n.kids) n.kind n.op n.text n.other (encI n.kids)=some true:=by simp only[M.Gu,M.QV,bne_self_eq_false,aX,beq_self_eq_true,zaN];rw[aoM _ hk];rfl
def al9(l:List Nd)(o o':Bool)(hl:l.length<=maxLen)(hk:∀n,n∈l->n.kids.length<=maxLen):M.Ae (aW o l) (aW o' l)=some true:=by
 unfold maxLen at hl;simp only[M.Ae,M.Pn,fV,bne_self_eq_false,aX];have hloop:=qX (b:=M.Jd (aW o l) (aW o' l)) (t:=.inr ((l.length:Int))) (λi=>(i:Int)) l.length
  (by
   intro i hi;obtain⟨x,hx⟩:∃x,l[i]? =some x:=⟨l[i],by simp[hi]⟩
   simp only[LJ,M.Jd,M.Em,fV,dI,Bv,hx,KZ,aj,cN0,cN1,cN2,cN3,cN4,aoN x (hk x (zmg hx)),zaN,aX];rw[zdt aB,aI,bC aB aB];simp)
  (by simp only[LJ,M.Jd,M.Em,fV];rw[zD aB,aX]) 0 (Nat.zero_le _)
 have h0':((0:Nat):Int)=0:=rfl;rw[h0'] at hloop;rw[M.MX,hloop,aj];rfl
def ama(x lo hi:Int):M.kG x lo hi=some (decide (lo<=x) && decide (x<=hi)):=by
 simp only[M.kG,M.DX]
 by_cases h:lo<=x
 ·rw[zdt (show x>=lo from h)];rfl
 ·rw[zD (show¬x>=lo from h)];rfl
def aem(l:List Nd)(o:Bool){i:Nat}{n:Nd}{st:List Int}(hi:l[i]? =some n)(hl:l.length<=1048576)(hkl:n.kids.length<=1048576)(hst:adX st)(hs:st.length=i):
  ∀(j:Nat) (a:Int),j<=n.kids.length->0<=a->a<=i->M.xG (aW o l) (i:Int) (encI st) (a,(j:Int) - 1)=some (match mF st (n.kids.take j).reverse (a - 1) with
   |none=> .inl ()
   |some r=> .inr (r+1, -1))
 |0,a,hj,h0,h1=>by rw[M.xG];apply aN;simp only[M.GZ,M.Cj];rw[zD aB,aX,List.take_zero,List.reverse_nil,mF];simp
 |j+1,a,hj,h0,h1=>by
  have hlt:i<l.length:=(VG.1 hi).1;obtain⟨k,hk⟩:∃k,n.kids[j]? =some k:=⟨n.kids[j]'aB,by simp⟩
  have ht:(n.kids.take (j+1)).reverse=k::(n.kids.take j).reverse:=by rw[List.take_add_one,hk,Option.toList_some,List.reverse_append];rfl
  rw[ht,mF];have e1:(((j+1:Nat):Int) - 1)=(j:Int):=aB;rw[e1];have hstep:M.GZ (aW o l) (i:Int) (encI st) (a,(j:Int))=if a - 1<0\/k≠a - 1 then some (.inr (.inl ())) else some (.inl (st[k.toNat]?.getD 0,(j:Int) - 1)):=by
   simp only[M.GZ,M.Cj,dI,Bv,hi,KZ,aj,cN4,LQ,hk,cI0];rw[zdt aB,aI,bC (n:=a - 1) aB aB]
   by_cases h2:k=a - 1
   ·have:(k !=a - 1)=false:=by simp[h2]
    rw[this,aX]
    by_cases h3:a=0
    ·have:(a==0)=true:=by simp[h3]
     rw[this,aI,if_pos (.inl aB)]
    ·have:(a==0)=false:=by simp[h3]
     rw[this,aX,if_neg aB];obtain⟨d,hd⟩:∃d:Nat,a - 1=(d:Int):=⟨(a - 1).toNat,aB⟩
     have hdl:d<st.length:=aB;rw[h2,hd];simp only[ani,dI,LQ,ztn];rw[List.getElem?_eq_getElem hdl];simp only[KZ,aj,cI0,Option.getD_some];rw[bC aB aB]
   ·have:(k !=a - 1)=true:=by simp[h2]
    rw[this,aI,if_pos (.inr h2)]
  by_cases hc:a - 1<0\/k≠a - 1
  ·rw[if_pos hc];rw[if_pos hc] at hstep;exact aN hstep
  ·rw[if_neg hc];rw[if_neg hc] at hstep;rw[M.xG,aY hstep];have hz:=adY hst k.toNat;have:=aem l o hi hl hkl hst hs j (st[k.toNat]?.getD 0) aB hz.1 aB;rw[M.xG] at this;exact this
def aci(l:List Nd)(o:Bool)(hl:l.length<=1048576)(hk:∀n,n∈l->n.kids.length<=1048576):∀(rest:List Nd) (i:Nat) (st:List Int),l.drop i=rest->st.length=i->i<=l.length->adX st->
  M.xH (aW o l) ((i:Int),encI st)=some (match kR st (ks rest) with
   |none=> .inl ()
   |some r=> .inr ((l.length:Int),encI r))
 |[],i,st,hd,hs,hi,hst=>by have:l.length<=i:=List.drop_eq_nil_iff.1 hd;rw[M.xH];apply aN;simp only[LJ,M.G7,M.Cm,fV];rw[zD aB,aX];have:i=l.length:=aB;subst this;rfl
 |n::rest,i,st,hd,hs,hi,hst=>by
  have hn:l[i]? =some n:=by
   have:(l.drop i)[0]? =some n:=by rw[hd];rfl
   simpa using this
  have hlt:i<l.length:=(VG.1 hn).1;have hd':l.drop (i+1)=rest:=by rw[<-List.drop_drop,hd];rfl
  have hkn:=hk n (zmg hn);have hin:=aem l o hn hl hkn hst hs n.kids.length (i:Int) (zaO _) aB aB;rw[List.take_length] at hin;have hks:ks (n::rest)=n.kids::ks rest:=rfl;rw[hks,kR,hs];have hstep:M.G7 (aW o l) ((i:Int),encI st)=some (match mF st n.kids.reverse ((i:Int) - 1) with
    |none=> .inr (.inl ())
    |some a=> .inl (((i+1:Nat):Int),encI (st++[a+1]))):=by
   simp only[LJ,M.G7,M.Cm,fV,dI,Bv,hn,KZ,aj,cN4,mZ];rw[zdt aB,aI,bC (n:=(n.kids.length:Int) - 1) aB aB,hin];cases hw:mF st n.kids.reverse ((i:Int) - 1) with
   |none=>rfl
   |some a=>simp only[aj,iO,letE,zf];rw[bG aB,aI,bG aB,aI,bC aB aB];simp[encI]
  cases hw:mF st n.kids.reverse ((i:Int) - 1) with
  |none=>rw[hw] at hstep;exact aN hstep
  |some a=>rw[hw] at hstep;rw[M.xH,aY hstep];have hr:=Ub hst _ _ _ aB aB hw;have:=aci l o hl hk rest (i+1) (st++[a+1]) hd' (by simp[hs]) hlt (aar hst hr.1 hr.2);rw[M.xH] at this;exact this
def agD(l:List Nd)(o:Bool)(hl:l.length<=1048576)(hk:∀n,n∈l->n.kids.length<=1048576):M.DN (aW o l)=some (Ua l):=by
 simp only[M.DN,M.OU,ama,aj,fV]
 by_cases h1:1<=l.length/\l.length<=400
 ·have hb:(decide ((1:Int)<=(l.length:Int)) && decide ((l.length:Int)<=400))=true:=by simp;omega
  rw[hb,zaN,aX];have h:=aci l o hl hk l 0 [] rfl rfl (Nat.zero_le _) adZ;have e0:((0:Nat):Int)=0:=rfl;rw[e0] at h;simp only[M.EL,M.MO];rw[show([]:ay)=encI [] from rfl,h,Ua,Jq,if_pos (by rw[Qk];exact h1)];cases hs:kR [] (ks l) with
  |none=>rfl
  |some r=>
   have hrl:r.length=l.length:=by have:=ac2 _ _ _ hs;rw[Qk] at this;simpa using this
   simp only[aj,iO,letE,Qj,aI];rw[bC aB aB,show(l.length:Int) - 1=((l.length - 1:Nat):Int) by omega];simp only[ani,dI,LQ,ztn];rw[List.getElem?_eq_getElem aB];simp only[KZ,aj,cI0,Option.getD_some]
 ·have hb:(decide ((1:Int)<=(l.length:Int)) && decide ((l.length:Int)<=400))=false:=by
   cases hq:(decide ((1:Int)<=(l.length:Int)) && decide ((l.length:Int)<=400)) with
   |false=>rfl
   |true=>simp at hq;omega
  rw[hb,Bool.not_false,aI,Ua,Jq,if_neg (by rw[Qk];exact h1)]
def ala{st:List Int}(h:adX st):∀(l:List Int) (a r:Int),a<st.length->mF st l a=some r->∀k,k∈l->0<=k/\k<st.length
 |[],a,r,h1,e,k,hk=>absurd hk List.not_mem_nil
 |x::l,a,r,h1,e,k,hk=>by
  rw[mF] at e;split at e
  ·cases e
  ·rename_i hc;have hz:=adY h x.toNat;rcases List.mem_cons.1 hk with rfl|hk
   ·omega
   ·exact ala h l _ r aB e k hk
def agb:∀(l:List (List Int)) (st r:List Int),adX st->kR st l=some r->∀(i:Nat) n,l[i]? =some n->∀k,k∈n->0<=k/\k<st.length+i
 |[],st,r,h0,h,i,n,hn=>by simp at hn
 |m::l,st,r,h0,h,i,n,hn=>by
  rw[kR] at h;split at h
  ·cases h
  ·rename_i a ha;have hr:=Ub h0 _ _ _ aB aB ha;cases i with
   |zero=>simp only[List.getElem?_cons_zero,iF] at hn;subst hn;intro k hk;have:=ala h0 _ _ _ aB ha k (List.mem_reverse.2 hk);omega
   |succ i=>simp only[List.getElem?_cons_succ] at hn;intro k hk;have:=agb l _ r (aar h0 hr.1 hr.2) h i n hn k hk;simp at this;omega
def aun{l:List Nd}(h:Ua l=true):1<=l.length/\l.length<=400:=by
 unfold Ua at h;cases hs:Jq (ks l) with
 |none=>rw[hs] at h;cases h
 |some r=>
  unfold Jq at hs;split at hs
  ·rename_i hq;rw[Qk] at hq;exact hq
  ·cases hs
def acj:∀(l:List (List Int)) (st r:List Int),kR st l=some r->∃t,r=st++t
 |[],st,r,h=>by rw[kR] at h;cases h;exact⟨[],by simp⟩
 |n::l,st,r,h=>by
  rw[kR] at h;split at h
  ·cases h
  ·obtain⟨t,ht⟩:=acj l _ r h;exact⟨_,by rw[ht,Nu]⟩
def aoO{st t:List Int}(h:adX st):∀(ks:List Int) (a:Int),a<st.length->mF (st++t) ks a=mF st ks a
 |[],a,_=>rfl
 |k::ks,a,ha=>by
  rw[mF,mF];split
  ·rfl
  ·rename_i hc;have hk:k.toNat<st.length:=aB;have e:(st++t)[k.toNat]? =st[k.toNat]? :=List.getElem?_append_left hk;rw[e];have hz:=adY h k.toNat;exact aoO h ks _ aB
def alb:∀(l:List (List Int)) (st r:List Int),adX st->kR st l=some r->∀(i:Nat) n,l[i]? =some n->∃a,mF r n.reverse ((st.length:Int)+i - 1)=some a/\r[st.length+i]? =some (a+1)
 |[],st,r,h0,h,i,n,hn=>by simp at hn
 |m::l,st,r,h0,h,i,n,hn=>by
  rw[kR] at h;split at h
  ·cases h
  ·rename_i a ha;have hr:=Ub h0 _ _ _ aB aB ha;obtain⟨t,ht⟩:=acj l _ r h;cases i with
   |zero=>
    simp only[List.getElem?_cons_zero,iF] at hn;subst hn;refine⟨a, ?_, ?_⟩
    ·rw[ht,Nu,aoO h0 _ _ (by simp;omega)];simpa using ha
    ·rw[ht];simp
   |succ i=>
    simp only[List.getElem?_cons_succ] at hn;obtain⟨b,h1,h2⟩:=alb l _ r (aar h0 hr.1 hr.2) h i n hn;refine⟨b, ?_, ?_⟩
    ·rw[<-h1];congr 1;simp;omega
    ·rw[<-h2];congr 1;simp;omega
def aen:List Int->Int
 |[]=>0
 |x::l=>x+aen l
def agc:∀(a b:List Int),aen (a++b)=aen a+aen b
 |[],b=>by simp[aen]
 |x::a,b=>by rw[zca,aen,aen,agc a b];omega
def aeo:∀l:List Int,aen l.reverse=aen l
 |[]=>rfl
 |x::l=>by rw[List.reverse_cons,agc,aeo l];simp[aen];omega
def sz(r:List Int)(k:Int):Int:=k - (r[k.toNat]?.getD 0)+1
def aoP(r:List Int):∀(ks:List Int) (a b:Int),mF r ks a=some b->aen (ks.map (sz r))=a - b
 |[],a,b,h=>by rw[mF] at h;cases h;simp[aen]
 |k::ks,a,b,h=>by
  rw[mF] at h;split at h
  ·cases h
  ·rename_i hc;have:=aoP r ks _ b h;rw[zmc,aen,this,sz];omega
structure Val(l:List Nd)(r:List Int):Prop where
 st:kR [] (ks l)=some r
 pos:1<=l.length
 le:l.length<=400
def aDy{l:List Nd}(h:Ua l=true):∃r,Val l r:=by
 have hl:=aun h;unfold Ua at h;cases hs:Jq (ks l) with
 |none=>rw[hs] at h;cases h
 |some r=>
  unfold Jq at hs;split at hs
  ·exact⟨r,hs,hl.1,hl.2⟩
  ·cases hs
section
variable {l:List Nd} {r:List Int}
def Val.len(h:Val l r):r.length=l.length:=by have:=ac2 _ _ _ h.st;rw[Qk] at this;simpa using this
def Val.ok(h:Val l r):adX r:=aky _ _ _ adZ h.st
def Val.kids(h:Val l r){i:Nat}{n:Nd}(hn:l[i]? =some n):∀k,k∈n.kids->0<=k/\k<i:=by have:=agb _ _ _ adZ h.st i n.kids (by simp[ks,hn]);simpa using this
def Val.sum(h:Val l r){i:Nat}{n:Nd}(hn:l[i]? =some n):aen (n.kids.map (sz r))+1=sz r i:=by obtain⟨a,h1,h2⟩:=alb _ _ _ adZ h.st i n.kids (by simp[ks,hn]);have:=aoP r _ _ _ h1;rw[List.map_reverse,aeo] at this;simp at h2;rw[this,sz,ztn,h2];simp;omega
end
def amb(l:List Nd)(i:Nat):List Int:=match l[i]? with|some n=>n.kids|none=>[]
def afe{l:List Nd}{i:Nat}{n:Nd}(h:l[i]? =some n):amb l i=n.kids:=by rw[amb,h]
def mx:Int->List Int->Int
 |a,[]=>a
 |a,x::l=>mx (bif decide (a<x) then x else a) l
def aep(B:Int):∀(l:List Int) (a:Int),a<=B->(∀x,x∈l->x<=B)->a<=mx a l/\mx a l<=B
 |[],a,h,_=>⟨Int.le_refl _,h⟩
 |x::l,a,h,hl=>by
  have hx:=hl x List.mem_cons_self;rw[mx]
  by_cases c:a<x
  ·rw[zdt c,aI];have:=aep B l x hx λy hy=>hl y (zmm _ hy)
   omega
  ·rw[zD c,aX];exact aep B l a h λy hy=>hl y (zmm _ hy)
def amc:∀(l:List Int) (a x:Int),mx a (l++[x])=(bif decide (mx a l<x) then x else mx a l)
 |[],a,x=>rfl
 |y::l,a,x=>by rw[zca,mx,mx,amc l]
def axT:∀(l:List Int) (a:Int),mx (1+a) (l.map λd=>1+d)=1+mx a l
 |[],a=>rfl
 |x::l,a=>by
  rw[zmc,mx,mx,<-axT l]
  by_cases c:a<x
  ·rw[zdt c,aI,zdt aB,aI]
  ·rw[zD c,aX,zD aB,aX]
def dep(l:List Nd):Nat->Nat->Int
 |0,_=>0
 |f+1,i=>mx 0 ((amb l i).map λk=>dep l f k.toNat)+1
def alc(l:List Nd):∀f i,0<=dep l f i/\dep l f i<=f
 |0,i=>by simp[dep]
 |f+1,i=>by have:=aep (f:Int) ((amb l i).map λk=>dep l f k.toNat) 0 aB (λx hx=>by obtain⟨k,_,rfl⟩:=List.mem_map.1 hx;exact(alc l f k.toNat).2);rw[dep];omega
section
variable {l:List Nd} {r:List Int} {o:Bool}
def aoQ(h:Val l r):∀(f f' i:Nat),i<f->i<f'->i<l.length->dep l f i=dep l f' i
 |0,_,i,h1,_,_=>absurd h1 (Nat.not_lt_zero _)
 |f+1,0,i,_,h2,_=>absurd h2 (Nat.not_lt_zero _)
 |f+1,f'+1,i,h1,h2,h3=>by
  obtain⟨n,hn⟩:∃n,l[i]? =some n:=⟨l[i],by simp⟩
  rw[dep,dep,afe hn];congr 2;refine List.map_congr_left λk hk=> ?_
  have hkr:=h.kids hn k hk;exact aoQ h f f' k.toNat aB aB aB
def aiR(l:List Nd)(i:Nat):List Int:=(List.range i).map λj=>dep l (j+1) j
def axU(l:List Nd)(i:Nat):(aiR l i).length=i:=by simp[aiR]
def aoR(l:List Nd){i j:Nat}(h:j<i):(aiR l i)[j]? =some (dep l (j+1) j):=by simp[aiR,List.getElem?_range h]
def auo(l:List Nd)(i:Nat):aiR l (i+1)=aiR l i++[dep l (i+1) i]:=by simp[aiR,List.range_succ]
def aoS(h:Val l r){i:Nat}{n:Nd}(hn:l[i]? =some n)(hk:n.kids.length<=1048576):M.Ip (aW o l) (i:Int) (encI (aiR l i)) (1,0)=some (dep l (i+1) i,(n.kids.length:Int)):=by
 have hil:=(VG.1 hn).1;have hle:=h.le;have hdk:∀k,k∈n.kids->dep l i k.toNat=dep l (k.toNat+1) k.toNat:=λk hkm=>by have:=h.kids hn k hkm;exact aoQ h _ _ _ aB aB aB
 have hval:∀(j:Nat),(1:Int)+mx 0 ((n.kids.take j).map λk=>dep l i k.toNat)=mx 1 ((n.kids.take j).map λk=>1+dep l i k.toNat):=λj=>by have:=axT ((n.kids.take j).map λk=>dep l i k.toNat) 0;rw[List.map_map] at this;exact this.symm
 have hloop:=qX (b:=M.IV (aW o l) (i:Int) (encI (aiR l i))) (t:=(dep l (i+1) i,(n.kids.length:Int))) (λj=>(mx 1 ((n.kids.take j).map λk=>1+dep l i k.toNat),(j:Int))) n.kids.length
  (by
   intro j hj;obtain⟨k,hkj⟩:∃k,n.kids[j]? =some k:=⟨n.kids[j],by simp⟩
   have hkm:=zmg hkj;have hkr:=h.kids hn k hkm;obtain⟨q,hq⟩:∃q:Nat,k=q:=⟨k.toNat,aB⟩
   have hd:=hdk k hkm;have hr:=alc l (q+1) q;subst hq;rw[ztn] at hd;simp only[M.IV,M.D7,dI,Bv,hn,KZ,aj,cN4,mZ,LQ,hkj,cI0,ztn,aoR l (show q<i by omega)];rw[zdt aB,aI,bC (n:=(j:Int)+1) aB aB,bC (n:=1+dep l (q+1) q) aB aB,List.take_add_one,hkj,Option.toList_some,List.map_append,zmc,List.map_nil,amc,ztn,hd];rfl)
  (by simp only[M.IV,M.D7,dI,Bv,hn,KZ,aj,cN4,mZ];rw[zD aB,aX,<-hval,List.take_length,dep,afe hn,Int.add_comm]) 0 (Nat.zero_le _)
 rw[M.Ip];exact hloop
def depth(l:List Nd):Int:=if Ua l then dep l l.length (l.length - 1) else 0
def agE(l:List Nd)(o:Bool)(hl:l.length<=1048576)(hk:∀n,n∈l->n.kids.length<=1048576):M.DR (aW o l)=some (depth l):=by
 simp only[M.DR,M.OV,agD l o hl hk,aj,fV,depth];cases hs:Ua l with
 |false=>rfl
 |true=>
  obtain⟨r,h⟩:=aDy hs;have h1:=h.pos;have h2:=h.le;have hloop:=qX (b:=M.IW (aW o l)) (t:=((l.length:Int),encI (aiR l l.length))) (λi=>((i:Int),encI (aiR l i))) l.length
   (by
    intro i hi;obtain⟨n,hn⟩:∃n,l[i]? =some n:=⟨l[i],by simp⟩
    have hin:=aoS (o:=o) h hn (hk n (zmg hn));simp only[LJ,M.IW,M.D8,fV,hin,aj,mZ,axU,zf];rw[zdt aB,aI,bG aB,aI,bG aB,aI,bC aB aB,auo];simp[encI])
   (by simp only[LJ,M.IW,M.D8,fV];rw[zD aB,aX]) 0 (Nat.zero_le _)
  have NP:M.MP (aW o l) (0,[])=_:=hloop;rw[zaN,aX,NP,aj,bC aB aB,show(l.length:Int) - 1=((l.length - 1:Nat):Int) by omega,if_pos rfl];simp only[dI,ztn,LQ,aoR l (show l.length - 1<l.length by omega),KZ,aj,cI0];rw[show l.length - 1+1=l.length by omega]
def aiS:∀rows:ay,ak rows=rows.map Jj
 |[]=>rfl
 |x::rows=>by rw[ak,aiS rows,zmc]
end
structure Small(n:Nd):Prop where
 text:n.text.length<=1048576
 other:n.other.length<=1048576
section
variable {l:List Nd} {r:List Int} {o:Bool}
end
section
variable (l:List Nd) (o:Bool) (hl:l.length<=1048576) (hk:∀n,n∈l->n.kids.length<=1048576) (hsm:∀n,n∈l->Small n)
include hl hk hsm
end
def Gi(k:Int):Nat->List Int
 |0=>[]
 |n+1=>k::Gi (k+1) n
def KT(k:Int)(n:Nat):(Gi k n).length=n:=by
 induction n generalizing k with
 |zero=>rfl
 |succ n ih=>simp[Gi,ih]
def aup(k:Int)(n i:Nat)(h:i<n):(Gi k n)[i]? =some (k+i):=by
 induction n generalizing k i with
 |zero=>omega
 |succ n ih=>
  cases i with
  |zero=>simp[Gi]
  |succ i=>simp only[Gi,List.getElem?_cons_succ];rw[ih (k+1) i aB];congr 1;omega
def markT(k:Int)(l:List Int)(i:Nat):List Int:=Gi k i++l.drop i
def auq{k:Int}{l:List Int}{i:Nat}(h:i<l.length):(markT k l i)[i]? =l[i]? :=by unfold markT;rw[List.getElem?_append_right (by simp[KT])];simp[KT]
def aqH(k:Int)(n:Nat):Gi k (n+1)=Gi k n++[k+n]:=by
 induction n generalizing k with
 |zero=>simp[Gi]
 |succ n ih=>rw[Gi,ih (k+1),Gi];simp;omega
def aur{k:Int}{l:List Int}{i:Nat}(h:i<l.length):(markT k l i).set i (k+i)=markT k l (i+1):=by
 unfold markT;obtain⟨x,hx⟩:∃x,l[i]? =some x:=⟨l[i],by simp[h]⟩
 have hd:l.drop i=x::l.drop (i+1):=by rw[List.drop_eq_getElem_cons h];rw[List.getElem?_eq_getElem h] at hx;rw[Option.some.inj hx]
 rw[hd];have:=ach (Gi k i) (l.drop (i+1)) x (k+i);rw[KT] at this;rw[this,aqH];simp
def aer(k:Int)(l:List Int){i:Nat}(h:i<=l.length):(markT k l i).length=l.length:=by simp[markT,KT];omega
def aoT(k:Int)(l:List Int)(h0:0<=k)(h1:k<=1000000000)(hl:l.length<=1000000000):M.Bg k (encI l)=some (k+l.length,encI (Gi k l.length)):=by
 simp only[M.Bg,M.Nh];have hloop:=qX (b:=M.Hu) (t:=(k+l.length,(l.length:Int),encI (Gi k l.length))) (λi=>(k+i,(i:Int),encI (markT k l i))) l.length
  (by
   intro i hi;obtain⟨x,hx⟩:∃x,l[i]? =some x:=⟨l[i],by simp[hi]⟩
   simp only[M.Hu,M.CX,mZ,aer k l (Nat.le_of_lt hi),dI,LQ,auq hi,hx,KZ,aj,ztn];rw[zdt aB,aI,bC aB aB,bC aB aB];have hs:splice [D.int IntKind.i64 x] 0 [D.int IntKind.i64 (k+i)]=[D.int IntKind.i64 (k+i)]:=rfl;rw[hs,avQ,aur hi];congr 3;omega)
  (by simp only[M.Hu,M.CX,mZ,aer k l (zaO _)];rw[zD aB,aX];simp[markT]) 0 (Nat.zero_le _)
 simp only[adk,Int.add_zero,markT,Gi,List.drop_zero,List.nil_append] at hloop;rw[M.KJ,hloop,aj]
def aoU(k:Int)(n:Nat)(h0:0<=k)(h1:k<=1000000000)(hl:n<=1000000000):M.Bh (encI (Gi k n)) k=some (k+n):=by
 simp only[M.Bh,M.Nj];have hloop:=qX (b:=M.Hw (encI (Gi k n))) (t:=.inr (k+n,(n:Int))) (λi=>(k+i,(i:Int))) n
  (by intro i hi;simp only[M.Hw,M.CY,mZ,KT,dI,LQ,aup k n i hi,KZ,aj,cI0,bne_self_eq_false,aX];rw[zdt aB,aI,bC aB aB,bC aB aB];congr 3;omega)
  (by simp only[M.Hw,M.CY,mZ,KT];rw[zD aB,aX]) 0 (Nat.zero_le _)
 simp only[adk,Int.add_zero] at hloop;rw[M.KN,hloop,aj];rfl
@[simp] theorem aus(l:List Int):Jk (encI l)=true:=by
 induction l with
 |nil=>rfl
 |cons x l ih=>simp only[encI,zmc] at ih|-;simp[Jk,yU,D.pure,ih]
@[simp] theorem aEs(l:List Int):[[D.sl true 1 (encI l)]].all yU=true:=by simp[yU,D.pure]
def acn:∀(m:Nat) (k:Int) (s:aJ),0<=k->k.toNat<=m->s.length+k.toNat<=4000000000000000000->∃k' s',M.BF (k,s)=some (k',s')/\s'.length<=4000000000000000000
 |m,k,s,h0,h1,hs=>by
  by_cases hk:0<k
  ·cases m with
   |zero=>omega
   |succ m=>
    have hd:k.tdiv 10=k / 10:=Int.tdiv_eq_ediv_of_nonneg h0;obtain⟨y,hy⟩:∃y,y=UInt8.ofNat (IntKind.u8.wrap (i64.wrap (48+k.tmod 10))).toNat:=⟨_,rfl⟩
    have hstep:M.Ht (k,s)=some (.inl (k / 10,[y]++s)):=by
     simp only[M.Ht,M.CW];rw[<-hy,zdt (show k>0 from hk),aI];have:([y].length+s.length).ble 9223372036854775807=true:=by apply Nat.ble_eq_true_of_le;simp;omega
     rw[this,aI,hd,bC aB aB]
    obtain⟨k',s',h2,h3⟩:=acn m (k / 10) ([y]++s) aB aB (by simp;omega);refine⟨k',s', ?_,h3⟩;rw[M.BF,aY hstep];exact h2
  ·refine⟨k,s, ?_,aB⟩;rw[M.BF];apply aN;simp only[M.Ht,M.CW];rw[zD (show¬k>0 from hk),aX]
noncomputable def mk(k:Int):aJ:=(M.mY k).getD []
def Vd(k:Int)(h:k<=4000000000000000000):M.mY k=some (mk k):=by
 have:∃s,M.mY k=some s:=by
  simp only[M.mY,M.MZ]
  by_cases hk:k<=0
  ·rw[zdt hk];exact⟨_,rfl⟩
  ·rw[zD hk,aX];obtain⟨k',s',h2,h3⟩:=acn k.toNat k [] aB (zaO _) (by simp;omega);rw[h2,aj];have:(1+s'.length).ble 9223372036854775807=true:=by apply Nat.ble_eq_true_of_le;omega
   rw[this];exact⟨_,rfl⟩
 obtain⟨s,hs⟩:=this;rw[mk,hs];rfl
def aDz{α:Type}(a:List α)(x:α)(b:List α){i:Nat}(h:a.length=i):idx (a++x::b) (i:Int)=some x:=by rw[dI,List.getElem?_append_right aB];simp[h]
def aDA{α:Type}(a:List α)(x:α)(b:List α){i:Nat}(h:a.length=i):(a++x::b)[i]? =some x:=by rw[List.getElem?_append_right aB];simp[h]
def at_set{α:Type}(a:List α)(x y:α)(b:List α){i:Nat}(h:a.length=i):(a++x::b).set i y=a++y::b:=by subst h;exact ach a b x y
def Ap(o:Bool)(a b:List Nd):aW o (a++b)=aW o a++aW o b:=by simp[aW]
def aqI(w:Bool):∀t:Tn,t.row w=[.int .i64 t.kind,.int .i64 t.op,.str t.text,.str t.other,.sl w 5 (dN w t.kids)]
 | .mk k o x y ks=>rfl
def Aq(w:Bool)(a b:List Tn):dN w (a++b)=dN w a++dN w b:=by simp[V5]
def dM(w:Bool)(a:List Tn):(dN w a).length=a.length:=by simp[V5]
def uH{α:Type}{l:List α}{j:Nat}{t:α}(h:l[j]? =some t):l.take (j+1)=l.take j++[t]:=by rw[List.take_add_one,h];rfl
def aoV{α:Type}{l:List α}{j:Nat}{t:α}(h:l[j]? =some t):l=l.take j++t::l.drop (j+1):=by obtain⟨hj,rfl⟩:=VG.1 h;rw[<-List.drop_eq_getElem_cons hj,List.take_append_drop]
def Ux{ks:List Tn}{j:Nat}{t:Tn}(h:ks[j]? =some t):sizes (ks.take j)+t.size<=sizes ks:=by have:=congrArg sizes (aoV h);rw[nI,sizes] at this;omega
section
variable {l:List Nd} {b:Nat} {k op:Int} {x y:aJ} {ks:List Tn}
def Lies.aDB(h:Lies l b (.mk k op x y ks)){j:Nat}{t:Tn}(hj:ks[j]? =some t):Lies l (b+sizes (ks.take j)) t:=by have e:=aoV hj;rw[e] at h;exact h.kid
def aAo{j:Nat}{t:Tn}(hj:ks[j]? =some t):(ends ks b)[j]? =some ((b+sizes (ks.take j)+sizes t.kids:Nat):Int):=by have hlt:=(VG.1 hj).1;have hs:=t.aeP;rw[avR hlt,uH hj,nI,sizes,sizes];congr 1;omega
def Lies.root'{t:Tn}(h:Lies l b t):l[b+sizes t.kids]? =some ⟨t.kind,t.op,t.text,t.other,ends t.kids b⟩:=by cases t;exact h.root
def ald{j:Nat}{t:Tn}(hj:ks[j]? =some t):ends (ks.take (j+1)) b=ends (ks.take j) b++[((b+sizes (ks.take j)+t.size:Nat):Int) - 1]:=by rw[uH hj,Yw,ends,ends];congr 2<;>omega
def aiT{j:Nat}{t:Tn}(hj:ks[j]? =some t):tN (ks.take (j+1)) b=tN (ks.take j) b++t.flat (b+sizes (ks.take j)):=by rw[uH hj,Xf,tN,tN,List.append_nil]
def ends_range:∀(ks:List Tn) (b:Nat),∀e,e∈ends ks b->(b:Int)<=e/\e<b+sizes ks
 |[],b,e,h=>by simp[ends] at h
 |t::ts,b,e,h=>by
  have hp:=t.size_pos;rw[ends] at h;have hs:(sizes (t::ts):Int)=t.size+sizes ts:=by rw[sizes];omega
  rcases List.mem_cons.1 h with rfl|h
  ·omega
  ·have:=ends_range ts _ e h;omega
end
mutual
def TD:∀(t:Tn) (b:Nat),∀n,n∈t.flat b->n.kids.length<=t.size/\∀e,e∈n.kids->(0:Int)<=e/\e<b+t.size
 | .mk k o x y ks,b,n,h=>by
  rw[Tn.flat] at h;rw[Tn.size];rcases List.mem_append.1 h with h|h
  ·have:=aiU ks b n h;exact⟨aB,λe he=>by have:=this.2 e he;omega⟩
  ·simp only[List.mem_singleton] at h;subst h;refine⟨by simp only[Rh];have:=BI ks;omega,λe he=> ?_⟩;have:=ends_range ks b e he;omega
def aiU:∀(ks:List Tn) (b:Nat),∀n,n∈tN ks b->n.kids.length<=sizes ks/\∀e,e∈n.kids->(0:Int)<=e/\e<b+sizes ks
 |[],b,n,h=>by simp[tN] at h
 |t::ts,b,n,h=>by
  rw[tN] at h;rw[sizes];rcases List.mem_append.1 h with h|h
  ·have:=TD t b n h;exact⟨aB,λe he=>by have:=this.2 e he;omega⟩
  ·have:=aiU ts _ n h;exact⟨aB,λe he=>by have:=this.2 e he;omega⟩
end
def aDC(t:Tn):∀(f:Nat) (w:Bool) (p:List Nd),t.size<=f->p.length+t.size<=1048576->
  M.jV f t.kind t.op t.text t.other (dN w t.kids) (aW true p)=some (aW true (p++t.flat p.length)):=by
 refine Tn.ind (P:=λt=>∀(f:Nat) (w:Bool) (p:List Nd),t.size<=f->p.length+t.size<=1048576->M.jV f t.kind t.op t.text t.other (dN w t.kids) (aW true p)=some (aW true (p++t.flat p.length))) ?_ t;intro k op x y ks ih f w p hf hp;cases f with
 |zero=>rw[Tn.size] at hf;omega
 |succ f=>
  rw[Tn.size] at hf hp;have hkl:=BI ks;simp only[LJ,M.jV,M.Ir,Tn.kids,Tn.kind,Tn.op,Tn.text,Tn.other,dM];have hrec:∀j t,ks[j]? =some t->M.jV f t.kind t.op t.text t.other (dN w t.kids) (aW true (p++tN (ks.take j) p.length))=some (aW true (p++tN (ks.take (j+1)) p.length)):=by
   intro j t hj;have hst:=Ux hj;have hfl:(p++tN (ks.take j) p.length).length=p.length+sizes (ks.take j):=by rw[Au,yc]
   have:=ih t (zmg hj) f w (p++tN (ks.take j) p.length) aB (by rw[hfl];omega);rw[this,hfl,aiT hj,Nu]
  have hloop:=qX (b:=M.xW (M.jV f))
   (t:=if ks=[] then .inl (dN w ks,(ks.length:Int),0,aW true p,k,op,x,y) else .inr (dN w ks,(ks.length:Int),(ks.length:Int),aW true (p++tN ks p.length),k,op,x,y,encI (ends ks p.length)))
   (λj=>if j=0 then .inl (dN w ks,(ks.length:Int),0,aW true p,k,op,x,y) else .inr (dN w ks,(ks.length:Int),(j:Int),aW true (p++tN (ks.take j) p.length),k,op,x,y,encI (ends (ks.take j) p.length))) ks.length
   (by
    intro j hj;obtain⟨t,ht⟩:∃t,ks[j]? =some t:=⟨ks[j],by simp⟩
    have hr:=hrec j t ht;have hst:=Ux ht;have hp1:=t.size_pos;have hg:(dN w ks)[j]? =some (t.row w):=by rw[V5];simp[ht]
    have hc0:mg .i64 (t.row w) 0=some t.kind:=by cases t;rfl
    have hc1:mg .i64 (t.row w) 1=some t.op:=by cases t;rfl
    have hc2:cStr (t.row w) 2=some t.text:=by cases t;rfl
    have hc3:cStr (t.row w) 3=some t.other:=by cases t;rfl
    have hc4:cSl 5 (t.row w) 4=some (dN w t.kids):=by cases t;rfl
    have hfl:(aW true (p++tN (ks.take (j+1)) p.length)).length=p.length+sizes (ks.take j)+t.size:=by rw[fV,Au,yc,uH ht,nI,sizes,sizes];omega
    rw[if_neg (show¬j+1=0 by omega),ald ht]
    by_cases h0:j=0
    ·subst h0;rw[if_pos rfl];have hi:idx (dN w ks) 0=some (t.row w):=by have:=dI (dN w ks) 0;rw[adk] at this;rw[this,hg]
     have hr0:M.jV f t.kind t.op t.text t.other (dN w t.kids) (aW true p)=some (aW true (p++tN (ks.take (0+1)) p.length)):=by rw[<-hr];simp[tN]
     simp only[LJ,M.xW,M.tJ,hi,aj,hc0,hc1,hc2,hc3,hc4,hr0,hfl];rw[zdt aB,aI,bC aB aB,bC aB aB];rfl
    ·rw[if_neg h0];simp only[LJ,M.xW,M.tJ,dI,hg,aj,hc0,hc1,hc2,hc3,hc4,hr,hfl,mZ,Rh,zlt,zf];rw[zdt aB,aI,bG aB,aI,bG aB,aI,bC aB aB,bC aB aB];simp[encI])
   (by
    by_cases h0:ks.length=0
    ·have he:ks=[]:=List.length_eq_zero_iff.1 h0;rw[if_pos h0,if_pos he];simp only[LJ,M.xW,M.tJ];rw[zD aB,aX]
    ·have he:¬ks=[]:=λe=>h0 (by rw[e];rfl)
     rw[if_neg h0,if_neg he,List.take_length];simp only[LJ,M.xW,M.tJ];rw[zD aB,aX]) 0 (Nat.zero_le _)
  rw[if_pos rfl] at hloop;rw[M.KG,hloop,aj]
  by_cases he:ks=[]
  ·rw[if_pos he];subst he;simp only[iO,fV,zf];rw[bG aB,aI,bG aB,aI,Ap];rfl
  ·rw[if_neg he];simp only[iO,letE,fV,Au,yc,zf,Qj,aI];rw[bG aB,aI,bG aB,aI,Tn.flat,<-Nu];simp only[Ap];rfl
def aAp{t:Tn}{w:Bool}(h:t.size<=1048576):M.pF t.kind t.op t.text t.other (dN w t.kids)=some (aW true (t.flat 0)):=by have:=M.ae9 (aDC t t.size w [] (zaO _) (by simpa using h));simp only[M.pF,M.KH];have e:aW true ([]:List Nd)=[]:=rfl;rw[e] at this;rw[this,aj];simp
noncomputable def mkNode(k:Int)(n:Nd):Nd:=⟨k,k+1,mk (k+2),mk (k+3),Gi (k+4) n.kids.length⟩
def wK:List Nd->Nat
 |[]=>0
 |n::l=>4+n.kids.length+wK l
def aff:∀a b:List Nd,wK (a++b)=wK a+wK b
 |[],b=>by simp[wK]
 |n::a,b=>by rw[zca,wK,wK,aff a b];omega
noncomputable def oU(k:Int):List Nd->List Nd
 |[]=>[]
 |n::l=>mkNode k n::oU (k+4+n.kids.length) l
def JU(k:Int)(l:List Nd):(oU k l).length=l.length:=by
 induction l generalizing k with
 |nil=>rfl
 |cons n l ih=>rw[oU,X8,ih,X8]
def ZW(k:Int)(a b:List Nd):oU k (a++b)=oU k a++oU (k+wK a) b:=by
 induction a generalizing k with
 |nil=>simp[oU,wK]
 |cons n a ih=>
  have e:k+4+(n.kids.length:Int)+(wK a:Int)=k+(wK (n::a):Int):=by rw[wK];omega
  rw[zca,oU,oU,ih,e,zca]
def aoW(k:Int){l:List Nd}{i:Nat}{n:Nd}(h:l[i]? =some n):(oU k l)[i]? =some (mkNode (k+wK (l.take i)) n):=by
 obtain⟨hi,rfl⟩:=VG.1 h;have e:l=l.take i++l[i]::l.drop (i+1):=by rw[<-List.drop_eq_getElem_cons hi,List.take_append_drop]
 have hl:(oU k (l.take i)).length=i:=by rw[JU,zlt];omega
 have h2:oU k l=oU k (l.take i)++oU (k+wK (l.take i)) (l[i]::l.drop (i+1)):=by rw[<-ZW,<-e]
 rw[h2,List.getElem?_append_right aB,hl,Nat.sub_self,oU];rfl
def aiV{l:List Nd}{i:Nat}{n:Nd}(h:l[i]? =some n):wK (l.take i)+4+n.kids.length<=wK l:=by
 obtain⟨hi,rfl⟩:=VG.1 h;have e:l=l.take i++l[i]::l.drop (i+1):=by rw[<-List.drop_eq_getElem_cons hi,List.take_append_drop]
 have:=congrArg wK e;rw[aff,wK] at this;omega
def aqJ:∀l:List Nd,l.length<=wK l
 |[]=>zaO _
 |n::l=>by have:=aqJ l;rw[wK,X8];omega
def asb{l:List Nd}{i:Nat}{n:Nd}(h:l[i]? =some n):wK (l.take (i+1))=wK (l.take i)+(4+n.kids.length):=by rw[List.take_add_one,h,aff];rfl
def amd(k:Int)(l:List Nd)(h0:0<=k)(h1:k+wK l<=900000000):M.yE k (aW true l)=some (k+wK l,aW true (oU k l)):=by
 simp only[M.yE,M.KL];have hwl:=aqJ l;have hloop:=qX (b:=M.Fg) (t:=(k+wK l,(l.length:Int),aW true (oU k l))) (λi=>(k+wK (l.take i),(i:Int),aW true (oU k (l.take i))++aW true (l.drop i))) l.length
  (by
   intro i hi;obtain⟨n,hn⟩:∃n,l[i]? =some n:=⟨l[i],by simp[hi]⟩
   have hd:l.drop i=n::l.drop (i+1):=by rw[List.drop_eq_getElem_cons hi];rw[List.getElem?_eq_getElem hi] at hn;rw[Option.some.inj hn]
   have hla:(aW true (oU k (l.take i))).length=i:=by rw[fV,JU,zlt];omega
   have hw:=aiV hn;generalize hK:k+(wK (l.take i):Int)=K;have w1:i64.wrap (K+1)=K+1:=bC aB aB;have w2:i64.wrap (K+1+1)=K+2:=(bC aB aB).trans aB;have w3:i64.wrap (K+2+1)=K+3:=(bC aB aB).trans aB;have w4:i64.wrap (K+3+1)=K+4:=(bC aB aB).trans aB;have hm:=aoT (K+4) n.kids aB aB aB;have hlen:decide ((i:Int)<((aW true (oU k (l.take i))++adV true n::aW true (l.drop (i+1))).length:Int))=true:=zdt (by rw[Au,hla,X8];omega);have he:aW true (n::l.drop (i+1))=adV true n::aW true (l.drop (i+1)):=rfl;have s0:splice (adV true n) 0 [D.int .i64 K]=[.int .i64 K,.int .i64 n.op,.str n.text,.str n.other,.sl true 1 (encI n.kids)]:=rfl;have s1:splice [D.int .i64 K,.int .i64 n.op,.str n.text,.str n.other,.sl true 1 (encI n.kids)] 1 [D.int .i64 (K+1)]=[.int .i64 K,.int .i64 (K+1),.str n.text,.str n.other,.sl true 1 (encI n.kids)]:=rfl;have s2:splice [D.int .i64 K,.int .i64 (K+1),.str n.text,.str n.other,.sl true 1 (encI n.kids)] 2 [D.str (mk (K+2))]=[.int .i64 K,.int .i64 (K+1),.str (mk (K+2)),.str n.other,.sl true 1 (encI n.kids)]:=rfl;have s3:splice [D.int .i64 K,.int .i64 (K+1),.str (mk (K+2)),.str n.other,.sl true 1 (encI n.kids)] 3 [D.str (mk (K+3))]=[.int .i64 K,.int .i64 (K+1),.str (mk (K+2)),.str (mk (K+3)),.sl true 1 (encI n.kids)]:=rfl;have s4:∀r,splice [D.int .i64 K,.int .i64 (K+1),.str (mk (K+2)),.str (mk (K+3)),.sl true 1 (encI n.kids)] 4 [D.sl true 1 r]=[.int .i64 K,.int .i64 (K+1),.str (mk (K+2)),.str (mk (K+3)),.sl true 1 r]:=λ_=>rfl
   have c4:aeA 1 [D.int .i64 K,.int .i64 (K+1),.str (mk (K+2)),.str (mk (K+3)),.sl true 1 (encI n.kids)] 4=some (encI n.kids):=rfl;have hb:(Nat.beq 1 1 &&(true==true &&(true && true)))=true:=rfl;simp only[hd,M.Fg,M.zU,hlen,aI,he,aDz _ _ _ hla,ztn,aDA _ _ _ hla,at_set _ _ _ _ hla,aj,s0,s1,s2,s3,s4,c4,w1,w2,w3,w4,Vd (K+2) aB,Vd (K+3) aB,Qj,aus,hm,hb];rw[bC aB aB,asb hn,List.take_add_one,hn,Option.toList_some,ZW,Ap];have e2:oU (k+(wK (l.take i):Int)) [n]=[mkNode K n]:=by rw[hK];rfl
   have e3:aW true [mkNode K n]=[[D.int .i64 K,.int .i64 (K+1),.str (mk (K+2)),.str (mk (K+3)),.sl true 1 (encI (Gi (K+4) n.kids.length))]]:=rfl;rw[e2,e3,Nu];congr 3;omega)
  (by simp only[M.Fg,M.zU,List.take_length,List.drop_length];have hlen:decide ((l.length:Int)<((aW true (oU k l)++aW true []).length:Int))=false:=zD (by rw[Au,fV,JU];simp[aW]);rw[hlen,aX];simp[aW]) 0 (Nat.zero_le _)
 have e0:aW true (oU k (l.take 0))++aW true (l.drop 0)=aW true l:=by simp[oU,aW]
 have e1:k+(wK (l.take 0):Int)=k:=by simp[wK]
 rw[e0,e1,adk] at hloop;rw[M.Je,hloop,aj]
def adl:∀l:List Nd,Jk (aW true l)=true
 |[]=>rfl
 |n::l=>by have:aW true (n::l)=adV true n::aW true l:=rfl;rw[this,Jk,adl l];simp[adV,yU,D.pure]
def aut(l:List Nd):[[D.sl true 5 (aW true l)]].all yU=true:=by simp[yU,D.pure,adl]
structure Ps where
 level:Int
 aDD:Bool
 aRF:Bool
 aRG:Bool
 aDE:Bool
 deriving DecidableEq,Inhabited
def Ps.zero:Ps:=⟨0,false,false,false,false⟩
def Gv(op:Int):Int:=bif op==44 then 3 else bif op==45 then 4 else bif op==67||op==46 then 6 else
 bif op==63||(op==48||(op==47||(op==50||(op==62||op==49)))) then 7 else bif op==99 then 8 else bif op==55||op==56 then 9 else
 bif op==57||(op==58||op==59) then 10 else bif op==60 then 12 else 0
structure Cnt(k op:Int)(y:aJ)(n:Nat):Prop where
 one:k=6\/k=9\/k=10\/k=11\/k=20\/k=32\/k=40\/k=41->n=1
 two:k=12\/k=15\/k=29\/k=30->n=2
 some_:k=5\/k=13\/k=44->1<=n
 three:k=14->n=3
 four:k=31->n=4
 cnd:k=28->n=2\/n=3
 prn:k=21->(op=0\/op=1)/\(y≠[]->1<=n)
 wrd:k=23\/k=24->n<=1
 non:k=1\/k=2\/k=3\/k=4\/k=16\/k=22\/k=25\/k=26\/k=34->n=0
 rule:k=42->(op=1/\n=1)\/(op=2/\n=1)\/(op=3/\n=2)
 range:k=43->(op=1/\n=2)\/(op=3/\n=3)
 few:k≠33->k≠45->n<=7
 bin:k=12->Gv op≠0/\op≠61
 asg:k=15->op=54\/(38<=op/\op<=43)
 stp:k=9\/k=10->op=51\/op=52
 una:k=11->op=55\/op=56\/op=61
def cls(k op:Int)(n j:Nat):Nat:=
 if k=9\/k=10\/(k=15/\j=0) then 6 else if k=28\/k=29 then(if j=0 then 0 else 1) else if k=30 then(if j=0 then 1 else 0) else
 if k=31 then(if j<3 then 3 else 1) else if k=32\/k=40\/k=41 then 1 else if k=33 then 2 else if k=42 then(if op=2\/(op=3/\j+1=n) then 1 else 0) else
 if k=43 then(if j=2 then 1 else 0) else if k=44 then(if j+1=n then 1 else 4) else if k=45 then 5 else 0
def aLM(c:Nat)(d:Int):Prop:=match c with
 |0=>1<=d/\d<=15
 |1=>d=33
 |2=>20<=d/\d<=34
 |3=>d=16\/(1<=d/\d<=15)
 |4=>d=1
 |5=>(40<=d/\d<=44)\/d=34
 |_=>d=1\/d=5\/d=6
def aDF(k:Int):Prop:=(1<=k/\k<=16)\/(20<=k/\k<=34)\/(40<=k/\k<=45)
mutual
def okT:Tn->Prop
 | .mk k op x y ks=>aDF k/\Cnt k op y ks.length/\oks k op ks.length ks 0
def oks(k op:Int)(n:Nat):List Tn->Nat->Prop
 |[],_=>True
 |t::ts,j=>aLM (cls k op n j) t.kind/\(okT t)/\oks k op n ts (j+1)
end
inductive PR(α:Type) where
 |ok (a:α) (i:Nat) (nt:List (aJ))
 |bad (i:Nat)
 |out
def PR.bind{α β:Type}(x:PR α)(f:α->Nat->List (aJ)->PR β):PR β:=match x with
 | .ok a i nt=>f a i nt
 | .bad i=> .bad i
 | .out=> .out
abbrev gY:=List (aJ)
def bD(l:List Tk)(i:Nat):Int:=match l[i]? with|some t=>t.kind|none=>0
def Bo(l:List Tk)(i:Nat):aJ:=match l[i]? with|some t=>t.text|none=>[]
def iZ(l:List Tk)(k:Int)(i:Nat)(nt:gY):PR Unit:=bif bD l i==k then .ok () (i+1) nt else .bad i
def nameP(l:List Tk)(i:Nat)(nt:gY):PR (aJ):=bif bD l i==6 then .ok (Bo l i) (i+1) nt else .bad i
def nlR:List Tk->Nat->gY->Nat×gY
 |[],i,nt=>(i,nt)
 |t::r,i,nt=>bif t.kind==1 then nlR r (i+1) nt else bif t.kind==2 then nlR r (i+1) (nt++[t.text]) else(i,nt)
def nl(l:List Tk)(i:Nat)(nt:gY):Nat×gY:=nlR (l.drop i) i nt
def aaN:List Tk->Nat->gY->Nat×gY
 |[],i,nt=>(i,nt)
 |t::r,i,nt=>bif t.kind==1||t.kind==37 then aaN r (i+1) nt else bif t.kind==2 then aaN r (i+1) (nt++[t.text]) else(i,nt)
def sep(l:List Tk)(i:Nat)(nt:gY):Nat×gY:=aaN (l.drop i) i nt
def Xw(k:Int):Bool:=k==32||(k==34||k==30)
def VB(k:Int):Bool:=k==33||(k==35||k==31)
def ahead:List Tk->Int->Bool
 |[],_=>false
 |t::r,d=>bif Xw t.kind then ahead r (d+1) else bif VB t.kind then(bif decide (d - 1<=0) then false else ahead r (d - 1)) else
   bif t.kind==36 && d==1 then true else bif decide (d<=0) then false else ahead r d
def isStep(k:Int):Bool:=k==51||k==52
def aqK(k:Int):Bool:=k==3||(k==4||(k==6||(k==7||(k==8||(k==32||k==68)))))
abbrev Xp:=Tn×Bool
def tgt(x:Xp):Bool:= !x.2 && aqG x.1.kind
def agd(k:Int)(l:List Tk)(i:Nat)(nt:gY):PR Xp:=.ok (.mk k 0 (Bo l i) [] [],false) (i+1) nt
def Df(lv:Nat)(b:Bool)(k:Int):Bool:=bif Nat.beq lv 8 then aqK k else Gv k==(lv:Int) && !(b && k==62)
mutual
def ex(l:List Tk):Nat->Nat->Bool->Bool->Nat->gY->PR Xp
 |0,_,_,_,_,_=> .out
 |n+1,lv,a,b,i,nt=>match lv with
  |1=>(ex l n 2 a b i nt).bind λx i nt=>bif tgt x && aiQ (bD l i) then(ex l n 1 a b (i+1) nt).bind λy j nt=> .ok (.mk 15 (bD l i) [] [] [x.1,y.1],false) j nt else .ok x i nt
  |2=>(ex l n 3 a b i nt).bind λx i nt=>bif bD l i==65 then(ex l n 2 a b (i+1) nt).bind λy i nt=>(iZ l 66 i nt).bind λ_ i nt=>(ex l n 2 a b i nt).bind λz i nt=>.ok (.mk 14 0 [] [] [x.1,y.1,z.1],false) i nt else .ok x i nt
  |3=>(ex l n 4 a b i nt).bind λx i nt=>chP l n 3 a b x i nt
  |4=>(ex l n 5 a b i nt).bind λx i nt=>chP l n 4 a b x i nt
  |5=>bif(bD l i==32 && !a) && ahead (l.drop i) 0 then
    (Rz l n 33 (i+1) nt).bind λL i nt=>(iZ l 24 i nt).bind λ_ i nt=>(nameP l i nt).bind λs i nt=>inP l n a (.mk 13 0 s [] L,false) i nt
   else(ex l n 6 a b i nt).bind λx i nt=>inP l n a x i nt
  |6=>(ex l n 7 a b i nt).bind λx i nt=>bif bD l i==67||bD l i==46 then(ex l n 7 a b (i+1) nt).bind λy j nt=> .ok (.mk 12 (bD l i) [] [] [x.1,y.1],false) j nt else .ok x i nt
  |7=>(ex l n 8 a b i nt).bind λx i nt=>bif Df 7 b (bD l i) then(ex l n 8 a b (i+1) nt).bind λy j nt=> .ok (.mk 12 (bD l i) [] [] [x.1,y.1],false) j nt else .ok x i nt
  |8=>(ex l n 9 a b i nt).bind λx i nt=>chP l n 8 a b x i nt
  |9=>(ex l n 10 a b i nt).bind λx i nt=>chP l n 9 a b x i nt
  |10=>(ex l n 11 a b i nt).bind λx i nt=>chP l n 10 a b x i nt
  |11=>bif bD l i==55||(bD l i==56||bD l i==61) then(ex l n 11 a b (i+1) nt).bind λx j nt=> .ok (.mk 11 (bD l i) [] [] [x.1],false) j nt
   else ex l n 12 a b i nt
  |12=>(ex l n 13 a b i nt).bind λx i nt=>bif bD l i==60 then(ex l n 11 a b (i+1) nt).bind λy j nt=> .ok (.mk 12 60 [] [] [x.1,y.1],false) j nt else .ok x i nt
  |13=>bif isStep (bD l i) then ZX l n i nt else(ex l n 14 a b i nt).bind λx i nt=>bif tgt x && isStep (bD l i) then .ok (.mk 10 (bD l i) [] [] [x.1],false) (i+1) nt else .ok x i nt
  |14=>bif bD l i==68 then
    (bif isStep (bD l (i+1)) then ZX l n (i+1) nt else ex l n 14 a b (i+1) nt).bind λx i nt=> .ok (.mk 6 0 [] [] [x.1],false) i nt
   else ex l n 15 a b i nt
  |_=>bif bD l i==3 then agd 2 l i nt else bif bD l i==4 then agd 3 l i nt else bif bD l i==5 then agd 4 l i nt else
   bif bD l i==6 then
    (bif bD l (i+1)==34 then(PU l n false false [] (i+2) nt).bind λL j nt=>(iZ l 35 j nt).bind λ_ j nt=> .ok (.mk 5 0 (Bo l i) [] L,false) j nt
     else agd 1 l i nt) else
   bif bD l i==7||bD l i==8 then
    (bif bD l i==8 &&(Bo l i==[108,101,110,103,116,104] && !(bD l (i+1)==32)) then agd 8 l i nt else
     (iZ l 32 (i+1) nt).bind λ_ j nt=>(Rz l n 33 j nt).bind λL j nt=> .ok (.mk (bD l i) 0 (Bo l i) [] L,false) j nt) else
   bif bD l i==32 then(ex l n 1 false false (i+1) nt).bind λx i nt=>(iZ l 33 i nt).bind λ_ i nt=> .ok (x.1,true) i nt else .bad i
def chP(l:List Tk):Nat->Nat->Bool->Bool->Xp->Nat->gY->PR Xp
 |0,_,_,_,_,_,_=> .out
 |n+1,lv,a,b,x,i,nt=>bif Df lv (b && Nat.beq lv 7) (bD l i) then
   (let op:=bif Nat.beq lv 8 then 99 else bD l i
    let q:=bif Nat.beq lv 8 then(i,nt) else bif Nat.ble lv 4 then nl l (i+1) nt else(i+1,nt)
    (ex l n (lv+1) a b q.1 q.2).bind λy i nt=>chP l n lv a b (.mk 12 op [] [] [x.1,y.1],false) i nt)
  else .ok x i nt
def inP(l:List Tk):Nat->Bool->Xp->Nat->gY->PR Xp
 |0,_,_,_,_=> .out
 |n+1,a,x,i,nt=>bif bD l i==24 && !a then(nameP l (i+1) nt).bind λs i nt=>inP l n a (.mk 13 0 s [] [x.1],false) i nt else .ok x i nt
def ZX(l:List Tk):Nat->Nat->gY->PR Xp
 |0,_,_=> .out
 |n+1,i,nt=>bif bD l (i+1)==68||bD l (i+1)==6 then(ex l n 14 false false (i+1) nt).bind λx j nt=> .ok (.mk 9 (bD l i) [] [] [x.1],false) j nt else .bad (i+1)
def Rz(l:List Tk):Nat->Int->Nat->gY->PR (List Tn)
 |0,_,_,_=> .out
 |n+1,e,i,nt=>bif bD l i==e then .ok [] (i+1) nt else(PU l n false false [] i nt).bind λL i nt=>(iZ l e i nt).bind λ_ i nt=> .ok L i nt
def PU(l:List Tk):Nat->Bool->Bool->List Tn->Nat->gY->PR (List Tn)
 |0,_,_,_,_,_=> .out
 |n+1,a,b,L,i,nt=>(ex l n 1 a b i nt).bind λx i nt=>bif bD l i==36 then(bif Nat.beq (L.length+1) 6 then .bad i else PU l n a b (L++[x.1]) (nl l (i+1) nt).1 (nl l (i+1) nt).2) else .ok (L++[x.1]) i nt
end
def Gj(k:Int):Bool:=k==0||(k==1||(k==2||(k==37||k==31)))
def xY(k:Int):Bool:=k==62||(k==53||k==64)
def ES(nt:gY):List Tn:=nt.map λs=> .mk 34 0 s [] []
def endP{α:Type}(l:List Tk)(x:α)(i:Nat)(nt:gY):PR α:=bif Gj (bD l i) then .ok x i nt else .bad i
def Ve(l:List Tk)(n i:Nat)(nt:gY):PR Tn:=(iZ l 32 i nt).bind λ_ i nt=>(ex l n 1 false false i nt).bind λx i nt=>(iZ l 33 i nt).bind λ_ i nt=> .ok x.1 i nt
def JV(l:List Tk)(n:Nat)(e:Int)(a:Bool)(i:Nat)(nt:gY):PR Tn:=bif bD l i==e then .ok (.mk 16 0 [] [] []) i nt else(ex l n 1 a false i nt).bind λx i nt=> .ok x.1 i nt
def agF(l:List Tk)(n i:Nat)(nt:gY):PR Tn:=
 (bif bD l i==26|| !(Gj (bD l (i+1))||xY (bD l (i+1))) then PU l n false true [] (i+1) nt else .ok [] (i+1) nt).bind λL j nt=>
  bif xY (bD l j) then(ex l n 9 false false (j+1) nt).bind λx k nt=> .ok (.mk 21 (bD l i - 25) [] (Bo l j) (L++[x.1])) k nt
  else .ok (.mk 21 (bD l i - 25) [] [] L) j nt
def aco(l:List Tk)(n:Nat)(k:Int)(i:Nat)(nt:gY):PR Tn:=
 bif Gj (bD l (i+1)) then .ok (.mk k 0 [] [] []) (i+1) nt else(ex l n 1 false false (i+1) nt).bind λx i nt=> .ok (.mk k 0 [] [] [x.1]) i nt
def ame(l:List Tk)(n i:Nat)(nt:gY):PR Tn:=(nameP l (i+1) nt).bind λs i nt=>bif bD l i==34 then(PU l n false false [] (i+1) nt).bind λL i nt=>(iZ l 35 i nt).bind λ_ i nt=> .ok (.mk 27 0 s [] L) i nt else .ok (.mk 27 0 s [] []) i nt
def ajN(l:List Tk)(n i:Nat)(nt:gY):PR Tn:=
 bif bD l i==25||bD l i==26 then agF l n i nt else bif bD l i==20 then .ok (.mk 22 0 [] [] []) (i+1) nt else bif bD l i==18 then .ok (.mk 25 0 [] [] []) (i+1) nt else
 bif bD l i==19 then .ok (.mk 26 0 [] [] []) (i+1) nt else bif bD l i==21 then aco l n 23 i nt else bif bD l i==22 then aco l n 24 i nt else
 bif bD l i==23 then ame l n i nt else(ex l n 1 false false i nt).bind λx i nt=> .ok (.mk 20 0 [] [] [x.1]) i nt
mutual
def stP(l:List Tk):Nat->Nat->gY->PR Tn
 |0,_,_=> .out
 |n+1,i,nt=>
  bif bD l i==30 then Lu l n i nt else
  bif bD l i==13 then(Ve l n (i+1) nt).bind λx i nt=>(Dh l n i nt).bind λy i nt=>
   (let q:=sep l i nt
    bif bD l q.1==14 then(Dh l n (q.1+1) q.2).bind λz i nt=> .ok (.mk 28 0 [] [] [x,y,z]) i nt else .ok (.mk 28 0 [] [] [x,y]) i nt) else
  bif bD l i==15 then(Ve l n (i+1) nt).bind λx i nt=>(Dh l n i nt).bind λy i nt=> .ok (.mk 29 0 [] [] [x,y]) i nt else
  bif bD l i==17 then(Dh l n (i+1) nt).bind λx i nt=>(iZ l 15 (sep l i nt).1 (sep l i nt).2).bind λ_ i nt=>(Ve l n i nt).bind λy i nt=>endP l (.mk 30 0 [] [] [x,y]) i nt else
  bif bD l i==16 then(iZ l 32 (i+1) nt).bind λ_ i nt=>
   (bif bD l i==6 && bD l (i+1)==24 then(nameP l (i+2) nt).bind λs j nt=>(iZ l 33 j nt).bind λ_ j nt=>(Dh l n j nt).bind λy j nt=> .ok (.mk 32 0 (Bo l i) s [y]) j nt
    else(JV l n 37 true i nt).bind λx i nt=>(iZ l 37 i nt).bind λ_ i nt=>(JV l n 37 false (nl l i nt).1 (nl l i nt).2).bind λy i nt=>
    (iZ l 37 i nt).bind λ_ i nt=>(JV l n 33 false (nl l i nt).1 (nl l i nt).2).bind λz i nt=>(iZ l 33 i nt).bind λ_ i nt=>
    (Dh l n i nt).bind λw i nt=> .ok (.mk 31 0 [] [] [x,y,z,w]) i nt) else
  (ajN l n i nt).bind λx i nt=>endP l x i nt
def Lu(l:List Tk):Nat->Nat->gY->PR Tn
 |0,_,_=> .out
 |n+1,i,nt=>(iZ l 30 i nt).bind λ_ i nt=>(X6 l n [] i nt).bind λL i nt=> .ok (.mk 33 0 [] [] L) i nt
def X6(l:List Tk):Nat->List Tn->Nat->gY->PR (List Tn)
 |0,_,_,_=> .out
 |n+1,L,i,nt=>
  (let q:=sep l i nt
   bif bD l q.1==31 then .ok (L++ES q.2) (q.1+1) [] else bif bD l q.1==0 then .bad q.1 else
   (stP l n q.1 []).bind λs i nt=>X6 l n ((L++ES q.2)++[s]) i nt)
def Dh(l:List Tk):Nat->Nat->gY->PR Tn
 |0,_,_=> .out
 |n+1,i,nt=>
  (let q:=nl l i nt
   bif bD l q.1==30 then Lu l n q.1 q.2 else bif bD l q.1==37 then .ok (.mk 33 0 [] [] (ES q.2)) (q.1+1) [] else
   (stP l n q.1 []).bind λs i nt=> .ok (.mk 33 0 [] [] (ES q.2++[s])) i nt)
end
def Gw(l:List Tk):Nat->List Tn->Nat->gY->PR (List Tn)
 |0,_,_,_=> .out
 |n+1,L,i,nt=>(nameP l i nt).bind λs i nt=>bif bD l i==36 then(bif Nat.beq (L.length+1) 6 then .bad i else Gw l n (L++[.mk 1 0 s [] []]) (nl l (i+1) nt).1 (nl l (i+1) nt).2) else .ok (L++[.mk 1 0 s [] []]) i nt
def amf(l:List Tk)(n i:Nat)(nt:gY):PR Tn:=
 bif bD l i==6||bD l i==7 then
  (iZ l 32 (i+1) nt).bind λ_ j nt=>(bif bD l j==33 then .ok [] j nt else Gw l n [] j nt).bind λL j nt=>(iZ l 33 j nt).bind λ_ j nt=>(Lu l n (nl l j nt).1 (nl l j nt).2).bind λb j nt=> .ok (.mk 44 0 (Bo l i) [] (L++[b])) j nt
 else .bad i
def WC(l:List Tk)(n i:Nat)(nt:gY):PR Tn:=
 bif bD l i==10 then(Lu l n (i+1) nt).bind λb i nt=> .ok (.mk 40 0 [] [] [b]) i nt else
 bif bD l i==11 then(Lu l n (i+1) nt).bind λb i nt=> .ok (.mk 41 0 [] [] [b]) i nt else
 bif bD l i==12 then amf l n (i+1) nt else
 bif bD l i==30 then(Lu l n i nt).bind λb i nt=> .ok (.mk 42 2 [] [] [b]) i nt else
 (ex l n 1 false false i nt).bind λx i nt=>(bif bD l i==36 then(ex l n 1 false false (nl l (i+1) nt).1 (nl l (i+1) nt).2).bind λy i nt=> .ok (43,[x.1,y.1]) i nt else .ok (42,[x.1]) i nt:PR (Int×List Tn)).bind λq i nt=>bif bD l i==30 then(Lu l n i nt).bind λb i nt=> .ok (.mk q.1 3 [] [] (q.2++[b])) i nt else endP l (.mk q.1 1 [] [] q.2) i nt
def Vf(l:List Tk):Nat->List Tn->Nat->gY->PR (List Tn)
 |0,_,_,_=> .out
 |n+1,L,i,nt=>
  (let q:=sep l i nt
   bif bD l q.1==0 then .ok (L++ES q.2) q.1 [] else bif bD l q.1==31 then .bad q.1 else
   (WC l n q.1 []).bind λs i nt=>Vf l n ((L++ES q.2)++[s]) i nt)
def PR.sat{α:Type}(P:α->Nat->gY->Prop)(x:PR α):Prop:=match x with
 | .ok a i nt=>P a i nt
 |_=>True
def PR.tot{α:Type}(P:α->Nat->gY->Prop)(x:PR α):Prop:=match x with
 | .ok a i nt=>P a i nt
 | .bad _=>True
 | .out=>False
section
variable {α β:Type} {P Q:α->Nat->gY->Prop} {R:β->Nat->gY->Prop} {x y:PR α} {f:α->Nat->gY->PR β} {c:Bool}
def fK:(x.bind f).tot R↔x.tot λa i nt=>(f a i nt).tot R:=by cases x<;>exact Iff.rfl
def cO(h:x.tot P)(k:∀a i nt,P a i nt->Q a i nt):x.tot Q:=by
 cases x with
 |ok a i nt=>exact k a i nt h
 |bad _=>trivial
 |out=>exact h
def fD:(bif c then x else y).tot P↔(c=true->x.tot P)/\(c=false->y.tot P):=by cases c<;>simp
def aRH{a:α}{i:Nat}{nt:gY}:(PR.ok a i nt).tot P↔P a i nt:=Iff.rfl
def aMy{i:Nat}:(PR.bad i:PR α).tot P↔True:=Iff.rfl
end
variable {l:List Tk}
def dV{i:Nat}(h:bD l i≠0):i<l.length:=by
 unfold bD at h;cases hq:l[i]? with
 |none=>rw[hq] at h;exact absurd rfl h
 |some t=>exact(VG.1 hq).1
def ED{P:Unit->Nat->gY->Prop}{k:Int}{i:Nat}{nt:gY}:(iZ l k i nt).tot P↔(bD l i=k->P () (i+1) nt):=by unfold iZ;rw[fD];simp[PR.tot]
def ZY{P:aJ->Nat->gY->Prop}{i:Nat}{nt:gY}:(nameP l i nt).tot P↔(bD l i=6->P (Bo l i) (i+1) nt):=by unfold nameP;rw[fD];simp[PR.tot]
def amg:∀(r:List Tk) (i:Nat) (nt:gY),i<=(nlR r i nt).1
 |[],i,nt=>by rw[nlR];exact zaO _
 |t::r,i,nt=>by
  rw[nlR];cases t.kind==1<;>cases t.kind==2<;>simp only[aI,aX]
  ·exact zaO _
  ·have:=amg r (i+1) (nt++[t.text]);omega
  ·have:=amg r (i+1) nt;omega
  ·have:=amg r (i+1) nt;omega
def agf(i:Nat)(nt:gY):i<=(nl l i nt).1:=amg _ _ _
def ag0:∀(r:List Tk) (i:Nat) (nt:gY),i<=(aaN r i nt).1
 |[],i,nt=>by rw[aaN];exact zaO _
 |t::r,i,nt=>by
  rw[aaN];cases(t.kind==1||t.kind==37)<;>cases t.kind==2<;>simp only[aI,aX]
  ·exact zaO _
  ·have:=ag0 r (i+1) (nt++[t.text]);omega
  ·have:=ag0 r (i+1) nt;omega
  ·have:=ag0 r (i+1) nt;omega
def amh(i:Nat)(nt:gY):i<=(sep l i nt).1:=ag0 _ _ _
structure Ends(l:List Tk)(n:Nat):Prop where
 ex:∀lv a b i nt,1<=lv->lv<=15->40 * (l.length - i)+(2 * (16 - lv)+2)<=n->(ex l n lv a b i nt).tot λ_ j _=>i<j
 ch:∀lv a b x i nt,3<=lv->lv<=10->40 * (l.length - i)+(2 * (16 - lv)+1)<=n->(chP l n lv a b x i nt).tot λ_ j _=>i<=j
 inp:∀a x i nt,40 * (l.length - i)+1<=n->(inP l n a x i nt).tot λ_ j _=>i<=j
 pre:∀i nt,i<l.length->40 * (l.length - i)+1<=n->(ZX l n i nt).tot λ_ j _=>i<j
 lst:∀e i nt,e≠0->40 * (l.length - i)+36<=n->(Rz l n e i nt).tot λ_ j _=>i<j
 it:∀a b L i nt,40 * (l.length - i)+35<=n->(PU l n a b L i nt).tot λ_ j _=>i<j
def aiW{k:Int}(h:aiQ k=true):k≠0:=by rintro rfl;exact absurd h (by decide)
def KU{k:Int}(h:isStep k=true):k≠0:=by rintro rfl;exact absurd h (by decide)
def KW{lv:Nat}{b:Bool}{k:Int}(h3:3<=lv)(h:Df lv b k=true):k≠0:=by
 rintro rfl;unfold Df at h;cases hb:Nat.beq lv 8 with
 |true=>rw[hb,aI] at h;exact absurd h (by decide)
 |false=>
  rw[hb,aX,Ji] at h;have h1:(0:Int)=(lv:Int):=by simpa[Gv] using h.1
  omega
section
variable {n:Nat} (h:Ends l n)
include h
theorem aAq(lv:Nat)(a b:Bool)(i:Nat)(nt:gY)(h1:1<=lv)(h2:lv<=15)(hn:40 * (l.length - i)+(2 * (16 - lv)+2)<=n+1):(ex l (n+1) lv a b i nt).tot λ_ j _=>i<j:=by
 have hlt:∀{j:Nat} {k:Int},(bD l j==k)=true->k≠0->j<l.length:=λe hk=>dV (by rw[beq_iff_eq] at e;rw[e];exact hk)
 have hc:lv=1\/lv=2\/lv=3\/lv=4\/lv=5\/lv=6\/lv=7\/lv=8\/lv=9\/lv=10\/lv=11\/lv=12\/lv=13\/lv=14\/lv=15:=aB;rcases hc with rfl|rfl|rfl|rfl|rfl|rfl|rfl|rfl|rfl|rfl|rfl|rfl|rfl|rfl|rfl<;>simp only[ex,fK]
 ·refine cO (h.ex 2 a b i nt aB aB aB) λx j m hj=> ?_
  rw[fD];refine⟨λhc=> ?_,λ_=>hj⟩;rw[Ji] at hc;have:=dV (aiW hc.2);rw[fK];exact cO (h.ex 1 a b (j+1) m aB aB aB) λy j' m' hj'=>(show i<j' by omega)
 ·refine cO (h.ex 3 a b i nt aB aB aB) λx j m hj=> ?_
  rw[fD];refine⟨λhc=> ?_,λ_=>hj⟩;have:=hlt hc (by decide);simp only[fK,ED];refine cO (h.ex 2 a b (j+1) m aB aB aB) λy j2 m2 hj2=>λhk=> ?_
  exact cO (h.ex 2 a b (j2+1) m2 aB aB aB) λz j3 m3 hj3=>(show i<j3 by omega)
 ·refine cO (h.ex 4 a b i nt aB aB aB) λx j m hj=> ?_
  exact cO (h.ch 3 a b x j m aB aB aB) λy j' m' hj'=>(show i<j' by omega)
 ·refine cO (h.ex 5 a b i nt aB aB aB) λx j m hj=> ?_
  exact cO (h.ch 4 a b x j m aB aB aB) λy j' m' hj'=>(show i<j' by omega)
 ·rw[fD];refine⟨λhc=> ?_,λ_=> ?_⟩
  ·rw[Ji,Ji] at hc;have:=hlt hc.1.1 (by decide);simp only[fK,ED,ZY];refine cO (h.lst 33 (i+1) nt (by decide) aB) λL j m hj=>λh24 h6=> ?_
   have:=dV (l:=l) (i:=j) (by rw[h24];decide);exact cO (h.inp a _ (j+1+1) m aB) λy j' m' hj'=>(show i<j' by omega)
  ·rw[fK];refine cO (h.ex 6 a b i nt aB aB aB) λx j m hj=> ?_
   exact cO (h.inp a x j m aB) λy j' m' hj'=>(show i<j' by omega)
 ·refine cO (h.ex 7 a b i nt aB aB aB) λx j m hj=> ?_
  rw[fD];refine⟨λhc=> ?_,λ_=>hj⟩;have:j<l.length:=by rw[Bool.or_eq_true] at hc;rcases hc with hc|hc<;>exact hlt hc (by decide)
  rw[fK];exact cO (h.ex 7 a b (j+1) m aB aB aB) λy j' m' hj'=>(show i<j' by omega)
 ·refine cO (h.ex 8 a b i nt aB aB aB) λx j m hj=> ?_
  rw[fD];refine⟨λhc=> ?_,λ_=>hj⟩;have:=dV (KW aB hc);rw[fK];exact cO (h.ex 8 a b (j+1) m aB aB aB) λy j' m' hj'=>(show i<j' by omega)
 ·refine cO (h.ex 9 a b i nt aB aB aB) λx j m hj=> ?_
  exact cO (h.ch 8 a b x j m aB aB aB) λy j' m' hj'=>(show i<j' by omega)
 ·refine cO (h.ex 10 a b i nt aB aB aB) λx j m hj=> ?_
  exact cO (h.ch 9 a b x j m aB aB aB) λy j' m' hj'=>(show i<j' by omega)
 ·refine cO (h.ex 11 a b i nt aB aB aB) λx j m hj=> ?_
  exact cO (h.ch 10 a b x j m aB aB aB) λy j' m' hj'=>(show i<j' by omega)
 ·rw[fD];refine⟨λhc=> ?_,λ_=>h.ex 12 a b i nt aB aB aB⟩;have:i<l.length:=by simp only[Bool.or_eq_true] at hc;rcases hc with hc|hc|hc<;>exact hlt hc (by decide)
  rw[fK];exact cO (h.ex 11 a b (i+1) nt aB aB aB) λy j' m' hj'=>(show i<j' by omega)
 ·refine cO (h.ex 13 a b i nt aB aB aB) λx j m hj=> ?_
  rw[fD];refine⟨λhc=> ?_,λ_=>hj⟩;have:=hlt hc (by decide);rw[fK];exact cO (h.ex 11 a b (j+1) m aB aB aB) λy j' m' hj'=>(show i<j' by omega)
 ·rw[fD];refine⟨λhc=> ?_,λ_=> ?_⟩
  ·have:=dV (KU hc);exact h.pre i nt this aB
  ·rw[fK];refine cO (h.ex 14 a b i nt aB aB aB) λx j m hj=> ?_
   rw[fD];exact⟨λ_=>(show i<j+1 by omega),λ_=>hj⟩
 ·rw[fD];refine⟨λhc=> ?_,λ_=>h.ex 15 a b i nt aB aB aB⟩;have:=hlt hc (by decide);rw[fK,fD];refine⟨λhs=> ?_,λ_=> ?_⟩
  ·have:=dV (KU hs);exact cO (h.pre (i+1) nt this aB) λx j m hj=>(show i<j by omega)
  ·exact cO (h.ex 14 a b (i+1) nt aB aB aB) λx j m hj=>(show i<j by omega)
 ·have Z4:∀k,(agd k l i nt).tot λ_ j _=>i<j:=λk=>(show i<i+1 by omega)
  rw[fD];refine⟨λ_=>Z4 2,λ_=> ?_⟩;rw[fD];refine⟨λ_=>Z4 3,λ_=> ?_⟩;rw[fD];refine⟨λ_=>Z4 4,λ_=> ?_⟩;rw[fD];refine⟨λhc=> ?_,λ_=> ?_⟩
  ·rw[fD];refine⟨λhd=> ?_,λ_=>Z4 1⟩;have:=hlt hd (by decide);simp only[fK,ED];exact cO (h.it false false [] (i+2) nt aB) λL j m hj=>λ_=>(show i<j+1 by omega)
  rw[fD];refine⟨λhc=> ?_,λ_=> ?_⟩
  ·have:i<l.length:=by rw[Bool.or_eq_true] at hc;rcases hc with hc|hc<;>exact hlt hc (by decide)
   rw[fD];refine⟨λ_=>Z4 8,λ_=> ?_⟩;simp only[fK,ED];intro h32;have:=dV (l:=l) (i:=i+1) (by rw[h32];decide);exact cO (h.lst 33 (i+1+1) nt (by decide) aB) λL j m hj=>(show i<j by omega)
  rw[fD];refine⟨λhc=> ?_,λ_=>trivial⟩;have:=hlt hc (by decide);simp only[fK,ED];exact cO (h.ex 1 false false (i+1) nt aB aB aB) λx j m hj=>λ_=>(show i<j+1 by omega)
theorem aAr(lv:Nat)(a b:Bool)(x:Xp)(i:Nat)(nt:gY)(h3:3<=lv)(h10:lv<=10)(hn:40 * (l.length - i)+(2 * (16 - lv)+1)<=n+1):(chP l (n+1) lv a b x i nt).tot λ_ j _=>i<=j:=by
 rw[chP,fD];refine⟨λhc=> ?_,λ_=>zaO i⟩;have hlt:=dV (KW h3 hc);simp only;cases h8:Nat.beq lv 8 with
 |true=>
  have:=Dl h8;subst this;simp only[aI,fK];refine cO (h.ex 9 a b i nt aB aB aB) λy j m hj=> ?_
  exact cO (h.ch 8 a b _ j m aB aB aB) λy j' m' hj'=>(show i<=j' by omega)
 |false=>
  simp only[aX];cases h4:Nat.ble lv 4 with
  |true=>
   simp only[aI,fK];have hg:=agf (l:=l) (i+1) nt;refine cO (h.ex (lv+1) a b _ _ aB aB aB) λy j m hj=> ?_
   exact cO (h.ch lv a b _ j m aB aB aB) λy j' m' hj'=>(show i<=j' by omega)
  |false=>
   simp only[aX,fK];refine cO (h.ex (lv+1) a b (i+1) nt aB aB aB) λy j m hj=> ?_
   exact cO (h.ch lv a b _ j m aB aB aB) λy j' m' hj'=>(show i<=j' by omega)
theorem axV(a:Bool)(x:Xp)(i:Nat)(nt:gY)(hn:40 * (l.length - i)+1<=n+1):(inP l (n+1) a x i nt).tot λ_ j _=>i<=j:=by rw[inP,fD];refine⟨λhc=> ?_,λ_=>zaO i⟩;rw[Ji] at hc;have:i<l.length:=dV (by have:=hc.1;rw[beq_iff_eq] at this;rw[this];decide);rw[fK,ZY];intro h6;exact cO (h.inp a _ (i+1+1) nt aB) λy j' m' hj'=>(show i<=j' by omega)
theorem axW(i:Nat)(nt:gY)(hi:i<l.length)(hn:40 * (l.length - i)+1<=n+1):(ZX l (n+1) i nt).tot λ_ j _=>i<j:=by rw[ZX,fD];refine⟨λhc=> ?_,λ_=>trivial⟩;rw[fK];exact cO (h.ex 14 false false (i+1) nt aB aB aB) λy j' m' hj'=>(show i<j' by omega)
theorem axX(e:Int)(i:Nat)(nt:gY)(he:e≠0)(hn:40 * (l.length - i)+36<=n+1):(Rz l (n+1) e i nt).tot λ_ j _=>i<j:=by rw[Rz,fD];refine⟨λhc=>(show i<i+1 by omega),λ_=> ?_⟩;simp only[fK,ED];exact cO (h.it false false [] i nt aB) λL j m hj=>λ_=>(show i<j+1 by omega)
theorem aAs(a b:Bool)(L:List Tn)(i:Nat)(nt:gY)(hn:40 * (l.length - i)+35<=n+1):(PU l (n+1) a b L i nt).tot λ_ j _=>i<j:=by
 rw[PU,fK];refine cO (h.ex 1 a b i nt aB aB aB) λx j m hj=> ?_
 rw[fD];refine⟨λhc=> ?_,λ_=>hj⟩;have:j<l.length:=dV (by rw[beq_iff_eq] at hc;rw[hc];decide);rw[fD];refine⟨λ_=>trivial,λ_=> ?_⟩;have hg:=agf (l:=l) (j+1) m;exact cO (h.it a b _ _ _ aB) λy j' m' hj'=>(show i<j' by omega)
end
def acp(l:List Tk):∀n,Ends l n
 |0=>⟨λlv a b i nt h1 h2 hn=>by omega,λlv a b x i nt h1 h2 hn=>by omega,λa x i nt hn=>by omega,λi nt h hn=>by omega,λe i nt he hn=>by omega,λa b L i nt hn=>by omega⟩
 |n+1=>have h:=acp l n
  ⟨aAq h,aAr h,axV h,axW h,axX h,aAs h⟩
end Go.Proofs.YtoaeipkhadpbiaaGreatDoor
