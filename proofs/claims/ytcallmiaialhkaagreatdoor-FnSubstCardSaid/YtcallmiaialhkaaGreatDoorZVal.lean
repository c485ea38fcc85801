import Derived.Test.YtcallmiaialhkaaGreatDoorPForms2
import Derived.Test.YtcallmiaialhkaaGreatDoorVm4
import Derived.Lib.IndexLaws
set_option linter.defProp false
namespace Go.Proofs.YtcallmiaialhkaaGreatDoor
set_option linter.unusedVariables false
set_option linter.unusedSimpArgs false
set_option linter.unusedSectionVars false
open Go Go.Vm
open Go.IntKind (i64)
open Int (reduceLE reduceLT reduceSub reduceAdd)
def bH:(∀a b:Int,(a>=b)=(b<=a))/\(∀a b:Int,(a>b)=(b<a))/\(∀h:Decidable True,@decide True h=true)/\(∀h:Decidable False,@decide False h=false)/\(∀(α:Type) (a b:α),cond true a b=a)/\(∀(α:Type) (a b:α),cond false a b=b)/\(∀b:Bool,(b && true)=b)/\(∀b:Bool,(b && false)=false)/\(∀b:Bool,(true && b)=b)/\(∀b:Bool,(false && b)=false)/\((!true)=false)/\((!false)=true):=
 ⟨λ_ _=>rfl,λ_ _=>rfl,λh=>@decide_eq_true True h trivial,λh=>@decide_eq_false False h id,λ_ _ _=>rfl,λ_ _ _=>rfl,λb=>by cases b<;>rfl,λb=>by cases b<;>rfl,λ_=>rfl,λ_=>rfl,rfl,rfl⟩
def dV{m n:Nat}(h:m<=n):m.ble n=true:=Nat.ble_eq_true_of_le h
def aj{α β:Type}(a:α)(f:α->Option β):(some a).bind f=f a:=rfl
def QK:((0:Nat):Int)=0:=rfl
def Gx(s:aT)(a:Int):Int:=if 0<=a then(match s[a.toNat]? with|some c=>(c.toNat:Int)|none=> -1) else -1
def isD(b:Int):Bool:=decide (b>=48) && decide (b<=57)
def BA(s:aT)(a:Int):Int:=if 0<=a then a+(((s.drop a.toNat).takeWhile λc=>isD (c.toNat:Int)).length:Nat) else a
def adD(c:UInt8):c.toNat<256:=c.toNat_lt
def Iu(s:aT)(i:Nat):Gx s (i:Int)=(match s[i]? with|some c=>(c.toNat:Int)|none=> -1):=by rw[Gx,if_pos au,Qi]
section
variable {s:aT} (h:s.length<=1048576)
include h
theorem Dp(a:Int):M.dh s a=some (Gx s a):=by
 simp only[M.dh,M.ER]
 by_cases h0:a<0
 ·rw[zdt h0,bZ,Gx,if_neg au]
 ·rw[pX h0,dX];obtain⟨i,rfl⟩:∃i:Nat,a=i:=⟨a.toNat,au⟩
  rw[Iu]
  by_cases h1:(i:Int)>=(s.length:Int)
  ·rw[zdt h1,bZ,List.getElem?_eq_none au]
  ·obtain⟨c,hc⟩:∃c,s[i]? =some c:=⟨s[i]'au,by simp⟩
   have:=adD c;rw[pX h1,dX,bT,hc,aj,aB au au]
theorem Dq(a:Int):M.iq s a=some (Gx s a):=by
 simp only[M.iq,M.EH,M.aQ,M.oV];rw[aB au au]
 by_cases h0:a<0
 ·rw[pX au,dX,aj,Bool.not_false,bZ,Gx,if_neg au]
 ·rw[zdt au,bZ,aj];obtain⟨i,rfl⟩:∃i:Nat,a=i:=⟨a.toNat,au⟩
  rw[Iu]
  by_cases h1:(i:Int)>=(s.length:Int)
  ·rw[pX au,Bool.not_false,bZ,List.getElem?_eq_none au]
  ·obtain⟨c,hc⟩:∃c,s[i]? =some c:=⟨s[i]'au,by simp⟩
   have:=adD c;rw[zdt au,zau,dX,bT,hc,aj,aB au au]
end
def aaS(b:Int):M.mQ b=some (isD b):=by simp only[M.mQ,M.CW,M.bK,M.qY,isD];cases decide (b>=48)<;>rfl
def aaT(b:Int):M.mM b=some (isD b):=by simp only[M.mM,M.Cm,isD];cases decide (b>=48)<;>rfl
def alD{s:aT}{b:Int->Option (Int⊕Int)}(hb:∀a,0<=a->a<=2000000->b a=some (bif isD (Gx s a) then .inl (a+1) else .inr a))(h:s.length<=1048576):
  ∀(rest pre:aT),s=pre++rest->fG b (pre.length:Int)=some ((pre.length:Int)+((rest.takeWhile λc=>isD (c.toNat:Int)).length:Nat))
 |[],pre,e=>by
  have hl:pre.length=s.length:=by rw[e];simp
  refine dJ ?_;rw[hb _ au au,Iu,List.getElem?_eq_none au];simp[isD]
 |c::rest,pre,e=>by
  have hl:s.length=pre.length+(rest.length+1):=by rw[e];simp
  have hget:s[pre.length]? =some c:=by rw[e,List.getElem?_append_right (zav _),Nat.sub_self];rfl
  have hs:=hb (pre.length:Int) au au;rw[Iu,hget] at hs;simp only at hs;cases hd:isD (c.toNat:Int) with
  |true=>have:=alD hb h rest (pre++[c]) (by rw[e];simp);rw[ZP,QX] at this;rw[hd,bZ] at hs;rw[iD hs,List.takeWhile_cons,if_pos hd,show(pre.length:Int)+1=((pre.length+1:Nat):Int) by omega,this];simp;omega
  |false=>rw[hd,dX] at hs;rw[dJ hs,List.takeWhile_cons,hd];simp
def agW{s:aT}{b:Int->Option (Int⊕Int)}(hb:∀a,0<=a->a<=2000000->b a=some (bif isD (Gx s a) then .inl (a+1) else .inr a))(h:s.length<=1048576)(a:Int)(h0:0<=a)(h1:a<=2000000):fG b a=some (BA s a):=by
 obtain⟨i,rfl⟩:∃i:Nat,a=i:=⟨a.toNat,au⟩
 rw[BA,if_pos h0,Qi]
 by_cases hi:i<=s.length
 ·have:=alD hb h (s.drop i) (s.take i) (List.take_append_drop i s).symm;rw[MW,Nat.min_eq_left hi] at this;exact this
 ·rw[List.drop_eq_nil_of_le au];refine dJ ?_;rw[hb _ h0 h1,Iu,List.getElem?_eq_none au];simp[isD]
def J3{s:aT}(h:s.length<=1048576){a:Int}(h0:0<=a):a<=BA s a/\(BA s a<=a\/BA s a<=s.length):=by have h1:=(List.takeWhile_sublist (p:=λc:UInt8=>isD (c.toNat:Int)) (l:=s.drop a.toNat)).length_le;rw[List.length_drop] at h1;rw[BA,if_pos h0];omega
section
variable {s:aT} (h:s.length<=1048576)
include h
theorem uD(a:Int)(h0:0<=a)(h1:a<=2000000):M.aK s a=some (BA s a):=by simp only[M.aK,M.AA,M.zC];rw[agW (λa h0 h1=>by simp only[M.Hr,M.wu,Dp h,aaS,aj];rw[aB au au];cases isD (Gx s a)<;>rfl) h a h0 h1,aj]
theorem rG(a:Int)(h0:0<=a)(h1:a<=2000000):M.bU s a=some (BA s a):=by simp only[M.bU,M.zk,M.xG];rw[agW (λa h0 h1=>by simp only[M.F6,M.sK,Dq h,aaT,aj];rw[aB au au];cases isD (Gx s a)<;>rfl) h a h0 h1,aj]
end
def QL(s:aT)(r:Int):Int:=bif(Gx s r==101)||(Gx s r==69) then
  (bif(Gx s (r+1)==43)||(Gx s (r+1)==45) then(bif decide (BA s (r+1+1)>r+1+1) then BA s (r+1+1) else r) else(bif decide (BA s (r+1)>r+1) then BA s (r+1) else r)) else r
def VO(s:aT)(a:Int):Int:=if a<0\/(s.length:Int)<=a then -1 else
 bif Gx s (BA s a)==46 then(bif(BA s a==a) &&(BA s (BA s a+1)==BA s a+1) then -1 else QL s (BA s (BA s a+1))) else(bif BA s a==a then -1 else QL s (BA s a))
section
variable {s:aT} (h:s.length<=1048576)
include h
set_option maxHeartbeats 2000000 in
theorem VP(a:Int)(ha:a<=1048576):M.uU s a=some (VO s a):=by
 simp only[M.uU,M.EI,M.aQ,M.oV,VO];rw[aB au au]
 by_cases h0:a<0
 ·rw[pX au,dX,aj,Bool.not_false,bZ,if_pos (.inl h0)]
 ·rw[zdt au,bZ,aj]
  by_cases h1:(s.length:Int)<=a
  ·rw[pX au,Bool.not_false,bZ,if_pos (.inr h1)]
  ·rw[zdt au,zau,dX,if_neg au,rG h a au au,aj];have e1:=J3 h (a:=a) au;generalize hE:BA s a=e at e1|-;simp only[Dq h,aj];rw[aB (n:=e+1) au au,aB (n:=e - a) au au,rG h (e+1) au au,aj];have e2:=J3 h (a:=e+1) au;generalize hK:BA s (e+1)=k at e2|-;have hz:(i64.wrap (e - a+i64.wrap (i64.wrap (k - e) - 1))==0)=((e==a) &&(k==e+1)):=by rw[aB (n:=k - e) au au,aB (n:=k - e - 1) au au,aB au au,Bool.eq_iff_iff];simp only[su,beq_iff_eq];omega
   have hz2:(e - a==0)=(e==a):=by rw[Bool.eq_iff_iff];simp only[beq_iff_eq];omega
   rw[hz,hz2];have ex:∀r:Int,0<=r->r<=1048578->(bif Gx s r==101 then
      ((some (Gx s (i64.wrap (r+1)))).bind λasX=>
      (bif asX==43 then
       ((M.bU s (i64.wrap (i64.wrap (r+1)+1))).bind λasY=>
       (bif decide (asY>i64.wrap (i64.wrap (r+1)+1)) then(some asY) else(some r))) else
       (bif asX==45 then
       ((M.bU s (i64.wrap (i64.wrap (r+1)+1))).bind λajF=>(bif decide (ajF>i64.wrap (i64.wrap (r+1)+1)) then(some ajF) else(some r))) else
       ((M.bU s (i64.wrap (r+1))).bind λasZ=>(bif decide (asZ>i64.wrap (r+1)) then(some asZ) else(some r)))))) else
      (bif Gx s r==69 then
      ((some (Gx s (i64.wrap (r+1)))).bind λas1=>
       (bif as1==43 then
       ((M.bU s (i64.wrap (i64.wrap (r+1)+1))).bind λas2=>(bif decide (as2>i64.wrap (i64.wrap (r+1)+1)) then(some as2) else(some r))) else
       (bif as1==45 then
        ((M.bU s (i64.wrap (i64.wrap (r+1)+1))).bind λas3=>
        (bif decide (as3>i64.wrap (i64.wrap (r+1)+1)) then(some as3) else(some r))) else
        ((M.bU s (i64.wrap (r+1))).bind λajG=>(bif decide (ajG>i64.wrap (r+1)) then(some ajG) else(some r)))))) else(some r)))=some (QL s r):=by
    intro r h0 h1;rw[aB (n:=r+1) au au,aB (n:=r+1+1) au au,rG h (r+1) au au,rG h (r+1+1) au au,QL];simp only[aj];cases Gx s r==101<;>cases Gx s r==69<;>cases Gx s (r+1)==43<;>cases Gx s (r+1)==45<;>cases decide (BA s (r+1+1)>r+1+1)<;>cases decide (BA s (r+1)>r+1)<;>rfl
   simp only[aj] at ex;cases Gx s e==46 with
   |true=>
    simp only[bZ];cases(e==a) &&(k==e+1) with
    |true=>rfl
    |false=>simp only[dX];exact ex k au au
   |false=>
    simp only[dX];cases e==a with
    |true=>rfl
    |false=>simp only[dX];have h2:=ex e au au;rw[aB (n:=e+1) au au,rG h (e+1) au au,hK] at h2;simp only[aj] at h2;exact h2
theorem VQ(a:Int)(ha:a<=1048576):M.uZ s a=some (VO s a):=by
 simp only[M.uZ,M.ES,VO]
 by_cases h0:a<0
 ·rw[zdt h0,bZ,if_pos (.inl h0)]
 ·rw[pX h0,dX];have e1:=J3 h (a:=a) au;rw[uD h a au au,aj];simp only[Dp h,aj]
  by_cases h1:(s.length:Int)<=a
  ·have he:BA s a=a:=au;obtain⟨i,rfl⟩:∃i:Nat,a=i:=⟨a.toNat,au⟩
   have hb:Gx s (i:Int)= -1:=by rw[Iu,List.getElem?_eq_none au]
   rw[he,hb,if_pos (.inr h1),show((-1:Int)==46)=false from rfl,dX,beq_self_eq_true,bZ]
  ·rw[if_neg au];generalize hE:BA s a=e at e1|-;have e2:=J3 h (a:=e+1) au;rw[aB (n:=e+1) au au,uD h (e+1) au au,aj];have ex:∀r:Int,0<=r->r<=1048578->(bif Gx s r==101 then
      (bif Gx s (i64.wrap (r+1))==43 then
       ((M.aK s (i64.wrap (i64.wrap (r+1)+1))).bind λVs=>
        (bif decide (Vs>i64.wrap (i64.wrap (r+1)+1)) then
        ((M.aK s (i64.wrap (i64.wrap (r+1)+1))).bind λaeG=>(some aeG)) else(some r))) else
        (bif Gx s (i64.wrap (r+1))==45 then
        ((M.aK s (i64.wrap (i64.wrap (r+1)+1))).bind λaDI=>
         (bif decide (aDI>i64.wrap (i64.wrap (r+1)+1)) then
         ((M.aK s (i64.wrap (i64.wrap (r+1)+1))).bind λaeJ=>(some aeJ)) else(some r))) else
        ((M.aK s (i64.wrap (r+1))).bind λaeK=>(bif decide (aeK>i64.wrap (r+1)) then((M.aK s (i64.wrap (r+1))).bind λCb=>(some Cb)) else(some r))))) else
       (bif Gx s r==69 then
        (bif Gx s (i64.wrap (r+1))==43 then
        ((M.aK s (i64.wrap (i64.wrap (r+1)+1))).bind λZl=>
         (bif decide (Zl>i64.wrap (i64.wrap (r+1)+1)) then
         ((M.aK s (i64.wrap (i64.wrap (r+1)+1))).bind λaeI=>(some aeI)) else(some r))) else
         (bif Gx s (i64.wrap (r+1))==45 then
         ((M.aK s (i64.wrap (i64.wrap (r+1)+1))).bind λaix=>
          (bif decide (aix>i64.wrap (i64.wrap (r+1)+1)) then
          ((M.aK s (i64.wrap (i64.wrap (r+1)+1))).bind λaiy=>(some aiy)) else(some r))) else
         ((M.aK s (i64.wrap (r+1))).bind λaaN=>(bif decide (aaN>i64.wrap (r+1)) then((M.aK s (i64.wrap (r+1))).bind λacs=>(some acs)) else(some r))))) else(some r)))=some (QL s r):=by
    intro r h0 h1;rw[aB (n:=r+1) au au,aB (n:=r+1+1) au au,uD h (r+1) au au,uD h (r+1+1) au au,QL];simp only[aj];cases Gx s r==101<;>cases Gx s r==69<;>cases Gx s (r+1)==43<;>cases Gx s (r+1)==45<;>cases decide (BA s (r+1+1)>r+1+1)<;>cases decide (BA s (r+1)>r+1)<;>rfl
   generalize hK:BA s (e+1)=k at e2|-;have hka:(k==a)=false:=by rw[ZQ];omega
   rw[hka];cases Gx s e==46 with
   |true=>
    simp only[bZ,dX];cases e==a with
    |true=>
     simp only[bZ,Bool.true_and];cases k==e+1 with
     |true=>rfl
     |false=>simp only[dX];exact ex k au au
    |false=>simp only[dX,Bool.false_and];exact ex k au au
   |false=>
    simp only[dX];cases e==a with
    |true=>rfl
    |false=>simp only[dX];have h2:=ex e au au;rw[aB (n:=e+1) au au,uD h (e+1) au au,hK] at h2;simp only[aj] at h2;exact h2
end
def Xc(q:Int):aT->Int->Int
 |[],_=> -1
 |c::l,i=>if(c.toNat:Int)=q then i+1 else if(c.toNat:Int)=10 then -1 else if(c.toNat:Int)=92 then(match l with
   |[]=> -1
   |d::l'=>if(d.toNat:Int)=10 then -1 else Xc q l' (i+2)) else Xc q l (i+1)
def Yd(q:Int)(c:UInt8)(l:aT)(i:Int):Xc q (c::l) i=if(c.toNat:Int)=q then i+1 else if(c.toNat:Int)=10 then -1 else if(c.toNat:Int)=92 then(match l with
   |[]=> -1
   |d::l'=>if(d.toNat:Int)=10 then -1 else Xc q l' (i+2)) else Xc q l (i+1):=by
 cases l with
 |nil=>simp[Xc]
 |cons d l=>simp[Xc]
def hdI:aT->Int
 |[]=> -1
 |d::_=>(d.toNat:Int)
def quoted(s:aT)(a q:Int):Int:=if Gx s a=q then Xc q (s.drop (a+1).toNat) (a+1) else -1
def agX{s:aT}(h:s.length<=1048576)(q:Int)(hq:q≠10):∀(n:Nat) (rest pre:aT),rest.length<=n->s=pre++rest->
  (∃r,M.l9 s q (pre.length:Int)=some r/\(qy r some λu=>letE u λ_=>some (-1))=some (Xc q rest (pre.length:Int)))/\
  (∃r,M.kX s q (pre.length:Int)=some r/\(qy r some λu=>letE u λ_=>some (-1))=some (Xc q rest (pre.length:Int)))
 |n,[],pre,hn,e=>by
  have hl:pre.length=s.length:=by rw[e];simp
  constructor
  ·refine⟨.inr (pre.length:Int), ?_,rfl⟩;rw[M.l9];refine dJ ?_;simp only[M.pU,M.lZ];rw[pX au,dX]
  ·refine⟨.inr (pre.length:Int), ?_,rfl⟩;rw[M.kX];refine dJ ?_;simp only[M.oh,M.kZ];rw[pX au,dX]
 |0,c::rest,pre,hn,e=>by simp at hn
 |n+1,c::rest,pre,hn,e=>by
  simp only[OL] at hn;have hl:s.length=pre.length+(rest.length+1):=by rw[e];simp
  have hget:s[pre.length]? =some c:=by rw[e,List.getElem?_append_right (zav _),Nat.sub_self];rfl
  have hc:=adD c;have hw:i64.wrap ((c.toNat:Nat):Int)=(c.toNat:Int):=aB au au;have hw1:i64.wrap ((pre.length:Int)+1)=((pre.length+1:Nat):Int):=by rw[aB au au];omega
  have hw2:i64.wrap (((pre.length+1:Nat):Int)+1)=((pre.length+2:Nat):Int):=by rw[aB au au];omega
  have hnext:Gx s ((pre.length+1:Nat):Int)=hdI rest:=by rw[Iu,e,List.getElem?_append_right au,show pre.length+1 - pre.length=1 by omega];cases rest<;>rfl
  have hS:M.pU s q (pre.length:Int)=some (if(c.toNat:Int)=q then .inr (.inl ((pre.length+1:Nat):Int)) else if(c.toNat:Int)=10 then .inr (.inl (-1)) else if(c.toNat:Int)=92 then
    (if Gx s ((pre.length+1:Nat):Int)=10 then .inr (.inl (-1)) else .inl ((pre.length+2:Nat):Int)) else .inl ((pre.length+1:Nat):Int)):=by
   simp only[M.pU,M.lZ,bT,hget,aj,hw,hw1,hw2,Dp h];rw[zdt au,bZ]
   by_cases c1:(c.toNat:Int)=q
   ·rw[if_pos c1,show((c.toNat:Int)==q)=true by simpa using c1,bZ]
   ·rw[if_neg c1,show((c.toNat:Int)==q)=false by simpa using c1,dX]
    by_cases c2:(c.toNat:Int)=10
    ·rw[if_pos c2,show((c.toNat:Int)==10)=true by simpa using c2,bZ]
    ·rw[if_neg c2,show((c.toNat:Int)==10)=false by simpa using c2,dX]
     by_cases c3:(c.toNat:Int)=92
     ·rw[if_pos c3,show((c.toNat:Int)==92)=true by simpa using c3,bZ]
      by_cases c4:Gx s ((pre.length+1:Nat):Int)=10
      ·rw[if_pos c4,c4];rfl
      ·rw[if_neg c4,show(Gx s ((pre.length+1:Nat):Int)==10)=false by simpa using c4,dX]
     ·rw[if_neg c3,show((c.toNat:Int)==92)=false by simpa using c3,dX]
  have hI:M.oh s q (pre.length:Int)=some (if(c.toNat:Int)=10 then .inr (.inr (pre.length:Int)) else if(c.toNat:Int)=q then .inr (.inl ((pre.length+1:Nat):Int)) else if(c.toNat:Int)=92 then
    (if Gx s ((pre.length+1:Nat):Int)=10 then .inl ((pre.length+1:Nat):Int) else .inl ((pre.length+2:Nat):Int)) else .inl ((pre.length+1:Nat):Int)):=by
   simp only[M.oh,M.kZ,bT,hget,aj,hw,hw1,hw2,Dq h];rw[zdt au,bZ]
   by_cases c2:(c.toNat:Int)=10
   ·rw[if_pos c2,show((c.toNat:Int) !=10)=false by simpa using c2,dX]
   ·rw[if_neg c2,show((c.toNat:Int) !=10)=true by simpa using c2,bZ]
    by_cases c1:(c.toNat:Int)=q
    ·rw[if_pos c1,show((c.toNat:Int)==q)=true by simpa using c1,bZ]
    ·rw[if_neg c1,show((c.toNat:Int)==q)=false by simpa using c1,dX]
     by_cases c3:(c.toNat:Int)=92
     ·rw[if_pos c3,show((c.toNat:Int)==92)=true by simpa using c3,bZ]
      by_cases c4:Gx s ((pre.length+1:Nat):Int)=10
      ·rw[if_pos c4,c4];rfl
      ·rw[if_neg c4,show(Gx s ((pre.length+1:Nat):Int) !=10)=true by simpa using c4,bZ]
     ·rw[if_neg c3,show((c.toNat:Int)==92)=false by simpa using c3,dX]
  have e1:s=(pre++[c])++rest:=by rw[e];simp
  have ih1:=agX h q hq n rest (pre++[c]) au e1;rw[ZP,QX] at ih1;rw[M.l9,M.kX] at ih1|-;rw[Yd]
  by_cases c1:(c.toNat:Int)=q
  ·have c2:¬(c.toNat:Int)=10:=au;rw[if_pos c1];rw[if_pos c1] at hS;rw[if_neg c2,if_pos c1] at hI;refine⟨⟨_,dJ hS, ?_⟩,⟨_,dJ hI, ?_⟩⟩<;>simp[qy]
  ·rw[if_neg c1];rw[if_neg c1] at hS
   by_cases c2:(c.toNat:Int)=10
   ·rw[if_pos c2];rw[if_pos c2] at hS hI;exact⟨⟨_,dJ hS,rfl⟩,⟨_,dJ hI,rfl⟩⟩
   ·rw[if_neg c2];rw[if_neg c2] at hS hI;rw[if_neg c1] at hI
    by_cases c3:(c.toNat:Int)=92
    ·rw[if_pos c3];rw[if_pos c3] at hS hI;cases rest with
     |nil=>
      rw[hnext,hdI] at hS hI;simp only[show¬((-1:Int)=10) by omega,if_false] at hS hI;have hend:∀(b:Int->Option (Int⊕(Int⊕Int))),True:=λ_=>trivial
      simp only[zln] at hl;refine⟨⟨.inr ((pre.length+2:Nat):Int), ?_,rfl⟩,⟨.inr ((pre.length+2:Nat):Int), ?_,rfl⟩⟩
      ·rw[iD hS];refine dJ ?_;simp only[M.pU,M.lZ];rw[pX au,dX]
      ·rw[iD hI];refine dJ ?_;simp only[M.oh,M.kZ];rw[pX au,dX]
     |cons d rest'=>
      simp only[hdI] at hnext|-;rw[hnext] at hS hI
      by_cases c4:(d.toNat:Int)=10
      ·rw[if_pos c4];rw[if_pos c4] at hS hI;refine⟨⟨_,dJ hS,rfl⟩, ?_⟩;obtain⟨r,h1,h2⟩:=ih1.2;refine⟨r,by rw[iD hI];exact h1, ?_⟩;rw[h2,Yd,if_neg au,if_pos c4]
      ·rw[if_neg c4];rw[if_neg c4] at hS hI;have e2:s=(pre++[c,d])++rest':=by rw[e];simp
       simp only[OL] at hn;have ih2:=agX h q hq n rest' (pre++[c,d]) au e2;rw[ZP,show[c,d].length=2 from rfl,M.l9,M.kX] at ih2;rw[iD hS,iD hI,show(pre.length:Int)+2=((pre.length+2:Nat):Int) by omega];exact ih2
    ·rw[if_neg c3];rw[if_neg c3] at hS hI;rw[iD hS,iD hI,show(pre.length:Int)+1=((pre.length+1:Nat):Int) by omega];exact ih1
section
variable {s:aT} (h:s.length<=1048576)
include h
theorem Ye(a q:Int)(h0:0<=a)(h1:a<=1048576)(hq:0<=q)(hq2:q≠10):M.kK s a q=some (quoted s a q)/\M.jQ s a q=some (quoted s a q):=by
 simp only[M.kK,M.AB,M.jQ,M.zl,Dp h,Dq h,aj,quoted]
 by_cases hb:Gx s a=q
 ·rw[if_pos hb,show(Gx s a !=q)=false by simpa using hb,dX,dX,aB au au];obtain⟨i,rfl⟩:∃i:Nat,a=i:=⟨a.toNat,au⟩
  have hi:i<s.length:=by
   rcases Nat.lt_or_ge i s.length with hlt|hge
   ·exact hlt
   ·rw[Iu,List.getElem?_eq_none hge] at hb;simp only at hb;omega
  obtain⟨⟨r,k1,k2⟩,⟨r',k3,k4⟩⟩:=agX h q hq2 _ (s.drop (i+1)) (s.take (i+1)) (zav _) (List.take_append_drop _ s).symm;rw[MW,Nat.min_eq_left au] at k1 k2 k3 k4;rw[show(i:Int)+1=((i+1:Nat):Int) by omega,Qi,k1,k3,aj,aj];exact⟨k2,k4⟩
 ·rw[if_neg hb,show(Gx s a !=q)=true by simpa using hb,bZ,bZ];exact⟨rfl,rfl⟩
theorem aeM(a:Int)(h0:0<=a)(h1:a<=1048576):M.vg s a=some (quoted s a 34)/\M.uV s a=some (quoted s a 34):=by have:=Ye h a 34 h0 h1 au au;simp only[M.vg,M.ET,M.uV,M.EJ,this.1,this.2,aj];constructor<;>first|rfl|trivial
def VR(s:aT)(a:Int):Int:=bif quoted s a 47==a+2 then -1 else quoted s a 47
theorem aeN(a:Int)(h0:0<=a)(h1:a<=1048576):M.vk s a=some (VR s a)/\M.uX s a=some (VR s a):=by have:=Ye h a 47 h0 h1 au au;simp only[M.vk,M.EU,M.uX,M.EK,this.1,this.2,aj,VR];rw[aB au au];cases quoted s a 47==a+2<;>simp
end
end Go.Proofs.YtcallmiaialhkaaGreatDoor
namespace Go.Proofs.YtcallmiaialhkaaGreatDoor
set_option linter.unusedVariables false
set_option linter.unusedSimpArgs false
set_option linter.unusedSectionVars false
open Go Go.Vm
open Go.IntKind (i64)
open Int (reduceLE reduceLT reduceSub reduceAdd)
@[simp] theorem LH(l:List (aT)):(encS l).length=l.length:=by simp[encS]
@[simp] theorem PY(l:List (aT))(i:Nat):(encS l)[i]? =(l[i]?).map λs=>[D.str s]:=by simp[encS]
def cS0(s:aT):cStr [D.str s] 0=some s:=rfl
def strsOf:Row->List (aT)
 |[]=>[]
 | .str s::r=>s::strsOf r
 |_::r=>strsOf r
def MQ:List (aT):=strsOf uQ
def aaU:List (aT):=strsOf Jp
def aaV:List (aT):=strsOf Bj
def FD(s:aT):List (aT)->Int->Int
 |[],_=> -1
 |x::l,i=>if x==s then i else FD s l (i+1)
def Si(s:aT):∀(l:List (aT)) (i:Int),0<=i-> -1<=FD s l i/\FD s l i<i+l.length
 |[],i,h=>by simp[FD];omega
 |x::l,i,h=>by
  rw[FD];split
  ·simp;omega
  ·have:=Si s l (i+1) au;simp only[OL];omega
def Yf(s:aT)(l:List (aT))(hl:l.length<=1048576){b:Int->Option (Int⊕(Int⊕Int))}
  (hb:∀(i:Nat) x,l[i]? =some x->b (i:Int)=some (if x==s then .inr (.inl (i:Int)) else .inl ((i:Int)+1))) (he:b (l.length:Int)=some (.inr (.inr (l.length:Int)))):
  ∃r,fG b 0=some r/\(qy r some λu=>letE u λ_=>some (-1))=some (FD s l 0):=by
 have key:∀(t:List (aT)) (i:Nat),l.drop i=t->i<=l.length->∃r,fG b (i:Int)=some r/\(qy r some λu=>letE u λ_=>some (-1))=some (FD s t (i:Int)):=by
  intro t;induction t with
  |nil=>
   intro i hd hi;have:i=l.length:=by have:=congrArg List.length hd;simp at this;omega
   subst this;exact⟨_,dJ he,rfl⟩
  |cons x t ih=>
   intro i hd hi;have hx:l[i]? =some x:=by
    have:(l.drop i)[0]? =some x:=by rw[hd];rfl
    simpa using this
   have hlt:i<l.length:=(FK.1 hx).1;have hd':l.drop (i+1)=t:=by rw[<-List.drop_drop,hd];rfl
   have hs:=hb i x hx;rw[FD];cases hxs:x==s with
   |true=>rw[hxs] at hs;exact⟨_,dJ hs,rfl⟩
   |false=>
    rw[hxs] at hs;obtain⟨r,h1,h2⟩:=ih (i+1) hd' hlt;refine⟨r, ?_, ?_⟩
    ·rw[iD hs,show(i:Int)+1=((i+1:Nat):Int) by omega];exact h1
    ·rw[h2];simp
 exact key l 0 rfl (Nat.zero_le _)
def Yg(s:aT)(l:List (aT))(hl:l.length<=1048576):M.oP (encS l) s=some (FD s l 0):=by
 obtain⟨r,h1,h2⟩:=Yf s l hl (b:=M.zy (encS l) s)
  (λi x hx=>by have hi:=(FK.1 hx).1;simp only[M.zy,M.uf,LH,bT,PY,hx,Eh,aj,cS0];rw[zdt au,bZ,aB au au];cases x==s<;>rfl)
  (by simp only[M.zy,M.uf,LH];rw[pX au,dX])
 simp only[M.oP,M.EO,M.CX];rw[h1,aj];exact h2
def VT(s:aT)(l:List (aT))(hl:l.length<=1048576):M.slices_Index (encS l) s=some (FD s l 0):=by
 obtain⟨r,h1,h2⟩:=Yf s l hl (b:=M.xF (encS l) s (l.length:Int))
  (λi x hx=>by have hi:=(FK.1 hx).1;simp only[M.xF,M.qR,bT,PY,hx,Eh,aj,cS0];rw[zdt au,bZ,aB au au,show(s==x)=(x==s) by rw[Bool.eq_iff_iff,beq_iff_eq,beq_iff_eq];exact⟨Eq.symm,Eq.symm⟩];cases x==s<;>rfl)
  (by simp only[M.xF,M.qR];rw[pX au,dX])
 simp only[M.slices_Index,M.CB,M.Aj,LH];rw[h1,aj];exact h2
def agY(s:aT):Int:=if FD s MQ 0<0 then 0 else 10+FD s MQ 0
def Sj(s:aT):Bool:=decide (FD s aaV 0>=0)
def aaW:M.oI=some (encS MQ):=rfl
def aaX:M.nU=some (encS aaV):=rfl
def agZ:M.vO=some (encS aaU):=rfl
def aoi:List.map (λx=>[x]) uQ=encS MQ:=rfl
def akn:List.map (λx=>[x]) Bj=encS aaV:=rfl
def Zq(s:aT):M.nI s=some (agY s)/\M.nC s=some (agY s):=by
 have hr:=Si s MQ 0 au;have hl:MQ.length=17:=rfl;simp only[M.nI,M.zA,M.nC,M.zh,aaW,aoi,aj,Yg s MQ (by rw[hl];omega),VT s MQ (by rw[hl];omega),agY]
 by_cases h:FD s MQ 0<0
 ·rw[zdt h,bZ,if_pos h];exact⟨rfl,rfl⟩
 ·rw[pX h,dX,if_neg h,aB au au];exact⟨rfl,rfl⟩
def J4(s:aT):M.iP s=some (Sj s)/\M.jd s=some (Sj s):=by have hl:aaV.length=21:=rfl;simp only[M.iP,M.zB,M.jd,M.zi,M.slices_Contains,M.qU,aaX,akn,aj,Yg s aaV (by rw[hl];omega),VT s aaV (by rw[hl];omega),Sj];constructor<;>first|rfl|trivial
def isL(b:Int):Bool:=(decide (b>=97) && decide (b<=122))||((decide (b>=65) && decide (b<=90))||(b==95))
def isW(b:Int):Bool:=isL b||isD b
def Sl(b:Int):M.kJ b=some (isL b)/\M.kG b=some (isL b):=by simp only[M.kJ,M.Aw,M.bK,M.qY,M.kG,M.Ai,isL];cases decide (b>=97)<;>cases decide (b<=122)<;>cases decide (b>=65)<;>cases decide (b<=90)<;>cases(b==95)<;>exact⟨rfl,rfl⟩
def NC(b:Int):M.lG b=some (isW b)/\M.lC b=some (isW b):=by simp only[M.lG,M.xP,M.lC,M.xC,Sl,aaS,aaT,aj,isW];cases isL b<;>cases isD b<;>exact⟨rfl,rfl⟩
def ag0(s:aT):Bool:=s.all λc=>isW (c.toNat:Int)
def aDJ:aT->Bool
 |[]=>false
 |c::_=>isL (c.toNat:Int)
def Jq(s:aT):Bool:=ag0 s &&((decide ((s.length:Int)>=1) && decide ((s.length:Int)<=12)) && aDJ s)
def VU(s:aT){b:Int->Option (Int⊕(Unit⊕Int))}
  (hb:∀(i:Nat) c,s[i]? =some c->b (i:Int)=some (bif isW (c.toNat:Int) then .inl ((i:Int)+1) else .inr (.inl ()))) (he:b (s.length:Int)=some (.inr (.inr (s.length:Int)))):
  fG b 0=some (bif ag0 s then .inr (s.length:Int) else .inl ()):=by
 have key:∀(t:aT) (i:Nat),s.drop i=t->i<=s.length->fG b (i:Int)=some (bif ag0 t then .inr (s.length:Int) else .inl ()):=by
  intro t;induction t with
  |nil=>
   intro i hd hi;have:i=s.length:=by have:=congrArg List.length hd;simp at this;omega
   subst this;exact dJ he
  |cons x t ih=>
   intro i hd hi;have hx:s[i]? =some x:=by
    have:(s.drop i)[0]? =some x:=by rw[hd];rfl
    simpa using this
   have hlt:i<s.length:=(FK.1 hx).1;have hd':s.drop (i+1)=t:=by rw[<-List.drop_drop,hd];rfl
   have hs:=hb i x hx;rw[ag0,List.all_cons];cases hw:isW (x.toNat:Int) with
   |true=>rw[hw,bZ] at hs;rw[iD hs,show(i:Int)+1=((i+1:Nat):Int) by omega,ih (i+1) hd' hlt,Bool.true_and];rfl
   |false=>rw[hw,dX] at hs;rw[dJ hs];rfl
 exact key s 0 rfl (Nat.zero_le _)
def Zr(s:aT)(h:s.length<=1048576):M.nH s=some (Jq s)/\M.ny s=some (Jq s):=by
 have hw:∀c:UInt8,i64.wrap ((c.toNat:Nat):Int)=(c.toNat:Int):=λc=>by have:=adD c;exact aB au au
 have h1:=VU s (b:=M.sO s)
  (λi c hc=>by have hi:=(FK.1 hc).1;simp only[M.sO,M.oC,bT,hc,aj,hw,NC];rw[zdt au,bZ,aB au au];cases isW (c.toNat:Int)<;>rfl)
  (by simp only[M.sO,M.oC];rw[pX au,dX])
 have h2:=VU s (b:=M.sJ s (s.length:Int))
  (λi c hc=>by have hi:=(FK.1 hc).1;simp only[M.sJ,M.og,bT,hc,aj,hw,NC];rw[zdt au,bZ,aB au au];cases isW (c.toNat:Int)<;>rfl)
  (by simp only[M.sJ,M.og];rw[pX au,dX])
 simp only[M.nH,M.zx,M.ny,M.zf,M.xQ,M.xE,M.bK,M.qY,M.aQ,M.oV];rw[h1,h2,aj,aj,Jq];cases ag0 s with
 |false=>exact⟨rfl,rfl⟩
 |true=>
  simp only[bZ,qy,letE,Bool.true_and];cases s with
  |nil=>exact⟨rfl,rfl⟩
  |cons c l=>have hi:idx (c::l) 0=some c:=rfl;simp only[hi,aj,hw,Sl];cases decide (((c::l).length:Int)>=1)<;>cases decide (((c::l).length:Int)<=12)<;>exact⟨rfl,rfl⟩
def Dt(s:aT):Bool:=Jq s &&((agY s==0) && !(Sj s))
def QM(s:aT)(h:s.length<=1048576):M.fU s=some (Dt s)/\M.ig s=some (Dt s):=by have h1:=Zr s h;simp only[M.fU,M.EP,M.ig,M.EF,h1.1,h1.2,Zq,J4,aj,Dt];cases Jq s<;>cases agY s==0<;>cases Sj s<;>exact⟨rfl,rfl⟩
end Go.Proofs.YtcallmiaialhkaaGreatDoor
namespace Go.Proofs.YtcallmiaialhkaaGreatDoor
set_option linter.unusedVariables false
set_option linter.unusedSimpArgs false
set_option linter.unusedSectionVars false
open Go Go.Vm
open Go.IntKind (i64)
open Int (reduceLE reduceLT reduceSub reduceAdd)
def as4(c:UInt8)(n:Nat)(h:n<256):(((c.toNat:Nat):Int)==(n:Int))=(c==UInt8.ofNat n):=by
 rw[Bool.eq_iff_iff,beq_iff_eq,beq_iff_eq];constructor
 ·intro e;apply UInt8.toNat_inj.1;rw[UInt8.toNat_ofNat',Nat.mod_eq_of_lt h];omega
 ·rintro rfl;rw[UInt8.toNat_ofNat',Nat.mod_eq_of_lt h]
def hasB(c:UInt8)(s:aT):Bool:=s.any (· ==c)
def aeO(s:aT)(c:UInt8):decide (0<=Lib.indexByte s c)=hasB c s:=by
 have hge:=Lib.indexByte_ge s c;rw[Bool.eq_iff_iff,decide_eq_true_eq,hasB,List.any_eq_true];constructor
 ·intro h;obtain⟨i,hi⟩:∃i:Nat,Lib.indexByte s c=i:=⟨(Lib.indexByte s c).toNat,au⟩
  exact⟨c,OQ (Lib.indexByte_some hi).1,by simp⟩
 ·rintro⟨x,hx,hc⟩;have:=beq_iff_eq.1 hc;subst this;rcases Int.lt_or_le (Lib.indexByte s x) 0 with h|h
  ·obtain⟨i,hi⟩:=List.mem_iff_getElem?.1 hx;exact absurd hi (Lib.indexByte_none au i)
  ·exact h
def ag1(s:aT)(h:s.length<=1000000000):M.qM s=some (!(hasB 10 s)):=by
 have key:∀(t:aT) (i:Nat),s.drop i=t->i<=s.length->fG (M.rD s) (i:Int)=some (bif hasB 10 t then .inl () else .inr (s.length:Int)):=by
  intro t;induction t with
  |nil=>
   intro i hd hi;have:i=s.length:=by have:=congrArg List.length hd;simp at this;omega
   subst this;refine dJ ?_;simp only[M.rD,M.rC];rw[pX au,dX];rfl
  |cons x t ih=>
   intro i hd hi;have hx:s[i]? =some x:=by
    have:(s.drop i)[0]? =some x:=by rw[hd];rfl
    simpa using this
   have hlt:i<s.length:=(FK.1 hx).1;have hd':s.drop (i+1)=t:=by rw[<-List.drop_drop,hd];rfl
   have hs:M.rD s (i:Int)=some (bif x==10 then .inr (.inl ()) else .inl ((i:Int)+1)):=by simp only[M.rD,M.rC,bT,hx,aj];rw[zdt au,bZ,show(10:Int)=((10:Nat):Int) from rfl,as4 _ _ au,aB au au,show(x==UInt8.ofNat 10)=(x==10) from rfl];cases x==10<;>rfl
   rw[hasB,List.any_cons];cases hc:x==10 with
   |true=>rw[hc,bZ] at hs;rw[dJ hs];rfl
   |false=>rw[hc,dX] at hs;rw[iD hs,show(i:Int)+1=((i+1:Nat):Int) by omega,ih (i+1) hd' hlt,Bool.false_or];rfl
 have:=key s 0 rfl (Nat.zero_le _);rw[QK] at this;simp only[M.qM,M.CZ,M.Az];rw[this,aj];cases hasB 10 s<;>rfl
def ako:∀i,i<17->cStr uQ i=MQ[i]? :=by decide+kernel
def akp:∀i,i<39->cStr Jp i=aaU[i]? :=by decide+kernel
def spell(k:Int):aT:=if k=1 then[10] else if 10<=k/\k<=26 then MQ[(k - 10).toNat]?.getD [] else if 30<=k/\k<=68 then aaU[(k - 30).toNat]?.getD [] else[]
def acD(k:Int)(hk:I64 k):M.qN k=some (spell k)/\M.qI k=some (spell k):=by
 have l1:MQ.length=17:=rfl;have l2:aaU.length=39:=rfl;simp only[M.qN,M.C9,M.qI,M.CG,M.jW,M.qV,M.nT,M.xH,M.aQ,M.oV,M.bK,M.qY,aaW,agZ,aj,spell]
 by_cases h1:k=1
 ·subst h1;exact⟨rfl,rfl⟩
 ·rw[show(k==1)=false by simpa using h1,dX,dX,if_neg h1]
  by_cases h2:10<=k/\k<=26
  ·obtain⟨i,hi⟩:∃i:Nat,k=10+i:=⟨(k - 10).toNat,au⟩
   have hw:i64.wrap (k - 10)=(i:Int):=by rw[aB au au];omega
   obtain⟨x,hx⟩:∃x,MQ[i]? =some x:=⟨MQ[i]'au,by simp⟩
   rw[if_pos h2,zdt (show k>=10 by omega),bZ,zdt (show k<=26 by omega),hw,zdt (show(0:Int)<=(i:Int) by omega),zdt (show(i:Int)<17 by omega)];simp only[aj,bZ,bT,Qi,PY,hx,Eh,cS0,Bool.and_self,Nat.zero_add,Nat.mul_one,ako i au];rw[show(k - 10).toNat=i by omega,hx];exact⟨rfl,rfl⟩
  ·have hf:(bif decide (k>=10) then some (decide (k<=26)) else some false)=some false:=by
    by_cases h3:k>=10
    ·rw[zdt h3,bZ,pX au]
    ·rw[pX h3,dX]
   rw[if_neg h2,hf];simp only[aj,dX]
   by_cases h4:30<=k/\k<=68
   ·obtain⟨i,hi⟩:∃i:Nat,k=30+i:=⟨(k - 30).toNat,au⟩
    have hw:i64.wrap (k - 30)=(i:Int):=by rw[aB au au];omega
    obtain⟨x,hx⟩:∃x,aaU[i]? =some x:=⟨aaU[i]'au,by simp⟩
    rw[if_pos h4,zdt (show k>=30 by omega),bZ,zdt (show k<=68 by omega),hw,zdt (show(0:Int)<=(i:Int) by omega),zdt (show(i:Int)<39 by omega)];simp only[aj,bZ,bT,Qi,PY,hx,Eh,cS0,Bool.and_self,Nat.zero_add,Nat.mul_one,akp i au];rw[show(k - 30).toNat=i by omega,hx];exact⟨rfl,rfl⟩
   ·have hf:(bif decide (k>=30) then some (decide (k<=68)) else some false)=some false:=by
     by_cases h3:k>=30
     ·rw[zdt h3,bZ,pX au]
     ·rw[pX h3,dX]
    rw[if_neg h4,hf];exact⟨rfl,rfl⟩
def J5(k:Int)(s:aT):Bool:=bif s==[] then false else
 bif k==2 then(Gx s 0==35) && !(hasB 10 s) else bif k==3 then VO s 0==(s.length:Int) else bif k==4 then quoted s 0 34==(s.length:Int) else bif k==5 then VR s 0==(s.length:Int) else
 bif k==6 then Dt s else bif k==7 then Dt s else bif k==8 then Sj s else s==spell k
def acE(k:Int)(s:aT)(a:Int)(h:s.length<=1048576)(hk:I64 k):M.iY k s a=some (J5 k s)/\M.jU k s a=some (J5 k s):=by
 have hn:=QM s h;have hb:=J4 s;have hst:=aeM h 0 au au;have her:=aeN h 0 au au;have hsp:=acD k hk;have hct:M.strings_Contains s [10]=some (hasB 10 s):=by rw[M.strings_Contains,aeO]
 simp only[M.iY,M.Dc,M.jU,M.CJ,hn.1,hn.2,hb.1,hb.2,hst.1,hst.2,her.1,her.2,hsp.1,hsp.2,hct,ag1 s au,VQ h 0 au,VP h 0 au,aj,J5];cases s with
 |nil=>refine⟨?_,rfl⟩;have q1:Dt []=false:=rfl;have q2:Sj []=false:=rfl;have q3:(quoted [] 0 34==(([]:aT).length:Int))=false:=rfl;have q4:(VR [] 0==(([]:aT).length:Int))=false:=rfl;rw[q1,q2,q3,q4];cases k==2<;>cases k==3<;>cases k==4<;>cases k==5<;>cases k==6<;>cases k==7<;>cases k==8<;>rfl
 |cons c l=>
  have hi:idx (c::l) 0=some c:=rfl;have hb0:Gx (c::l) 0=(c.toNat:Int):=rfl;have hne:((c::l:aT)==[])=false:=rfl;have hgt:decide (((c::l).length:Int)>0)=true:=by simp
  have hsw:(spell k==c::l)=(c::l==spell k):=by rw[Bool.eq_iff_iff,beq_iff_eq,beq_iff_eq];exact⟨Eq.symm,Eq.symm⟩
  rw[hi,hb0,hne,hgt,hsw];simp only[aj,bZ,dX,Bool.not_false];cases k==2<;>cases k==3<;>cases k==4<;>cases k==5<;>cases k==6<;>cases k==7<;>cases k==8<;>cases(c.toNat:Int)==35<;>exact⟨rfl,rfl⟩
end Go.Proofs.YtcallmiaialhkaaGreatDoor
namespace Go.Proofs.YtcallmiaialhkaaGreatDoor
set_option linter.unusedVariables false
set_option linter.unusedSimpArgs false
set_option linter.unusedSectionVars false
open Go Go.Vm
open Go.IntKind (i64)
open Int (reduceLE reduceLT reduceSub reduceAdd)
def dI(x a b:Int):M.bK x a b=some (decide (x>=a) && decide (x<=b)):=by simp only[M.bK,M.qY];cases decide (x>=a)<;>rfl
def bP(x a b:Int):M.aQ x a b=some (decide (x>=a) && decide (x<=b)):=dI x a b
def VW(op:Int):Bool:=op==60||op==57||op==58||op==59||op==55||op==56||op==99||op==63||op==48||op==47||op==50||op==62||op==49||op==67||op==46||op==45||op==44
def rH(op:Int):M.qL op=some (VW op)/\∃lv,M.qJ op=some lv/\(lv !=0)=VW op:=by
 by_cases h44:op=44
 ·subst h44;exact⟨rfl,_,rfl,rfl⟩
 have e44:(op==44)=false:=by simpa using h44
 by_cases h45:op=45
 ·subst h45;exact⟨rfl,_,rfl,rfl⟩
 have e45:(op==45)=false:=by simpa using h45
 by_cases h67:op=67
 ·subst h67;exact⟨rfl,_,rfl,rfl⟩
 have e67:(op==67)=false:=by simpa using h67
 by_cases h46:op=46
 ·subst h46;exact⟨rfl,_,rfl,rfl⟩
 have e46:(op==46)=false:=by simpa using h46
 by_cases h63:op=63
 ·subst h63;exact⟨rfl,_,rfl,rfl⟩
 have e63:(op==63)=false:=by simpa using h63
 by_cases h48:op=48
 ·subst h48;exact⟨rfl,_,rfl,rfl⟩
 have e48:(op==48)=false:=by simpa using h48
 by_cases h47:op=47
 ·subst h47;exact⟨rfl,_,rfl,rfl⟩
 have e47:(op==47)=false:=by simpa using h47
 by_cases h50:op=50
 ·subst h50;exact⟨rfl,_,rfl,rfl⟩
 have e50:(op==50)=false:=by simpa using h50
 by_cases h62:op=62
 ·subst h62;exact⟨rfl,_,rfl,rfl⟩
 have e62:(op==62)=false:=by simpa using h62
 by_cases h49:op=49
 ·subst h49;exact⟨rfl,_,rfl,rfl⟩
 have e49:(op==49)=false:=by simpa using h49
 by_cases h99:op=99
 ·subst h99;exact⟨rfl,_,rfl,rfl⟩
 have e99:(op==99)=false:=by simpa using h99
 by_cases h55:op=55
 ·subst h55;exact⟨rfl,_,rfl,rfl⟩
 have e55:(op==55)=false:=by simpa using h55
 by_cases h56:op=56
 ·subst h56;exact⟨rfl,_,rfl,rfl⟩
 have e56:(op==56)=false:=by simpa using h56
 by_cases h57:op=57
 ·subst h57;exact⟨rfl,_,rfl,rfl⟩
 have e57:(op==57)=false:=by simpa using h57
 by_cases h58:op=58
 ·subst h58;exact⟨rfl,_,rfl,rfl⟩
 have e58:(op==58)=false:=by simpa using h58
 by_cases h59:op=59
 ·subst h59;exact⟨rfl,_,rfl,rfl⟩
 have e59:(op==59)=false:=by simpa using h59
 by_cases h60:op=60
 ·subst h60;exact⟨rfl,_,rfl,rfl⟩
 have e60:(op==60)=false:=by simpa using h60
 simp only[M.qL,M.CV,M.qJ,M.CO,VW,e44,e45,e67,e46,e63,e48,e47,e50,e62,e49,e99,e55,e56,e57,e58,e59,e60,dX,Bool.or_self];exact⟨trivial,0,rfl,rfl⟩
def VX(op:Int):Bool:=op==54||(decide (op>=38) && decide (op<=43))
def jL(op:Int):M.lF op=some (VX op)/\M.oN op=some (VX op):=by simp only[M.lF,M.xO,M.oN,M.Ak,dI,bP,aj,VX];cases op==54<;>exact⟨rfl,rfl⟩
def LJ(s:aT)(l:List (aT))(hl:l.length<=1048576):M.slices_Contains (encS l) s=some (decide (FD s l 0>=0)):=by simp only[M.slices_Contains,M.qU,VT s l hl,aj]
def wY:([[D.str []],[D.str [62]],[D.str [62,62]],[D.str [124]]]:ay)=encS [[],[62],[62,62],[124]]:=rfl
def OI(s:aT):decide (FD s [[],[62],[62,62],[124]] 0>=0)=(s==[]||(s==[62]||(s==[62,62]||s==[124]))):=by
 have sw:∀a b:aT,(a==b)=(b==a):=λa b=>by rw[Bool.eq_iff_iff,beq_iff_eq,beq_iff_eq];exact⟨Eq.symm,Eq.symm⟩
 simp only[FD,sw _ s];cases s==[]<;>cases s==[62]<;>cases s==[62,62]<;>cases s==[124]<;>rfl
def FOk(k op:Int)(t o:aT)(kids:ay):Prop:=∃b,M.aA k op t o kids=some b/\M.dW k op t o kids=some b
def akq(k:Int)(op:Int)(t o:aT)(kids:ay)(ht:t.length<=1048576)(ho:o.length<=1048576)(hk:kids.length<=400)(hkk:k=1\/k=2\/k=3\/k=4\/k=5\/k=6\/k=7\/k=8\/k=9\/k=10\/k=11\/k=12\/k=13\/k=14\/k=15\/k=16\/k=20\/k=22\/k=23\/k=24\/k=25\/k=26\/k=27\/k=28\/k=29\/k=30\/k=31\/k=32\/k=33\/k=34\/k=40\/k=41\/k=44\/k=45):FOk k op t o kids:=by
 have hn:=QM t ht;have hn2:=QM o ho;have hb:=J4 t;have ha:=jL op;obtain⟨hi,lv,hlv,hi2⟩:=rH op;have tk:=λk hk=>acE k t 0 ht hk
 have tk2:=tk 2 ⟨au,au⟩;have tk3:=tk 3 ⟨au,au⟩;have tk4:=tk 4 ⟨au,au⟩;have tk5:=tk 5 ⟨au,au⟩;have hc2:gW IntKind.i64 [D.int IntKind.i64 3,D.int IntKind.i64 4,D.int IntKind.i64 5] (i64.wrap 0).toNat=some 3:=rfl;have d12:decide ((0:Int)<=i64.wrap 0)=true:=rfl;have d22:decide (i64.wrap 0<3)=true:=rfl;have hc3:gW IntKind.i64 [D.int IntKind.i64 3,D.int IntKind.i64 4,D.int IntKind.i64 5] (i64.wrap 1).toNat=some 4:=rfl;have d13:decide ((0:Int)<=i64.wrap 1)=true:=rfl;have d23:decide (i64.wrap 1<3)=true:=rfl;have hc4:gW IntKind.i64 [D.int IntKind.i64 3,D.int IntKind.i64 4,D.int IntKind.i64 5] (i64.wrap 2).toNat=some 5:=rfl;have d14:decide ((0:Int)<=i64.wrap 2)=true:=rfl;have d24:decide (i64.wrap 2<3)=true:=rfl;have z1:decide ((kids.length:Int)<=400)=true:=zdt au;have z2:decide ((0:Int)<=(kids.length:Int))=true:=zdt au;have z3:decide ((kids.length:Int)<=(kids.length:Int))=true:=zdt au;rcases hkk with rfl|rfl|rfl|rfl|rfl|rfl|rfl|rfl|rfl|rfl|rfl|rfl|rfl|rfl|rfl|rfl|rfl|rfl|rfl|rfl|rfl|rfl|rfl|rfl|rfl|rfl|rfl|rfl|rfl|rfl|rfl|rfl|rfl|rfl<;>simp only[FOk,M.aA,M.aS,M.bI,M.bC,M.cu,M.bQ,M.bJ,M.bF,M.dW,M.eX,M.bW,M.fV,M.fJ,M.iC,M.fO,M.gI,M.fP,M.gJ,M.fQ,M.gQ,M.iJ,M.iU,dI,bP,hn.1,hn.2,hn2.1,hn2.2,hb.1,hb.2,ha.1,ha.2,hi,hlv,hi2,tk2.1,tk2.2,tk3.1,tk3.2,tk4.1,tk4.2,tk5.1,tk5.2,hc2,d12,d22,hc3,d13,d23,hc4,d14,d24,z1,z2,z3,ge_iff_le,Int.reduceBEq,reduceLE,reduceSub,decide_true,decide_false,bZ,dX,Bool.and_true,Bool.and_false,Bool.true_and,Bool.false_and,aj]
 ·cases(op==0)<;>cases(Dt t)<;>cases(o==[])<;>exact⟨_,rfl,rfl⟩
 ·cases(op==0)<;>cases(J5 3 t)<;>cases(o==[])<;>exact⟨_,rfl,rfl⟩
 ·cases(op==0)<;>cases(J5 4 t)<;>cases(o==[])<;>exact⟨_,rfl,rfl⟩
 ·cases(op==0)<;>cases(J5 5 t)<;>cases(o==[])<;>exact⟨_,rfl,rfl⟩
 ·cases(op==0)<;>cases(Dt t)<;>cases(o==[])<;>exact⟨_,rfl,rfl⟩
 ·cases(op==0)<;>cases(t==[])<;>cases(o==[])<;>exact⟨_,rfl,rfl⟩
 ·cases(op==0)<;>cases(Dt t)<;>cases(o==[])<;>exact⟨_,rfl,rfl⟩
 ·cases(op==0)<;>cases(Sj t)<;>cases(o==[])<;>exact⟨_,rfl,rfl⟩
 ·cases(op==51)<;>cases(op==52)<;>cases(t==[])<;>cases(o==[])<;>exact⟨_,rfl,rfl⟩
 ·cases(op==51)<;>cases(op==52)<;>cases(t==[])<;>cases(o==[])<;>exact⟨_,rfl,rfl⟩
 ·cases(op==55)<;>cases(op==56)<;>cases(op==61)<;>cases(t==[])<;>cases(o==[])<;>exact⟨_,rfl,rfl⟩
 ·cases(VW op)<;>cases(t==[])<;>cases(o==[])<;>exact⟨_,rfl,rfl⟩
 ·cases(op==0)<;>cases(Dt t)<;>cases(o==[])<;>exact⟨_,rfl,rfl⟩
 ·cases(op==0)<;>cases(t==[])<;>cases(o==[])<;>exact⟨_,rfl,rfl⟩
 ·cases(VX op)<;>cases(t==[])<;>cases(o==[])<;>exact⟨_,rfl,rfl⟩
 ·cases(op==0)<;>cases(t==[])<;>cases(o==[])<;>exact⟨_,rfl,rfl⟩
 ·cases(op==0)<;>cases(t==[])<;>cases(o==[])<;>exact⟨_,rfl,rfl⟩
 ·cases(op==0)<;>cases(t==[])<;>cases(o==[])<;>exact⟨_,rfl,rfl⟩
 ·cases(op==0)<;>cases(t==[])<;>cases(o==[])<;>exact⟨_,rfl,rfl⟩
 ·cases(op==0)<;>cases(t==[])<;>cases(o==[])<;>exact⟨_,rfl,rfl⟩
 ·cases(op==0)<;>cases(t==[])<;>cases(o==[])<;>exact⟨_,rfl,rfl⟩
 ·cases(op==0)<;>cases(t==[])<;>cases(o==[])<;>exact⟨_,rfl,rfl⟩
 ·cases(op==0)<;>cases(Dt t)<;>cases(o==[])<;>exact⟨_,rfl,rfl⟩
 ·cases(op==0)<;>cases(t==[])<;>cases(o==[])<;>exact⟨_,rfl,rfl⟩
 ·cases(op==0)<;>cases(t==[])<;>cases(o==[])<;>exact⟨_,rfl,rfl⟩
 ·cases(op==0)<;>cases(t==[])<;>cases(o==[])<;>exact⟨_,rfl,rfl⟩
 ·cases(op==0)<;>cases(t==[])<;>cases(o==[])<;>exact⟨_,rfl,rfl⟩
 ·cases(op==0)<;>cases(Dt t)<;>cases(Dt o)<;>exact⟨_,rfl,rfl⟩
 ·cases(op==0)<;>cases(t==[])<;>cases(o==[])<;>exact⟨_,rfl,rfl⟩
 ·cases(op==0)<;>cases(J5 2 t)<;>cases(o==[])<;>exact⟨_,rfl,rfl⟩
 ·cases(op==0)<;>cases(t==[])<;>cases(o==[])<;>exact⟨_,rfl,rfl⟩
 ·cases(op==0)<;>cases(t==[])<;>cases(o==[])<;>exact⟨_,rfl,rfl⟩
 ·cases(op==0)<;>cases(Dt t)<;>cases(o==[])<;>exact⟨_,rfl,rfl⟩
 ·cases(op==0)<;>cases(t==[])<;>cases(o==[])<;>exact⟨_,rfl,rfl⟩
def as5(op:Int)(t o:aT)(kids:ay)(ht:t.length<=1048576)(ho:o.length<=1048576)(hk:kids.length<=400):FOk 21 op t o kids:=by
 have hp:=LJ o [[],[62],[62,62],[124]] (by decide);rw[OI] at hp
 by_cases h0:op=0
 ·subst h0;simp only[FOk,M.aA,M.aS,M.bI,M.bC,M.cu,M.bQ,M.bJ,M.bF,M.dW,M.eX,M.bW,M.fV,M.fJ,M.iC,M.fO,M.gI,M.fP,M.gJ,M.fQ,M.gQ,M.iJ,M.iU,dI,bP,wY,hp,show i64.wrap (0+1)=1 from rfl,show i64.wrap (1+1)=2 from rfl,show i64.wrap (1+i64.wrap (Int.tdiv 1 3))=1 from rfl,show i64.wrap (1+i64.wrap (Int.tdiv 2 3))=1 from rfl,show i64.wrap (1+i64.wrap (Int.tdiv 3 3))=2 from rfl,show i64.wrap (2+i64.wrap (Int.tdiv 1 3))=2 from rfl,show i64.wrap (2+i64.wrap (Int.tdiv 3 3))=3 from rfl,ge_iff_le,Int.reduceBEq,reduceLE,reduceSub,decide_true,decide_false,bZ,dX,Bool.and_true,Bool.and_false,Bool.true_and,Bool.false_and,aj];generalize (t==[])=a0;generalize (o==[])=a1;generalize (o==[62])=a2;generalize (o==[62,62])=a3;generalize (o==[124])=a4;cases a0<;>cases a1<;>cases a2<;>cases a3<;>cases a4<;>exact⟨_,rfl,rfl⟩
 by_cases h1:op=1
 ·subst h1;simp only[FOk,M.aA,M.aS,M.bI,M.bC,M.cu,M.bQ,M.bJ,M.bF,M.dW,M.eX,M.bW,M.fV,M.fJ,M.iC,M.fO,M.gI,M.fP,M.gJ,M.fQ,M.gQ,M.iJ,M.iU,dI,bP,wY,hp,show i64.wrap (0+1)=1 from rfl,show i64.wrap (1+1)=2 from rfl,show i64.wrap (1+i64.wrap (Int.tdiv 1 3))=1 from rfl,show i64.wrap (1+i64.wrap (Int.tdiv 2 3))=1 from rfl,show i64.wrap (1+i64.wrap (Int.tdiv 3 3))=2 from rfl,show i64.wrap (2+i64.wrap (Int.tdiv 1 3))=2 from rfl,show i64.wrap (2+i64.wrap (Int.tdiv 3 3))=3 from rfl,ge_iff_le,Int.reduceBEq,reduceLE,reduceSub,decide_true,decide_false,bZ,dX,Bool.and_true,Bool.and_false,Bool.true_and,Bool.false_and,aj];generalize (t==[])=a0;generalize (o==[])=a1;generalize (o==[62])=a2;generalize (o==[62,62])=a3;generalize (o==[124])=a4;cases a0<;>cases a1<;>cases a2<;>cases a3<;>cases a4<;>exact⟨_,rfl,rfl⟩
 have e0:(op==0)=false:=by simpa using h0
 have e1:(op==1)=false:=by simpa using h1
 have hf:(decide ((0:Int)<=op) && decide (op<=1))=false:=by rw[Bool.and_eq_false_iff,decide_eq_false_iff_not,decide_eq_false_iff_not];omega
 simp only[FOk,M.aA,M.aS,M.bI,M.bC,M.cu,M.bQ,M.bJ,M.bF,M.dW,M.eX,M.bW,M.fV,M.fJ,M.iC,M.fO,M.gI,M.fP,M.gJ,M.fQ,M.gQ,M.iJ,M.iU,dI,bP,wY,hp,e0,e1,hf,ge_iff_le,Int.reduceBEq,reduceLE,reduceSub,decide_true,decide_false,bZ,dX,Bool.and_true,Bool.and_false,Bool.true_and,Bool.false_and,aj];generalize (t==[])=a0;generalize (o==[])=a1;generalize (o==[62])=a2;generalize (o==[62,62])=a3;generalize (o==[124])=a4;cases a0<;>cases a1<;>cases a2<;>cases a3<;>cases a4<;>exact⟨_,rfl,rfl⟩
def as6(op:Int)(t o:aT)(kids:ay)(ht:t.length<=1048576)(ho:o.length<=1048576)(hk:kids.length<=400):FOk 42 op t o kids:=by
 have hp:=LJ o [[],[62],[62,62],[124]] (by decide);rw[OI] at hp
 by_cases h1:op=1
 ·subst h1;simp only[FOk,M.aA,M.aS,M.bI,M.bC,M.cu,M.bQ,M.bJ,M.bF,M.dW,M.eX,M.bW,M.fV,M.fJ,M.iC,M.fO,M.gI,M.fP,M.gJ,M.fQ,M.gQ,M.iJ,M.iU,dI,bP,wY,hp,show i64.wrap (0+1)=1 from rfl,show i64.wrap (1+1)=2 from rfl,show i64.wrap (1+i64.wrap (Int.tdiv 1 3))=1 from rfl,show i64.wrap (1+i64.wrap (Int.tdiv 2 3))=1 from rfl,show i64.wrap (1+i64.wrap (Int.tdiv 3 3))=2 from rfl,show i64.wrap (2+i64.wrap (Int.tdiv 1 3))=2 from rfl,show i64.wrap (2+i64.wrap (Int.tdiv 3 3))=3 from rfl,ge_iff_le,Int.reduceBEq,reduceLE,reduceSub,decide_true,decide_false,bZ,dX,Bool.and_true,Bool.and_false,Bool.true_and,Bool.false_and,aj];generalize (t==[])=a0;generalize (o==[])=a1;cases a0<;>cases a1<;>exact⟨_,rfl,rfl⟩
 by_cases h2:op=2
 ·subst h2;simp only[FOk,M.aA,M.aS,M.bI,M.bC,M.cu,M.bQ,M.bJ,M.bF,M.dW,M.eX,M.bW,M.fV,M.fJ,M.iC,M.fO,M.gI,M.fP,M.gJ,M.fQ,M.gQ,M.iJ,M.iU,dI,bP,wY,hp,show i64.wrap (0+1)=1 from rfl,show i64.wrap (1+1)=2 from rfl,show i64.wrap (1+i64.wrap (Int.tdiv 1 3))=1 from rfl,show i64.wrap (1+i64.wrap (Int.tdiv 2 3))=1 from rfl,show i64.wrap (1+i64.wrap (Int.tdiv 3 3))=2 from rfl,show i64.wrap (2+i64.wrap (Int.tdiv 1 3))=2 from rfl,show i64.wrap (2+i64.wrap (Int.tdiv 3 3))=3 from rfl,ge_iff_le,Int.reduceBEq,reduceLE,reduceSub,decide_true,decide_false,bZ,dX,Bool.and_true,Bool.and_false,Bool.true_and,Bool.false_and,aj];generalize (t==[])=a0;generalize (o==[])=a1;cases a0<;>cases a1<;>exact⟨_,rfl,rfl⟩
 by_cases h3:op=3
 ·subst h3;simp only[FOk,M.aA,M.aS,M.bI,M.bC,M.cu,M.bQ,M.bJ,M.bF,M.dW,M.eX,M.bW,M.fV,M.fJ,M.iC,M.fO,M.gI,M.fP,M.gJ,M.fQ,M.gQ,M.iJ,M.iU,dI,bP,wY,hp,show i64.wrap (0+1)=1 from rfl,show i64.wrap (1+1)=2 from rfl,show i64.wrap (1+i64.wrap (Int.tdiv 1 3))=1 from rfl,show i64.wrap (1+i64.wrap (Int.tdiv 2 3))=1 from rfl,show i64.wrap (1+i64.wrap (Int.tdiv 3 3))=2 from rfl,show i64.wrap (2+i64.wrap (Int.tdiv 1 3))=2 from rfl,show i64.wrap (2+i64.wrap (Int.tdiv 3 3))=3 from rfl,ge_iff_le,Int.reduceBEq,reduceLE,reduceSub,decide_true,decide_false,bZ,dX,Bool.and_true,Bool.and_false,Bool.true_and,Bool.false_and,aj];generalize (t==[])=a0;generalize (o==[])=a1;cases a0<;>cases a1<;>exact⟨_,rfl,rfl⟩
 have e1:(op==1)=false:=by simpa using h1
 have e2:(op==2)=false:=by simpa using h2
 have e3:(op==3)=false:=by simpa using h3
 have hf:(decide ((1:Int)<=op) && decide (op<=3))=false:=by rw[Bool.and_eq_false_iff,decide_eq_false_iff_not,decide_eq_false_iff_not];omega
 simp only[FOk,M.aA,M.aS,M.bI,M.bC,M.cu,M.bQ,M.bJ,M.bF,M.dW,M.eX,M.bW,M.fV,M.fJ,M.iC,M.fO,M.gI,M.fP,M.gJ,M.fQ,M.gQ,M.iJ,M.iU,dI,bP,wY,hp,e1,e2,e3,hf,ge_iff_le,Int.reduceBEq,reduceLE,reduceSub,decide_true,decide_false,bZ,dX,Bool.and_true,Bool.and_false,Bool.true_and,Bool.false_and,aj];generalize (t==[])=a0;generalize (o==[])=a1;cases a0<;>cases a1<;>exact⟨_,rfl,rfl⟩
def as7(op:Int)(t o:aT)(kids:ay)(ht:t.length<=1048576)(ho:o.length<=1048576)(hk:kids.length<=400):FOk 43 op t o kids:=by
 have hp:=LJ o [[],[62],[62,62],[124]] (by decide);rw[OI] at hp
 by_cases h1:op=1
 ·subst h1;simp only[FOk,M.aA,M.aS,M.bI,M.bC,M.cu,M.bQ,M.bJ,M.bF,M.dW,M.eX,M.bW,M.fV,M.fJ,M.iC,M.fO,M.gI,M.fP,M.gJ,M.fQ,M.gQ,M.iJ,M.iU,dI,bP,wY,hp,show i64.wrap (0+1)=1 from rfl,show i64.wrap (1+1)=2 from rfl,show i64.wrap (1+i64.wrap (Int.tdiv 1 3))=1 from rfl,show i64.wrap (1+i64.wrap (Int.tdiv 2 3))=1 from rfl,show i64.wrap (1+i64.wrap (Int.tdiv 3 3))=2 from rfl,show i64.wrap (2+i64.wrap (Int.tdiv 1 3))=2 from rfl,show i64.wrap (2+i64.wrap (Int.tdiv 3 3))=3 from rfl,ge_iff_le,Int.reduceBEq,reduceLE,reduceSub,decide_true,decide_false,bZ,dX,Bool.and_true,Bool.and_false,Bool.true_and,Bool.false_and,aj];generalize (t==[])=a0;generalize (o==[])=a1;cases a0<;>cases a1<;>exact⟨_,rfl,rfl⟩
 by_cases h3:op=3
 ·subst h3;simp only[FOk,M.aA,M.aS,M.bI,M.bC,M.cu,M.bQ,M.bJ,M.bF,M.dW,M.eX,M.bW,M.fV,M.fJ,M.iC,M.fO,M.gI,M.fP,M.gJ,M.fQ,M.gQ,M.iJ,M.iU,dI,bP,wY,hp,show i64.wrap (0+1)=1 from rfl,show i64.wrap (1+1)=2 from rfl,show i64.wrap (1+i64.wrap (Int.tdiv 1 3))=1 from rfl,show i64.wrap (1+i64.wrap (Int.tdiv 2 3))=1 from rfl,show i64.wrap (1+i64.wrap (Int.tdiv 3 3))=2 from rfl,show i64.wrap (2+i64.wrap (Int.tdiv 1 3))=2 from rfl,show i64.wrap (2+i64.wrap (Int.tdiv 3 3))=3 from rfl,ge_iff_le,Int.reduceBEq,reduceLE,reduceSub,decide_true,decide_false,bZ,dX,Bool.and_true,Bool.and_false,Bool.true_and,Bool.false_and,aj];generalize (t==[])=a0;generalize (o==[])=a1;cases a0<;>cases a1<;>exact⟨_,rfl,rfl⟩
 have e1:(op==1)=false:=by simpa using h1
 have e3:(op==3)=false:=by simpa using h3
 have hf:True:=trivial;simp only[FOk,M.aA,M.aS,M.bI,M.bC,M.cu,M.bQ,M.bJ,M.bF,M.dW,M.eX,M.bW,M.fV,M.fJ,M.iC,M.fO,M.gI,M.fP,M.gJ,M.fQ,M.gQ,M.iJ,M.iU,dI,bP,wY,hp,e1,e3,hf,ge_iff_le,Int.reduceBEq,reduceLE,reduceSub,decide_true,decide_false,bZ,dX,Bool.and_true,Bool.and_false,Bool.true_and,Bool.false_and,aj];generalize (t==[])=a0;generalize (o==[])=a1;cases a0<;>cases a1<;>exact⟨_,rfl,rfl⟩
def aaY(k:Int)(op:Int)(t o:aT)(kids:ay)(ht:t.length<=1048576)(ho:o.length<=1048576)(hk:kids.length<=400):FOk k op t o kids:=by
 by_cases hkk:k=1\/k=2\/k=3\/k=4\/k=5\/k=6\/k=7\/k=8\/k=9\/k=10\/k=11\/k=12\/k=13\/k=14\/k=15\/k=16\/k=20\/k=22\/k=23\/k=24\/k=25\/k=26\/k=27\/k=28\/k=29\/k=30\/k=31\/k=32\/k=33\/k=34\/k=40\/k=41\/k=44\/k=45
 ·exact akq k op t o kids ht ho hk hkk
 by_cases h21:k=21
 ·subst h21;exact as5 op t o kids ht ho hk
 by_cases h42:k=42
 ·subst h42;exact as6 op t o kids ht ho hk
 by_cases h43:k=43
 ·subst h43;exact as7 op t o kids ht ho hk
 have h1:k≠1:=au;have h2:k≠2:=au;have h3:k≠3:=au;have h4:k≠4:=au;have h5:k≠5:=au;have h6:k≠6:=au;have h7:k≠7:=au;have h8:k≠8:=au;have h9:k≠9:=au;have h10:k≠10:=au;have h11:k≠11:=au;have h12:k≠12:=au;have h13:k≠13:=au;have h14:k≠14:=au;have h15:k≠15:=au;have h16:k≠16:=au;have h20:k≠20:=au;have h22:k≠22:=au;have h23:k≠23:=au;have h24:k≠24:=au;have h25:k≠25:=au;have h26:k≠26:=au;have h27:k≠27:=au;have h28:k≠28:=au;have h29:k≠29:=au;have h30:k≠30:=au;have h31:k≠31:=au;have h32:k≠32:=au;have h33:k≠33:=au;have h34:k≠34:=au;have h40:k≠40:=au;have h41:k≠41:=au;have h44:k≠44:=au;have h45:k≠45:=au;have f1:(decide (k>=1) && decide (k<=16))=false:=by rw[Bool.and_eq_false_iff,decide_eq_false_iff_not,decide_eq_false_iff_not];omega
 have f2:(decide (k>=20) && decide (k<=34))=false:=by rw[Bool.and_eq_false_iff,decide_eq_false_iff_not,decide_eq_false_iff_not];omega
 have f3:(decide (k>=40) && decide (k<=45))=false:=by rw[Bool.and_eq_false_iff,decide_eq_false_iff_not,decide_eq_false_iff_not];omega
 have f4:(decide (k>=1) && decide (k<=15))=false:=by rw[Bool.and_eq_false_iff,decide_eq_false_iff_not,decide_eq_false_iff_not];omega
 have g:(k==16)=false:=by simpa using h16
 have e1:(k==1)=false:=by simpa using h1
 have e2:(k==2)=false:=by simpa using h2
 have e3:(k==3)=false:=by simpa using h3
 have e4:(k==4)=false:=by simpa using h4
 have e5:(k==5)=false:=by simpa using h5
 have e6:(k==6)=false:=by simpa using h6
 have e7:(k==7)=false:=by simpa using h7
 have e8:(k==8)=false:=by simpa using h8
 have e9:(k==9)=false:=by simpa using h9
 have e10:(k==10)=false:=by simpa using h10
 have e11:(k==11)=false:=by simpa using h11
 have e12:(k==12)=false:=by simpa using h12
 have e13:(k==13)=false:=by simpa using h13
 have e14:(k==14)=false:=by simpa using h14
 have e15:(k==15)=false:=by simpa using h15
 have e16:(k==16)=false:=by simpa using h16
 have e20:(k==20)=false:=by simpa using h20
 have e21:(k==21)=false:=by simpa using h21
 have e22:(k==22)=false:=by simpa using h22
 have e23:(k==23)=false:=by simpa using h23
 have e24:(k==24)=false:=by simpa using h24
 have e25:(k==25)=false:=by simpa using h25
 have e26:(k==26)=false:=by simpa using h26
 have e27:(k==27)=false:=by simpa using h27
 have e28:(k==28)=false:=by simpa using h28
 have e29:(k==29)=false:=by simpa using h29
 have e30:(k==30)=false:=by simpa using h30
 have e31:(k==31)=false:=by simpa using h31
 have e32:(k==32)=false:=by simpa using h32
 have e33:(k==33)=false:=by simpa using h33
 have e34:(k==34)=false:=by simpa using h34
 have e40:(k==40)=false:=by simpa using h40
 have e41:(k==41)=false:=by simpa using h41
 have e42:(k==42)=false:=by simpa using h42
 have e43:(k==43)=false:=by simpa using h43
 have e44:(k==44)=false:=by simpa using h44
 have e45:(k==45)=false:=by simpa using h45
 simp only[FOk,M.aA,M.aS,M.bI,M.bC,M.dW,M.eX,M.bW,M.fV,M.fJ,M.iC,dI,bP,f1,f2,f3,f4,e1,e2,e3,e4,e5,e6,e7,e8,e9,e10,e11,e12,e13,e14,e15,e16,e20,e21,e22,e23,e24,e25,e26,e27,e28,e29,e30,e31,e32,e33,e34,e40,e41,e42,e43,e44,e45,dX,aj];exact⟨false,rfl,rfl⟩
end Go.Proofs.YtcallmiaialhkaaGreatDoor
namespace Go.Proofs.YtcallmiaialhkaaGreatDoor
set_option linter.unusedVariables false
set_option linter.unusedSimpArgs false
set_option linter.unusedSectionVars false
open Go Go.Vm
open Go.IntKind (i64)
open Int (reduceLE reduceLT reduceSub reduceAdd)
structure Cons(k op:Int)(n:Nat):Prop where
 two:k=29\/k=30->n=2
 four:k=31->n=4
 rule:k=42->(op=1/\n=1)\/(op=2/\n=1)\/(op=3/\n=2)
 range:k=43->(op=1/\n=2)\/(op=3/\n=3)
def aDK(op:Int)(t o:aT)(kids:ay)(h:M.aA 29 op t o kids=some true):kids.length=2:=by simp only[M.aA,M.aS,M.bI,M.bC,M.cu,M.bQ,M.bJ,M.bF,dI,bP,Int.reduceBEq,reduceLE,reduceLT,reduceSub,reduceAdd,bH,aj] at h;revert h;cases op==0<;>cases t==[]<;>cases o==[]<;>simp<;>omega
def aDL(op:Int)(t o:aT)(kids:ay)(h:M.aA 30 op t o kids=some true):kids.length=2:=by simp only[M.aA,M.aS,M.bI,M.bC,M.cu,M.bQ,M.bJ,M.bF,dI,bP,Int.reduceBEq,reduceLE,reduceLT,reduceSub,reduceAdd,bH,aj] at h;revert h;cases op==0<;>cases t==[]<;>cases o==[]<;>simp<;>omega
def aDM(op:Int)(t o:aT)(kids:ay)(h:M.aA 31 op t o kids=some true):kids.length=4:=by simp only[M.aA,M.aS,M.bI,M.bC,M.cu,M.bQ,M.bJ,M.bF,dI,bP,Int.reduceBEq,reduceLE,reduceLT,reduceSub,reduceAdd,bH,aj] at h;revert h;cases op==0<;>cases t==[]<;>cases o==[]<;>simp<;>omega
def aDN(op:Int)(t o:aT)(kids:ay)(h:M.aA 42 op t o kids=some true):(op=1/\kids.length=1)\/(op=2/\kids.length=1)\/(op=3/\kids.length=2):=by
 by_cases h1:op=1
 ·subst h1;simp only[M.aA,M.aS,M.bI,M.bC,M.cu,M.bQ,M.bJ,M.bF,dI,bP,show i64.wrap (1+i64.wrap (Int.tdiv 1 3))=1 from rfl,show i64.wrap (1+i64.wrap (Int.tdiv 2 3))=1 from rfl,show i64.wrap (1+i64.wrap (Int.tdiv 3 3))=2 from rfl,show i64.wrap (2+i64.wrap (Int.tdiv 1 3))=2 from rfl,show i64.wrap (2+i64.wrap (Int.tdiv 3 3))=3 from rfl,Int.reduceBEq,reduceLE,reduceLT,reduceSub,reduceAdd,bH,aj] at h;revert h;cases t==[]<;>cases o==[]<;>simp<;>omega
 have e1:(op==1)=false:=by simpa using h1
 by_cases h2:op=2
 ·subst h2;simp only[M.aA,M.aS,M.bI,M.bC,M.cu,M.bQ,M.bJ,M.bF,dI,bP,show i64.wrap (1+i64.wrap (Int.tdiv 1 3))=1 from rfl,show i64.wrap (1+i64.wrap (Int.tdiv 2 3))=1 from rfl,show i64.wrap (1+i64.wrap (Int.tdiv 3 3))=2 from rfl,show i64.wrap (2+i64.wrap (Int.tdiv 1 3))=2 from rfl,show i64.wrap (2+i64.wrap (Int.tdiv 3 3))=3 from rfl,Int.reduceBEq,reduceLE,reduceLT,reduceSub,reduceAdd,bH,aj] at h;revert h;cases t==[]<;>cases o==[]<;>simp<;>omega
 have e2:(op==2)=false:=by simpa using h2
 by_cases h3:op=3
 ·subst h3;simp only[M.aA,M.aS,M.bI,M.bC,M.cu,M.bQ,M.bJ,M.bF,dI,bP,show i64.wrap (1+i64.wrap (Int.tdiv 1 3))=1 from rfl,show i64.wrap (1+i64.wrap (Int.tdiv 2 3))=1 from rfl,show i64.wrap (1+i64.wrap (Int.tdiv 3 3))=2 from rfl,show i64.wrap (2+i64.wrap (Int.tdiv 1 3))=2 from rfl,show i64.wrap (2+i64.wrap (Int.tdiv 3 3))=3 from rfl,Int.reduceBEq,reduceLE,reduceLT,reduceSub,reduceAdd,bH,aj] at h;revert h;cases t==[]<;>cases o==[]<;>simp<;>omega
 have e3:(op==3)=false:=by simpa using h3
 have hf:(decide ((1:Int)<=op) && decide (op<=3))=false:=by rw[Bool.and_eq_false_iff,decide_eq_false_iff_not,decide_eq_false_iff_not];omega
 simp only[M.aA,M.aS,M.bI,M.bC,M.cu,M.bQ,M.bJ,M.bF,dI,bP,e1,e2,e3,hf,Int.reduceBEq,reduceLE,reduceLT,reduceSub,reduceAdd,bH,aj] at h;cases h
def aDO(op:Int)(t o:aT)(kids:ay)(h:M.aA 43 op t o kids=some true):(op=1/\kids.length=2)\/(op=3/\kids.length=3):=by
 by_cases h1:op=1
 ·subst h1;simp only[M.aA,M.aS,M.bI,M.bC,M.cu,M.bQ,M.bJ,M.bF,dI,bP,show i64.wrap (1+i64.wrap (Int.tdiv 1 3))=1 from rfl,show i64.wrap (1+i64.wrap (Int.tdiv 2 3))=1 from rfl,show i64.wrap (1+i64.wrap (Int.tdiv 3 3))=2 from rfl,show i64.wrap (2+i64.wrap (Int.tdiv 1 3))=2 from rfl,show i64.wrap (2+i64.wrap (Int.tdiv 3 3))=3 from rfl,Int.reduceBEq,reduceLE,reduceLT,reduceSub,reduceAdd,bH,aj] at h;revert h;cases t==[]<;>cases o==[]<;>simp<;>omega
 have e1:(op==1)=false:=by simpa using h1
 by_cases h3:op=3
 ·subst h3;simp only[M.aA,M.aS,M.bI,M.bC,M.cu,M.bQ,M.bJ,M.bF,dI,bP,show i64.wrap (1+i64.wrap (Int.tdiv 1 3))=1 from rfl,show i64.wrap (1+i64.wrap (Int.tdiv 2 3))=1 from rfl,show i64.wrap (1+i64.wrap (Int.tdiv 3 3))=2 from rfl,show i64.wrap (2+i64.wrap (Int.tdiv 1 3))=2 from rfl,show i64.wrap (2+i64.wrap (Int.tdiv 3 3))=3 from rfl,Int.reduceBEq,reduceLE,reduceLT,reduceSub,reduceAdd,bH,aj] at h;revert h;cases t==[]<;>cases o==[]<;>simp<;>omega
 have e3:(op==3)=false:=by simpa using h3
 have hf:True:=trivial;simp only[M.aA,M.aS,M.bI,M.bC,M.cu,M.bQ,M.bJ,M.bF,dI,bP,e1,e3,hf,Int.reduceBEq,reduceLE,reduceLT,reduceSub,reduceAdd,bH,aj] at h;cases h
def Zt{k op:Int}{t o:aT}{kids:ay}(h:M.aA k op t o kids=some true):Cons k op kids.length:=
 ⟨λe=>(by rcases e with rfl|rfl;exact aDK op t o kids h;exact aDL op t o kids h),λe=>(by subst e;exact aDM op t o kids h),λe=>(by subst e;exact aDN op t o kids h),λe=>(by subst e;exact aDO op t o kids h)⟩
def lN(k:Int):Bool:=decide (1<=k) && decide (k<=15)
def Jr(k:Int):Bool:=k==1||(k==5||k==6)
def PZ(k:Int):Bool:=decide (20<=k) && decide (k<=34)
def isIt(k:Int):Bool:=decide (40<=k) && decide (k<=44)
def aZ(k:Int):M.dO k=some (lN k)/\M.bW k=some (lN k):=by simp only[M.dO,M.zW,M.bW,M.fV,dI,bP,aj,lN,ge_iff_le];constructor<;>first|rfl|trivial
def bf(k:Int):M.vC k=some (PZ k)/\M.fJ k=some (PZ k):=by simp only[M.vC,M.EW,M.fJ,M.iC,dI,bP,aj,PZ,ge_iff_le];constructor<;>first|rfl|trivial
def bg(k:Int):M.bK k 40 44=some (isIt k)/\M.uY k=some (isIt k):=by simp only[M.uY,M.EL,dI,bP,aj,isIt,ge_iff_le];constructor<;>first|rfl|trivial
def aP(k:Int):M.kL k=some (Jr k)/\M.kH k=some (Jr k):=by simp only[M.kL,M.AL,M.kH,M.Am,Jr];cases k==1<;>cases k==5<;>exact⟨rfl,rfl⟩
def as8(k:Int):Jr k=(lN k && Jr k):=by
 by_cases h1:k=1
 ·subst h1;rfl
 by_cases h5:k=5
 ·subst h5;rfl
 by_cases h6:k=6
 ·subst h6;rfl
 have e:Jr k=false:=by simp[Jr,h1,h5,h6]
 rw[e,Bool.and_false]
def qp(k op:Int)(t o:aT)(kids:ay)(j d:Int):Prop:=∃b,M.aJ k op t o kids j d=some b/\M.aU k op t o kids j d=some b
def aDP(op:Int)(t o:aT)(kids:ay)(j d:Int)(h0:0<=j)(h1:j<kids.length)(hk:kids.length<=400)(hc:Cons 1 op kids.length):qp 1 op t o kids j d:=by simp only[qp,M.aJ,M.aI,M.aU,M.aO,aZ,bf,bg,aP,Int.reduceBEq,reduceLE,reduceLT,reduceSub,reduceAdd,bH,aj];generalize (lN d)=a0;cases a0<;>exact⟨_,rfl,rfl⟩
def aDQ(op:Int)(t o:aT)(kids:ay)(j d:Int)(h0:0<=j)(h1:j<kids.length)(hk:kids.length<=400)(hc:Cons 2 op kids.length):qp 2 op t o kids j d:=by simp only[qp,M.aJ,M.aI,M.aU,M.aO,aZ,bf,bg,aP,Int.reduceBEq,reduceLE,reduceLT,reduceSub,reduceAdd,bH,aj];generalize (lN d)=a0;cases a0<;>exact⟨_,rfl,rfl⟩
def aDR(op:Int)(t o:aT)(kids:ay)(j d:Int)(h0:0<=j)(h1:j<kids.length)(hk:kids.length<=400)(hc:Cons 3 op kids.length):qp 3 op t o kids j d:=by simp only[qp,M.aJ,M.aI,M.aU,M.aO,aZ,bf,bg,aP,Int.reduceBEq,reduceLE,reduceLT,reduceSub,reduceAdd,bH,aj];generalize (lN d)=a0;cases a0<;>exact⟨_,rfl,rfl⟩
def aDS(op:Int)(t o:aT)(kids:ay)(j d:Int)(h0:0<=j)(h1:j<kids.length)(hk:kids.length<=400)(hc:Cons 4 op kids.length):qp 4 op t o kids j d:=by simp only[qp,M.aJ,M.aI,M.aU,M.aO,aZ,bf,bg,aP,Int.reduceBEq,reduceLE,reduceLT,reduceSub,reduceAdd,bH,aj];generalize (lN d)=a0;cases a0<;>exact⟨_,rfl,rfl⟩
def aDT(op:Int)(t o:aT)(kids:ay)(j d:Int)(h0:0<=j)(h1:j<kids.length)(hk:kids.length<=400)(hc:Cons 5 op kids.length):qp 5 op t o kids j d:=by simp only[qp,M.aJ,M.aI,M.aU,M.aO,aZ,bf,bg,aP,Int.reduceBEq,reduceLE,reduceLT,reduceSub,reduceAdd,bH,aj];generalize (lN d)=a0;cases a0<;>exact⟨_,rfl,rfl⟩
def aDU(op:Int)(t o:aT)(kids:ay)(j d:Int)(h0:0<=j)(h1:j<kids.length)(hk:kids.length<=400)(hc:Cons 6 op kids.length):qp 6 op t o kids j d:=by simp only[qp,M.aJ,M.aI,M.aU,M.aO,aZ,bf,bg,aP,Int.reduceBEq,reduceLE,reduceLT,reduceSub,reduceAdd,bH,aj];generalize (lN d)=a0;cases a0<;>exact⟨_,rfl,rfl⟩
def aDV(op:Int)(t o:aT)(kids:ay)(j d:Int)(h0:0<=j)(h1:j<kids.length)(hk:kids.length<=400)(hc:Cons 7 op kids.length):qp 7 op t o kids j d:=by simp only[qp,M.aJ,M.aI,M.aU,M.aO,aZ,bf,bg,aP,Int.reduceBEq,reduceLE,reduceLT,reduceSub,reduceAdd,bH,aj];generalize (lN d)=a0;cases a0<;>exact⟨_,rfl,rfl⟩
def aDW(op:Int)(t o:aT)(kids:ay)(j d:Int)(h0:0<=j)(h1:j<kids.length)(hk:kids.length<=400)(hc:Cons 8 op kids.length):qp 8 op t o kids j d:=by simp only[qp,M.aJ,M.aI,M.aU,M.aO,aZ,bf,bg,aP,Int.reduceBEq,reduceLE,reduceLT,reduceSub,reduceAdd,bH,aj];generalize (lN d)=a0;cases a0<;>exact⟨_,rfl,rfl⟩
def aDX(op:Int)(t o:aT)(kids:ay)(j d:Int)(h0:0<=j)(h1:j<kids.length)(hk:kids.length<=400)(hc:Cons 9 op kids.length):qp 9 op t o kids j d:=by simp only[qp,M.aJ,M.aI,M.aU,M.aO,aZ,bf,bg,aP,Int.reduceBEq,reduceLE,reduceLT,reduceSub,reduceAdd,bH,aj];generalize (Jr d)=a0;cases a0<;>exact⟨_,rfl,rfl⟩
def as9(op:Int)(t o:aT)(kids:ay)(j d:Int)(h0:0<=j)(h1:j<kids.length)(hk:kids.length<=400)(hc:Cons 10 op kids.length):qp 10 op t o kids j d:=by simp only[qp,M.aJ,M.aI,M.aU,M.aO,aZ,bf,bg,aP,Int.reduceBEq,reduceLE,reduceLT,reduceSub,reduceAdd,bH,aj];generalize (Jr d)=a0;cases a0<;>exact⟨_,rfl,rfl⟩
def ata(op:Int)(t o:aT)(kids:ay)(j d:Int)(h0:0<=j)(h1:j<kids.length)(hk:kids.length<=400)(hc:Cons 11 op kids.length):qp 11 op t o kids j d:=by simp only[qp,M.aJ,M.aI,M.aU,M.aO,aZ,bf,bg,aP,Int.reduceBEq,reduceLE,reduceLT,reduceSub,reduceAdd,bH,aj];generalize (lN d)=a0;cases a0<;>exact⟨_,rfl,rfl⟩
def atb(op:Int)(t o:aT)(kids:ay)(j d:Int)(h0:0<=j)(h1:j<kids.length)(hk:kids.length<=400)(hc:Cons 12 op kids.length):qp 12 op t o kids j d:=by simp only[qp,M.aJ,M.aI,M.aU,M.aO,aZ,bf,bg,aP,Int.reduceBEq,reduceLE,reduceLT,reduceSub,reduceAdd,bH,aj];generalize (lN d)=a0;cases a0<;>exact⟨_,rfl,rfl⟩
def atc(op:Int)(t o:aT)(kids:ay)(j d:Int)(h0:0<=j)(h1:j<kids.length)(hk:kids.length<=400)(hc:Cons 13 op kids.length):qp 13 op t o kids j d:=by simp only[qp,M.aJ,M.aI,M.aU,M.aO,aZ,bf,bg,aP,Int.reduceBEq,reduceLE,reduceLT,reduceSub,reduceAdd,bH,aj];generalize (lN d)=a0;cases a0<;>exact⟨_,rfl,rfl⟩
def atd(op:Int)(t o:aT)(kids:ay)(j d:Int)(h0:0<=j)(h1:j<kids.length)(hk:kids.length<=400)(hc:Cons 14 op kids.length):qp 14 op t o kids j d:=by simp only[qp,M.aJ,M.aI,M.aU,M.aO,aZ,bf,bg,aP,Int.reduceBEq,reduceLE,reduceLT,reduceSub,reduceAdd,bH,aj];generalize (lN d)=a0;cases a0<;>exact⟨_,rfl,rfl⟩
def ate(op:Int)(t o:aT)(kids:ay)(j d:Int)(h0:0<=j)(h1:j<kids.length)(hk:kids.length<=400)(hc:Cons 15 op kids.length):qp 15 op t o kids j d:=by
 by_cases hj:j=0
 ·subst hj;have hl:=as8 d;simp only[qp,M.aJ,M.aI,M.aU,M.aO,aZ,bf,bg,aP,Int.reduceBEq,reduceLE,reduceLT,reduceSub,reduceAdd,bH,aj];revert hl;cases lN d<;>cases Jr d<;>intro hl<;>first|exact⟨_,rfl,rfl⟩|cases hl
 have e0:(j==0)=false:=by simpa using hj
 have e1:decide (0<j)=true:=zdt au;simp only[qp,M.aJ,M.aI,M.aU,M.aO,aZ,bf,bg,aP,e0,e1,Int.reduceBEq,reduceLE,reduceLT,reduceSub,reduceAdd,bH,aj];generalize (lN d)=a0;cases a0<;>exact⟨_,rfl,rfl⟩
def atf(op:Int)(t o:aT)(kids:ay)(j d:Int)(h0:0<=j)(h1:j<kids.length)(hk:kids.length<=400)(hc:Cons 16 op kids.length):qp 16 op t o kids j d:=by simp only[qp,M.aJ,M.aI,M.aU,M.aO,aZ,bf,bg,aP,Int.reduceBEq,reduceLE,reduceLT,reduceSub,reduceAdd,bH,aj];generalize (lN d)=a0;cases a0<;>exact⟨_,rfl,rfl⟩
def atg(op:Int)(t o:aT)(kids:ay)(j d:Int)(h0:0<=j)(h1:j<kids.length)(hk:kids.length<=400)(hc:Cons 20 op kids.length):qp 20 op t o kids j d:=by simp only[qp,M.aJ,M.aI,M.aU,M.aO,aZ,bf,bg,aP,Int.reduceBEq,reduceLE,reduceLT,reduceSub,reduceAdd,bH,aj];generalize (lN d)=a0;cases a0<;>exact⟨_,rfl,rfl⟩
def ath(op:Int)(t o:aT)(kids:ay)(j d:Int)(h0:0<=j)(h1:j<kids.length)(hk:kids.length<=400)(hc:Cons 21 op kids.length):qp 21 op t o kids j d:=by simp only[qp,M.aJ,M.aI,M.aU,M.aO,aZ,bf,bg,aP,Int.reduceBEq,reduceLE,reduceLT,reduceSub,reduceAdd,bH,aj];generalize (lN d)=a0;cases a0<;>exact⟨_,rfl,rfl⟩
def ati(op:Int)(t o:aT)(kids:ay)(j d:Int)(h0:0<=j)(h1:j<kids.length)(hk:kids.length<=400)(hc:Cons 22 op kids.length):qp 22 op t o kids j d:=by simp only[qp,M.aJ,M.aI,M.aU,M.aO,aZ,bf,bg,aP,Int.reduceBEq,reduceLE,reduceLT,reduceSub,reduceAdd,bH,aj];generalize (lN d)=a0;cases a0<;>exact⟨_,rfl,rfl⟩
def atj(op:Int)(t o:aT)(kids:ay)(j d:Int)(h0:0<=j)(h1:j<kids.length)(hk:kids.length<=400)(hc:Cons 23 op kids.length):qp 23 op t o kids j d:=by simp only[qp,M.aJ,M.aI,M.aU,M.aO,aZ,bf,bg,aP,Int.reduceBEq,reduceLE,reduceLT,reduceSub,reduceAdd,bH,aj];generalize (lN d)=a0;cases a0<;>exact⟨_,rfl,rfl⟩
def atl(op:Int)(t o:aT)(kids:ay)(j d:Int)(h0:0<=j)(h1:j<kids.length)(hk:kids.length<=400)(hc:Cons 24 op kids.length):qp 24 op t o kids j d:=by simp only[qp,M.aJ,M.aI,M.aU,M.aO,aZ,bf,bg,aP,Int.reduceBEq,reduceLE,reduceLT,reduceSub,reduceAdd,bH,aj];generalize (lN d)=a0;cases a0<;>exact⟨_,rfl,rfl⟩
def atm(op:Int)(t o:aT)(kids:ay)(j d:Int)(h0:0<=j)(h1:j<kids.length)(hk:kids.length<=400)(hc:Cons 25 op kids.length):qp 25 op t o kids j d:=by simp only[qp,M.aJ,M.aI,M.aU,M.aO,aZ,bf,bg,aP,Int.reduceBEq,reduceLE,reduceLT,reduceSub,reduceAdd,bH,aj];generalize (lN d)=a0;cases a0<;>exact⟨_,rfl,rfl⟩
def atn(op:Int)(t o:aT)(kids:ay)(j d:Int)(h0:0<=j)(h1:j<kids.length)(hk:kids.length<=400)(hc:Cons 26 op kids.length):qp 26 op t o kids j d:=by simp only[qp,M.aJ,M.aI,M.aU,M.aO,aZ,bf,bg,aP,Int.reduceBEq,reduceLE,reduceLT,reduceSub,reduceAdd,bH,aj];generalize (lN d)=a0;cases a0<;>exact⟨_,rfl,rfl⟩
def ato(op:Int)(t o:aT)(kids:ay)(j d:Int)(h0:0<=j)(h1:j<kids.length)(hk:kids.length<=400)(hc:Cons 27 op kids.length):qp 27 op t o kids j d:=by simp only[qp,M.aJ,M.aI,M.aU,M.aO,aZ,bf,bg,aP,Int.reduceBEq,reduceLE,reduceLT,reduceSub,reduceAdd,bH,aj];generalize (lN d)=a0;cases a0<;>exact⟨_,rfl,rfl⟩
def atp(op:Int)(t o:aT)(kids:ay)(j d:Int)(h0:0<=j)(h1:j<kids.length)(hk:kids.length<=400)(hc:Cons 28 op kids.length):qp 28 op t o kids j d:=by
 by_cases hj:j=0
 ·subst hj;simp only[qp,M.aJ,M.aI,M.aU,M.aO,aZ,bf,bg,aP,Int.reduceBEq,reduceLE,reduceLT,reduceSub,reduceAdd,bH,aj];generalize (lN d)=a0;generalize (d==33)=a1;cases a0<;>cases a1<;>exact⟨_,rfl,rfl⟩
 have e0:(j==0)=false:=by simpa using hj
 have e1:decide (0<j)=true:=zdt au;simp only[qp,M.aJ,M.aI,M.aU,M.aO,aZ,bf,bg,aP,e0,e1,Int.reduceBEq,reduceLE,reduceLT,reduceSub,reduceAdd,bH,aj];generalize (d==33)=a0;cases a0<;>exact⟨_,rfl,rfl⟩
def atq(op:Int)(t o:aT)(kids:ay)(j d:Int)(h0:0<=j)(h1:j<kids.length)(hk:kids.length<=400)(hc:Cons 29 op kids.length):qp 29 op t o kids j d:=by
 have hl:=hc.two au;obtain rfl|rfl:j=0\/j=1:=au
 ·simp only[qp,M.aJ,M.aI,M.aU,M.aO,aZ,bf,bg,aP,Int.reduceBEq,reduceLE,reduceLT,reduceSub,reduceAdd,bH,aj];generalize (lN d)=a0;generalize (d==33)=a1;cases a0<;>cases a1<;>exact⟨_,rfl,rfl⟩
 ·simp only[qp,M.aJ,M.aI,M.aU,M.aO,aZ,bf,bg,aP,Int.reduceBEq,reduceLE,reduceLT,reduceSub,reduceAdd,bH,aj];generalize (lN d)=a0;generalize (d==33)=a1;cases a0<;>cases a1<;>exact⟨_,rfl,rfl⟩
def atr(op:Int)(t o:aT)(kids:ay)(j d:Int)(h0:0<=j)(h1:j<kids.length)(hk:kids.length<=400)(hc:Cons 30 op kids.length):qp 30 op t o kids j d:=by
 have hl:=hc.two au;obtain rfl|rfl:j=0\/j=1:=au
 ·simp only[qp,M.aJ,M.aI,M.aU,M.aO,aZ,bf,bg,aP,Int.reduceBEq,reduceLE,reduceLT,reduceSub,reduceAdd,bH,aj];generalize (lN d)=a0;generalize (d==33)=a1;cases a0<;>cases a1<;>exact⟨_,rfl,rfl⟩
 ·simp only[qp,M.aJ,M.aI,M.aU,M.aO,aZ,bf,bg,aP,Int.reduceBEq,reduceLE,reduceLT,reduceSub,reduceAdd,bH,aj];generalize (lN d)=a0;generalize (d==33)=a1;cases a0<;>cases a1<;>exact⟨_,rfl,rfl⟩
def atu(op:Int)(t o:aT)(kids:ay)(j d:Int)(h0:0<=j)(h1:j<kids.length)(hk:kids.length<=400)(hc:Cons 31 op kids.length):qp 31 op t o kids j d:=by
 have hl:=hc.four rfl;have hw:i64.wrap ((kids.length:Int) - 1)=3:=by rw[hl];rfl
 obtain rfl|rfl|rfl|rfl:j=0\/j=1\/j=2\/j=3:=au
 ·simp only[qp,M.aJ,M.aI,M.aU,M.aO,aZ,bf,bg,aP,hw,Int.reduceBEq,reduceLE,reduceLT,reduceSub,reduceAdd,bH,aj];generalize (lN d)=a0;generalize (d==16)=a1;generalize (d==33)=a2;cases a0<;>cases a1<;>cases a2<;>exact⟨_,rfl,rfl⟩
 ·simp only[qp,M.aJ,M.aI,M.aU,M.aO,aZ,bf,bg,aP,hw,Int.reduceBEq,reduceLE,reduceLT,reduceSub,reduceAdd,bH,aj];generalize (lN d)=a0;generalize (d==16)=a1;generalize (d==33)=a2;cases a0<;>cases a1<;>cases a2<;>exact⟨_,rfl,rfl⟩
 ·simp only[qp,M.aJ,M.aI,M.aU,M.aO,aZ,bf,bg,aP,hw,Int.reduceBEq,reduceLE,reduceLT,reduceSub,reduceAdd,bH,aj];generalize (lN d)=a0;generalize (d==16)=a1;generalize (d==33)=a2;cases a0<;>cases a1<;>cases a2<;>exact⟨_,rfl,rfl⟩
 ·simp only[qp,M.aJ,M.aI,M.aU,M.aO,aZ,bf,bg,aP,hw,Int.reduceBEq,reduceLE,reduceLT,reduceSub,reduceAdd,bH,aj];generalize (lN d)=a0;generalize (d==16)=a1;generalize (d==33)=a2;cases a0<;>cases a1<;>cases a2<;>exact⟨_,rfl,rfl⟩
def atv(op:Int)(t o:aT)(kids:ay)(j d:Int)(h0:0<=j)(h1:j<kids.length)(hk:kids.length<=400)(hc:Cons 32 op kids.length):qp 32 op t o kids j d:=by simp only[qp,M.aJ,M.aI,M.aU,M.aO,aZ,bf,bg,aP,Int.reduceBEq,reduceLE,reduceLT,reduceSub,reduceAdd,bH,aj];generalize (d==33)=a0;cases a0<;>exact⟨_,rfl,rfl⟩
def atw(op:Int)(t o:aT)(kids:ay)(j d:Int)(h0:0<=j)(h1:j<kids.length)(hk:kids.length<=400)(hc:Cons 33 op kids.length):qp 33 op t o kids j d:=by simp only[qp,M.aJ,M.aI,M.aU,M.aO,aZ,bf,bg,aP,Int.reduceBEq,reduceLE,reduceLT,reduceSub,reduceAdd,bH,aj];generalize (PZ d)=a0;cases a0<;>exact⟨_,rfl,rfl⟩
def atx(op:Int)(t o:aT)(kids:ay)(j d:Int)(h0:0<=j)(h1:j<kids.length)(hk:kids.length<=400)(hc:Cons 34 op kids.length):qp 34 op t o kids j d:=by simp only[qp,M.aJ,M.aI,M.aU,M.aO,aZ,bf,bg,aP,Int.reduceBEq,reduceLE,reduceLT,reduceSub,reduceAdd,bH,aj];generalize (lN d)=a0;cases a0<;>exact⟨_,rfl,rfl⟩
def aty(op:Int)(t o:aT)(kids:ay)(j d:Int)(h0:0<=j)(h1:j<kids.length)(hk:kids.length<=400)(hc:Cons 40 op kids.length):qp 40 op t o kids j d:=by simp only[qp,M.aJ,M.aI,M.aU,M.aO,aZ,bf,bg,aP,Int.reduceBEq,reduceLE,reduceLT,reduceSub,reduceAdd,bH,aj];generalize (d==33)=a0;cases a0<;>exact⟨_,rfl,rfl⟩
def atz(op:Int)(t o:aT)(kids:ay)(j d:Int)(h0:0<=j)(h1:j<kids.length)(hk:kids.length<=400)(hc:Cons 41 op kids.length):qp 41 op t o kids j d:=by simp only[qp,M.aJ,M.aI,M.aU,M.aO,aZ,bf,bg,aP,Int.reduceBEq,reduceLE,reduceLT,reduceSub,reduceAdd,bH,aj];generalize (d==33)=a0;cases a0<;>exact⟨_,rfl,rfl⟩
def atA(op:Int)(t o:aT)(kids:ay)(j d:Int)(h0:0<=j)(h1:j<kids.length)(hk:kids.length<=400)(hc:Cons 42 op kids.length):qp 42 op t o kids j d:=by
 rcases hc.rule rfl with⟨rfl,hl⟩|⟨rfl,hl⟩|⟨rfl,hl⟩
 ·have hw:i64.wrap ((kids.length:Int) - 1)=0:=by rw[hl];rfl
  obtain rfl:j=0:=au;simp only[qp,M.aJ,M.aI,M.aU,M.aO,aZ,bf,bg,aP,hw,Int.reduceBEq,reduceLE,reduceLT,reduceSub,reduceAdd,bH,aj];generalize (lN d)=a0;generalize (d==33)=a1;cases a0<;>cases a1<;>exact⟨_,rfl,rfl⟩
 ·have hw:i64.wrap ((kids.length:Int) - 1)=0:=by rw[hl];rfl
  obtain rfl:j=0:=au;simp only[qp,M.aJ,M.aI,M.aU,M.aO,aZ,bf,bg,aP,hw,Int.reduceBEq,reduceLE,reduceLT,reduceSub,reduceAdd,bH,aj];generalize (lN d)=a0;generalize (d==33)=a1;cases a0<;>cases a1<;>exact⟨_,rfl,rfl⟩
 ·have hw:i64.wrap ((kids.length:Int) - 1)=1:=by rw[hl];rfl
  obtain rfl|rfl:j=0\/j=1:=au
  ·simp only[qp,M.aJ,M.aI,M.aU,M.aO,aZ,bf,bg,aP,hw,Int.reduceBEq,reduceLE,reduceLT,reduceSub,reduceAdd,bH,aj];generalize (lN d)=a0;generalize (d==33)=a1;cases a0<;>cases a1<;>exact⟨_,rfl,rfl⟩
  ·simp only[qp,M.aJ,M.aI,M.aU,M.aO,aZ,bf,bg,aP,hw,Int.reduceBEq,reduceLE,reduceLT,reduceSub,reduceAdd,bH,aj];generalize (lN d)=a0;generalize (d==33)=a1;cases a0<;>cases a1<;>exact⟨_,rfl,rfl⟩
def atC(op:Int)(t o:aT)(kids:ay)(j d:Int)(h0:0<=j)(h1:j<kids.length)(hk:kids.length<=400)(hc:Cons 43 op kids.length):qp 43 op t o kids j d:=by
 rcases hc.range rfl with⟨rfl,hl⟩|⟨rfl,hl⟩
 ·have hw:i64.wrap ((kids.length:Int) - 1)=1:=by rw[hl];rfl
  obtain rfl|rfl:j=0\/j=1:=au
  ·simp only[qp,M.aJ,M.aI,M.aU,M.aO,aZ,bf,bg,aP,hw,Int.reduceBEq,reduceLE,reduceLT,reduceSub,reduceAdd,bH,aj];generalize (lN d)=a0;generalize (d==33)=a1;cases a0<;>cases a1<;>exact⟨_,rfl,rfl⟩
  ·simp only[qp,M.aJ,M.aI,M.aU,M.aO,aZ,bf,bg,aP,hw,Int.reduceBEq,reduceLE,reduceLT,reduceSub,reduceAdd,bH,aj];generalize (lN d)=a0;generalize (d==33)=a1;cases a0<;>cases a1<;>exact⟨_,rfl,rfl⟩
 ·have hw:i64.wrap ((kids.length:Int) - 1)=2:=by rw[hl];rfl
  obtain rfl|rfl|rfl:j=0\/j=1\/j=2:=au
  ·simp only[qp,M.aJ,M.aI,M.aU,M.aO,aZ,bf,bg,aP,hw,Int.reduceBEq,reduceLE,reduceLT,reduceSub,reduceAdd,bH,aj];generalize (lN d)=a0;generalize (d==33)=a1;cases a0<;>cases a1<;>exact⟨_,rfl,rfl⟩
  ·simp only[qp,M.aJ,M.aI,M.aU,M.aO,aZ,bf,bg,aP,hw,Int.reduceBEq,reduceLE,reduceLT,reduceSub,reduceAdd,bH,aj];generalize (lN d)=a0;generalize (d==33)=a1;cases a0<;>cases a1<;>exact⟨_,rfl,rfl⟩
  ·simp only[qp,M.aJ,M.aI,M.aU,M.aO,aZ,bf,bg,aP,hw,Int.reduceBEq,reduceLE,reduceLT,reduceSub,reduceAdd,bH,aj];generalize (lN d)=a0;generalize (d==33)=a1;cases a0<;>cases a1<;>exact⟨_,rfl,rfl⟩
def atD(op:Int)(t o:aT)(kids:ay)(j d:Int)(h0:0<=j)(h1:j<kids.length)(hk:kids.length<=400)(hc:Cons 44 op kids.length):qp 44 op t o kids j d:=by simp only[qp,M.aJ,M.aI,M.aU,M.aO,aZ,bf,bg,aP,Int.reduceBEq,reduceLE,reduceLT,reduceSub,reduceAdd,bH,aj];generalize (j==i64.wrap ((kids.length:Int) - 1))=a0;generalize (d==33)=a1;generalize (d==1)=a2;cases a0<;>cases a1<;>cases a2<;>exact⟨_,rfl,rfl⟩
def atE(op:Int)(t o:aT)(kids:ay)(j d:Int)(h0:0<=j)(h1:j<kids.length)(hk:kids.length<=400)(hc:Cons 45 op kids.length):qp 45 op t o kids j d:=by simp only[qp,M.aJ,M.aI,M.aU,M.aO,aZ,bf,bg,aP,Int.reduceBEq,reduceLE,reduceLT,reduceSub,reduceAdd,bH,aj];generalize (isIt d)=a0;generalize (d==34)=a1;cases a0<;>cases a1<;>exact⟨_,rfl,rfl⟩
def aoj(k:Int)(op:Int)(t o:aT)(kids:ay)(j d:Int)(hj0:0<=j)(hj1:j<kids.length)(hk:kids.length<=400)(hc:Cons k op kids.length):qp k op t o kids j d:=by
 by_cases h1:k=1
 ·subst h1;exact aDP op t o kids j d hj0 hj1 hk hc
 by_cases h2:k=2
 ·subst h2;exact aDQ op t o kids j d hj0 hj1 hk hc
 by_cases h3:k=3
 ·subst h3;exact aDR op t o kids j d hj0 hj1 hk hc
 by_cases h4:k=4
 ·subst h4;exact aDS op t o kids j d hj0 hj1 hk hc
 by_cases h5:k=5
 ·subst h5;exact aDT op t o kids j d hj0 hj1 hk hc
 by_cases h6:k=6
 ·subst h6;exact aDU op t o kids j d hj0 hj1 hk hc
 by_cases h7:k=7
 ·subst h7;exact aDV op t o kids j d hj0 hj1 hk hc
 by_cases h8:k=8
 ·subst h8;exact aDW op t o kids j d hj0 hj1 hk hc
 by_cases h9:k=9
 ·subst h9;exact aDX op t o kids j d hj0 hj1 hk hc
 by_cases h10:k=10
 ·subst h10;exact as9 op t o kids j d hj0 hj1 hk hc
 by_cases h11:k=11
 ·subst h11;exact ata op t o kids j d hj0 hj1 hk hc
 by_cases h12:k=12
 ·subst h12;exact atb op t o kids j d hj0 hj1 hk hc
 by_cases h13:k=13
 ·subst h13;exact atc op t o kids j d hj0 hj1 hk hc
 by_cases h14:k=14
 ·subst h14;exact atd op t o kids j d hj0 hj1 hk hc
 by_cases h15:k=15
 ·subst h15;exact ate op t o kids j d hj0 hj1 hk hc
 by_cases h16:k=16
 ·subst h16;exact atf op t o kids j d hj0 hj1 hk hc
 by_cases h20:k=20
 ·subst h20;exact atg op t o kids j d hj0 hj1 hk hc
 by_cases h21:k=21
 ·subst h21;exact ath op t o kids j d hj0 hj1 hk hc
 by_cases h22:k=22
 ·subst h22;exact ati op t o kids j d hj0 hj1 hk hc
 by_cases h23:k=23
 ·subst h23;exact atj op t o kids j d hj0 hj1 hk hc
 by_cases h24:k=24
 ·subst h24;exact atl op t o kids j d hj0 hj1 hk hc
 by_cases h25:k=25
 ·subst h25;exact atm op t o kids j d hj0 hj1 hk hc
 by_cases h26:k=26
 ·subst h26;exact atn op t o kids j d hj0 hj1 hk hc
 by_cases h27:k=27
 ·subst h27;exact ato op t o kids j d hj0 hj1 hk hc
 by_cases h28:k=28
 ·subst h28;exact atp op t o kids j d hj0 hj1 hk hc
 by_cases h29:k=29
 ·subst h29;exact atq op t o kids j d hj0 hj1 hk hc
 by_cases h30:k=30
 ·subst h30;exact atr op t o kids j d hj0 hj1 hk hc
 by_cases h31:k=31
 ·subst h31;exact atu op t o kids j d hj0 hj1 hk hc
 by_cases h32:k=32
 ·subst h32;exact atv op t o kids j d hj0 hj1 hk hc
 by_cases h33:k=33
 ·subst h33;exact atw op t o kids j d hj0 hj1 hk hc
 by_cases h34:k=34
 ·subst h34;exact atx op t o kids j d hj0 hj1 hk hc
 by_cases h40:k=40
 ·subst h40;exact aty op t o kids j d hj0 hj1 hk hc
 by_cases h41:k=41
 ·subst h41;exact atz op t o kids j d hj0 hj1 hk hc
 by_cases h42:k=42
 ·subst h42;exact atA op t o kids j d hj0 hj1 hk hc
 by_cases h43:k=43
 ·subst h43;exact atC op t o kids j d hj0 hj1 hk hc
 by_cases h44:k=44
 ·subst h44;exact atD op t o kids j d hj0 hj1 hk hc
 by_cases h45:k=45
 ·subst h45;exact atE op t o kids j d hj0 hj1 hk hc
 have e1:(k==1)=false:=by simpa using h1
 have e2:(k==2)=false:=by simpa using h2
 have e3:(k==3)=false:=by simpa using h3
 have e4:(k==4)=false:=by simpa using h4
 have e5:(k==5)=false:=by simpa using h5
 have e6:(k==6)=false:=by simpa using h6
 have e7:(k==7)=false:=by simpa using h7
 have e8:(k==8)=false:=by simpa using h8
 have e9:(k==9)=false:=by simpa using h9
 have e10:(k==10)=false:=by simpa using h10
 have e11:(k==11)=false:=by simpa using h11
 have e12:(k==12)=false:=by simpa using h12
 have e13:(k==13)=false:=by simpa using h13
 have e14:(k==14)=false:=by simpa using h14
 have e15:(k==15)=false:=by simpa using h15
 have e16:(k==16)=false:=by simpa using h16
 have e20:(k==20)=false:=by simpa using h20
 have e21:(k==21)=false:=by simpa using h21
 have e22:(k==22)=false:=by simpa using h22
 have e23:(k==23)=false:=by simpa using h23
 have e24:(k==24)=false:=by simpa using h24
 have e25:(k==25)=false:=by simpa using h25
 have e26:(k==26)=false:=by simpa using h26
 have e27:(k==27)=false:=by simpa using h27
 have e28:(k==28)=false:=by simpa using h28
 have e29:(k==29)=false:=by simpa using h29
 have e30:(k==30)=false:=by simpa using h30
 have e31:(k==31)=false:=by simpa using h31
 have e32:(k==32)=false:=by simpa using h32
 have e33:(k==33)=false:=by simpa using h33
 have e34:(k==34)=false:=by simpa using h34
 have e40:(k==40)=false:=by simpa using h40
 have e41:(k==41)=false:=by simpa using h41
 have e42:(k==42)=false:=by simpa using h42
 have e43:(k==43)=false:=by simpa using h43
 have e44:(k==44)=false:=by simpa using h44
 have e45:(k==45)=false:=by simpa using h45
 simp only[qp,M.aJ,M.aI,M.aU,M.aO,aZ,bf,bg,aP,e1,e2,e3,e4,e5,e6,e7,e8,e9,e10,e11,e12,e13,e14,e15,e16,e20,e21,e22,e23,e24,e25,e26,e27,e28,e29,e30,e31,e32,e33,e34,e40,e41,e42,e43,e44,e45,dX,aj];exact⟨_,rfl,rfl⟩
end Go.Proofs.YtcallmiaialhkaaGreatDoor
namespace Go.Proofs.YtcallmiaialhkaaGreatDoor
set_option linter.unusedVariables false
set_option linter.unusedSimpArgs false
open Go Go.Vm
open Go.IntKind (i64)
open Int (reduceLE reduceLT reduceSub reduceAdd)
def J6(x lo hi:Int):M.bK x lo hi=some (decide (lo<=x) && decide (x<=hi)):=by
 simp only[M.bK,M.qY]
 by_cases h:lo<=x
 ·rw[zdt (show x>=lo from h)];rfl
 ·rw[pX (show¬x>=lo from h)];rfl
def Hy(x lo hi:Int):M.aQ x lo hi=some (decide (lo<=x) && decide (x<=hi)):=by
 simp only[M.aQ,M.oV]
 by_cases h:lo<=x
 ·rw[zdt (show x>=lo from h)];rfl
 ·rw[pX (show¬x>=lo from h)];rfl
def VY:∀k:List Int,QF (encI k)=some k
 |[]=>rfl
 |x::k=>by have:encI (x::k)=[D.int .i64 x]::encI k:=rfl;rw[this];simp only[QF,VY k,Eh]
def nk(n:Nd):Nk:=⟨n.kind,n.op,⟨⟨n.text⟩⟩,⟨⟨n.other⟩⟩,n.kids⟩
def Yh(o:Bool):∀l:List Nd,(∀n,n∈l->n.kids.length<=1048576)->Lr (aH o l)=some (l.map nk)
 |[],_=>rfl
 |n::l,h=>by
  have:aH o (n::l)=DC o n::aH o l:=rfl;rw[this,Lr];have hk:acn (DC o n)=some (nk n):=by simp only[DC,acn,VY,aj];rw[if_pos (h n List.mem_cons_self)];rfl
  rw[hk,aj,Yh o l (λm hm=>h m (zmm _ hm))];rfl
def atF(l:List Nd):(l.map nk).map (·.kids)=ks l:=by simp[ks,nk]
def Tc(l:List Nd)(o:Bool)(hl:l.length<=1048576)(hk:∀n,n∈l->n.kids.length<=1048576):M.qH (aH o l)=some (yu l):=by
 simp only[M.qH,M.Cj,M.iy,Yh o l hk,aj,atF,zaw];rw[if_pos hl,yu];cases jY (ks l) with
 |none=>rfl
 |some st=>rfl
def P5(l:List Nd)(o:Bool){i:Nat}{n:Nd}{st:List Int}(hi:l[i]? =some n)(hl:l.length<=1048576)(hkl:n.kids.length<=1048576)(hst:PW st)(hs:st.length=i):
  ∀(j:Nat) (a:Int),j<=n.kids.length->0<=a->a<=i->M.lX (aH o l) (i:Int) (encI st) (a,(j:Int) - 1)=some (match dN st (n.kids.take j).reverse (a - 1) with
   |none=> .inl ()
   |some r=> .inr (r+1, -1))
 |0,a,hj,h0,h1=>by rw[M.lX];apply dJ;simp only[M.vZ,M.pJ];rw[pX au,dX,List.take_zero,List.reverse_nil,dN];simp
 |j+1,a,hj,h0,h1=>by
  have hlt:i<l.length:=(FK.1 hi).1;obtain⟨k,hk⟩:∃k,n.kids[j]? =some k:=⟨n.kids[j]'au,by simp⟩
  have ht:(n.kids.take (j+1)).reverse=k::(n.kids.take j).reverse:=by rw[List.take_add_one,hk,Option.toList_some,List.reverse_append];rfl
  rw[ht,dN];have e1:(((j+1:Nat):Int) - 1)=(j:Int):=au;rw[e1];have hstep:M.vZ (aH o l) (i:Int) (encI st) (a,(j:Int))=if a - 1<0\/k≠a - 1 then some (.inr (.inl ())) else some (.inl (st[k.toNat]?.getD 0,(j:Int) - 1)):=by
   simp only[M.vZ,M.pJ,bT,dQ,hi,Eh,aj,RU,lM,hk,U4];rw[zdt au,bZ,aB (n:=a - 1) au au]
   by_cases h2:k=a - 1
   ·have:(k !=a - 1)=false:=by simp[h2]
    rw[this,dX]
    by_cases h3:a=0
    ·have:(a==0)=true:=by simp[h3]
     rw[this,bZ,if_pos (.inl au)]
    ·have:(a==0)=false:=by simp[h3]
     rw[this,dX,if_neg au];obtain⟨d,hd⟩:∃d:Nat,a - 1=(d:Int):=⟨(a - 1).toNat,au⟩
     have hdl:d<st.length:=au;rw[h2,hd];simp only[aaA,bT,lM,Qi];rw[List.getElem?_eq_getElem hdl];simp only[Eh,aj,U4,Option.getD_some];rw[aB au au]
   ·have:(k !=a - 1)=true:=by simp[h2]
    rw[this,bZ,if_pos (.inr h2)]
  by_cases hc:a - 1<0\/k≠a - 1
  ·rw[if_pos hc];rw[if_pos hc] at hstep;exact dJ hstep
  ·rw[if_neg hc];rw[if_neg hc] at hstep;rw[M.lX,iD hstep];have hz:=Jm hst k.toNat;have:=P5 l o hi hl hkl hst hs j (st[k.toNat]?.getD 0) au hz.1 au;rw[M.lX] at this;exact this
def ND(l:List Nd)(o:Bool)(hl:l.length<=1048576)(hk:∀n,n∈l->n.kids.length<=1048576):∀(rest:List Nd) (i:Nat) (st:List Int),l.drop i=rest->st.length=i->i<=l.length->PW st->
  M.lY (aH o l) ((i:Int),encI st)=some (match gu st (ks rest) with
   |none=> .inl ()
   |some r=> .inr ((l.length:Int),encI r))
 |[],i,st,hd,hs,hi,hst=>by have:l.length<=i:=List.drop_eq_nil_iff.1 hd;rw[M.lY];apply dJ;simp only[BF,M.wo,M.pR,bn];rw[pX au,dX];have:i=l.length:=au;subst this;rfl
 |n::rest,i,st,hd,hs,hi,hst=>by
  have hn:l[i]? =some n:=by
   have:(l.drop i)[0]? =some n:=by rw[hd];rfl
   simpa using this
  have hlt:i<l.length:=(FK.1 hn).1;have hd':l.drop (i+1)=rest:=by rw[<-List.drop_drop,hd];rfl
  have hkn:=hk n (OQ hn);have hin:=P5 l o hn hl hkn hst hs n.kids.length (i:Int) (zav _) au au;rw[List.take_length] at hin;have hks:ks (n::rest)=n.kids::ks rest:=rfl;rw[hks,gu,hs];have hstep:M.wo (aH o l) ((i:Int),encI st)=some (match dN st n.kids.reverse ((i:Int) - 1) with
    |none=> .inr (.inl ())
    |some a=> .inl (((i+1:Nat):Int),encI (st++[a+1]))):=by
   simp only[BF,M.wo,M.pR,bn,bT,dQ,hn,Eh,aj,RU,dw];rw[zdt au,bZ,aB (n:=(n.kids.length:Int) - 1) au au,hin];cases hw:dN st n.kids.reverse ((i:Int) - 1) with
   |none=>rfl
   |some a=>simp only[aj,qy,letE,QX];rw[dV au,bZ,dV au,bZ,aB au au];simp[encI]
  cases hw:dN st n.kids.reverse ((i:Int) - 1) with
  |none=>rw[hw] at hstep;exact dJ hstep
  |some a=>rw[hw] at hstep;rw[M.lY,iD hstep];have hr:=Ba hst _ _ _ au au hw;have:=ND l o hl hk rest (i+1) (st++[a+1]) hd' (by simp[hs]) hlt (MH hst hr.1 hr.2);rw[M.lY] at this;exact this
def KA(l:List Nd)(o:Bool)(hl:l.length<=1048576)(hk:∀n,n∈l->n.kids.length<=1048576):M.mP (aH o l)=some (yu l):=by
 simp only[M.mP,M.CS,J6,aj,bn]
 by_cases h1:1<=l.length/\l.length<=400
 ·have hb:(decide ((1:Int)<=(l.length:Int)) && decide ((l.length:Int)<=400))=true:=by simp;omega
  rw[hb,zau,dX];have h:=ND l o hl hk l 0 [] rfl rfl (Nat.zero_le _) Lp;have e0:((0:Nat):Int)=0:=rfl;rw[e0] at h;simp only[M.rU,M.Ar];rw[show([]:ay)=encI [] from rfl,h,yu,jY,if_pos (by rw[GI];exact h1)];cases hs:gu [] (ks l) with
  |none=>rfl
  |some r=>
   have hrl:r.length=l.length:=by have:=JV _ _ _ hs;rw[GI] at this;simpa using this
   simp only[aj,qy,letE,wS,bZ];rw[aB au au,show(l.length:Int) - 1=((l.length - 1:Nat):Int) by omega];simp only[aaA,bT,lM,Qi];rw[List.getElem?_eq_getElem au];simp only[Eh,aj,U4,Option.getD_some]
 ·have hb:(decide ((1:Int)<=(l.length:Int)) && decide ((l.length:Int)<=400))=false:=by
   cases hq:(decide ((1:Int)<=(l.length:Int)) && decide ((l.length:Int)<=400)) with
   |false=>rfl
   |true=>simp at hq;omega
  rw[hb,Bool.not_false,bZ,yu,jY,if_neg (by rw[GI];exact h1)]
def Yi{st:List Int}(h:PW st):∀(l:List Int) (a r:Int),a<st.length->dN st l a=some r->∀k,k∈l->0<=k/\k<st.length
 |[],a,r,h1,e,k,hk=>absurd hk List.not_mem_nil
 |x::l,a,r,h1,e,k,hk=>by
  rw[dN] at e;split at e
  ·cases e
  ·rename_i hc;have hz:=Jm h x.toNat;rcases List.mem_cons.1 hk with rfl|hk
   ·omega
   ·exact Yi h l _ r au e k hk
def Sm:∀(l:List (List Int)) (st r:List Int),PW st->gu st l=some r->∀(i:Nat) n,l[i]? =some n->∀k,k∈n->0<=k/\k<st.length+i
 |[],st,r,h0,h,i,n,hn=>by simp at hn
 |m::l,st,r,h0,h,i,n,hn=>by
  rw[gu] at h;split at h
  ·cases h
  ·rename_i a ha;have hr:=Ba h0 _ _ _ au au ha;cases i with
   |zero=>simp only[List.getElem?_cons_zero,dG] at hn;subst hn;intro k hk;have:=Yi h0 _ _ _ au ha k (List.mem_reverse.2 hk);omega
   |succ i=>simp only[List.getElem?_cons_succ] at hn;intro k hk;have:=Sm l _ r (MH h0 hr.1 hr.2) h i n hn k hk;simp at this;omega
def Yj{l:List Nd}(h:yu l=true):1<=l.length/\l.length<=400:=by
 unfold yu at h;cases hs:jY (ks l) with
 |none=>rw[hs] at h;cases h
 |some r=>
  unfold jY at hs;split at hs
  ·rename_i hq;rw[GI] at hq;exact hq
  ·cases hs
def NG:∀(l:List (List Int)) (st r:List Int),gu st l=some r->∃t,r=st++t
 |[],st,r,h=>by rw[gu] at h;cases h;exact⟨[],by simp⟩
 |n::l,st,r,h=>by
  rw[gu] at h;split at h
  ·cases h
  ·obtain⟨t,ht⟩:=NG l _ r h;exact⟨_,by rw[ht,BD]⟩
def aaZ{st t:List Int}(h:PW st):∀(ks:List Int) (a:Int),a<st.length->dN (st++t) ks a=dN st ks a
 |[],a,_=>rfl
 |k::ks,a,ha=>by
  rw[dN,dN];split
  ·rfl
  ·rename_i hc;have hk:k.toNat<st.length:=au;have e:(st++t)[k.toNat]? =st[k.toNat]? :=List.getElem?_append_left hk;rw[e];have hz:=Jm h k.toNat;exact aaZ h ks _ au
def Yk:∀(l:List (List Int)) (st r:List Int),PW st->gu st l=some r->∀(i:Nat) n,l[i]? =some n->∃a,dN r n.reverse ((st.length:Int)+i - 1)=some a/\r[st.length+i]? =some (a+1)
 |[],st,r,h0,h,i,n,hn=>by simp at hn
 |m::l,st,r,h0,h,i,n,hn=>by
  rw[gu] at h;split at h
  ·cases h
  ·rename_i a ha;have hr:=Ba h0 _ _ _ au au ha;obtain⟨t,ht⟩:=NG l _ r h;cases i with
   |zero=>
    simp only[List.getElem?_cons_zero,dG] at hn;subst hn;refine⟨a, ?_, ?_⟩
    ·rw[ht,BD,aaZ h0 _ _ (by simp;omega)];simpa using ha
    ·rw[ht];simp
   |succ i=>
    simp only[List.getElem?_cons_succ] at hn;obtain⟨b,h1,h2⟩:=Yk l _ r (MH h0 hr.1 hr.2) h i n hn;refine⟨b, ?_, ?_⟩
    ·rw[<-h1];congr 1;simp;omega
    ·rw[<-h2];congr 1;simp;omega
def LK:List Int->Int
 |[]=>0
 |x::l=>x+LK l
def Sr:∀(a b:List Int),LK (a++b)=LK a+LK b
 |[],b=>by simp[LK]
 |x::a,b=>by rw[WI,LK,LK,Sr a b];omega
def P6:∀l:List Int,LK l.reverse=LK l
 |[]=>rfl
 |x::l=>by rw[List.reverse_cons,Sr,P6 l];simp[LK];omega
def sz(r:List Int)(k:Int):Int:=k - (r[k.toNat]?.getD 0)+1
def aa0(r:List Int):∀(ks:List Int) (a b:Int),dN r ks a=some b->LK (ks.map (sz r))=a - b
 |[],a,b,h=>by rw[dN] at h;cases h;simp[LK]
 |k::ks,a,b,h=>by
  rw[dN] at h;split at h
  ·cases h
  ·rename_i hc;have:=aa0 r ks _ b h;rw[QY,LK,this,sz];omega
structure Val(l:List Nd)(r:List Int):Prop where
 st:gu [] (ks l)=some r
 pos:1<=l.length
 le:l.length<=400
def Zu{l:List Nd}(h:yu l=true):∃r,Val l r:=by
 have hl:=Yj h;unfold yu at h;cases hs:jY (ks l) with
 |none=>rw[hs] at h;cases h
 |some r=>
  unfold jY at hs;split at hs
  ·exact⟨r,hs,hl.1,hl.2⟩
  ·cases hs
section
variable {l:List Nd} {r:List Int}
def Val.len(h:Val l r):r.length=l.length:=by have:=JV _ _ _ h.st;rw[GI] at this;simpa using this
def Val.ok(h:Val l r):PW r:=QC _ _ _ Lp h.st
def Val.kids(h:Val l r){i:Nat}{n:Nd}(hn:l[i]? =some n):∀k,k∈n.kids->0<=k/\k<i:=by have:=Sm _ _ _ Lp h.st i n.kids (by simp[ks,hn]);simpa using this
def Val.sum(h:Val l r){i:Nat}{n:Nd}(hn:l[i]? =some n):LK (n.kids.map (sz r))+1=sz r i:=by obtain⟨a,h1,h2⟩:=Yk _ _ _ Lp h.st i n.kids (by simp[ks,hn]);have:=aa0 r _ _ _ h1;rw[List.map_reverse,P6] at this;simp at h2;rw[this,sz,Qi,h2];simp;omega
def Val.ag2(h:Val l r){k:Int}(h0:0<=k):1<=sz r k/\sz r k<=k+1:=by have:=Jm h.ok k.toNat;rw[sz];omega
end
def VZ(l:List Nd)(i:Nat):List Int:=match l[i]? with|some n=>n.kids|none=>[]
def Ec{l:List Nd}{i:Nat}{n:Nd}(h:l[i]? =some n):VZ l i=n.kids:=by rw[VZ,h]
end Go.Proofs.YtcallmiaialhkaaGreatDoor
