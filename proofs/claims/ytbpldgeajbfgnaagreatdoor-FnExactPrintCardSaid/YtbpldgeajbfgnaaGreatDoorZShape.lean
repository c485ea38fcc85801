import Derived.Test.YtbpldgeajbfgnaaGreatDoorPForms4
import Derived.Test.YtbpldgeajbfgnaaGreatDoorVm4
import Derived.Lib.IndexLaws
set_option linter.defProp false
namespace Go.Proofs.YtbpldgeajbfgnaaGreatDoor
set_option linter.unusedVariables false
set_option linter.unusedSimpArgs false
set_option linter.unusedSectionVars false
open Go Go.Vm
open Go.IntKind (i64)
open Int (reduceLE reduceLT reduceSub reduceAdd)
def dw:(∀a b:Int,(a>=b)=(b<=a))∧(∀a b:Int,(a>b)=(b<a))∧(∀h:Decidable True,@decide True h=true)∧(∀h:Decidable False,@decide False h=false)∧(∀(α:Type) (a b:α),cond true a b=a)∧(∀(α:Type) (a b:α),cond false a b=b)∧(∀b:Bool,(b && true)=b)∧(∀b:Bool,(b && false)=false)∧(∀b:Bool,(true && b)=b)∧(∀b:Bool,(false && b)=false)∧((!true)=false)∧((!false)=true):=
 ⟨λ_ _=>rfl,λ_ _=>rfl,λh=>@decide_eq_true True h trivial,λh=>@decide_eq_false False h id,λ_ _ _=>rfl,λ_ _ _=>rfl,λb=>by cases b<;>rfl,λb=>by cases b<;>rfl,λ_=>rfl,λ_=>rfl,rfl,rfl⟩
def aX{m n:Nat}(h:m<=n):m.ble n=true:=Nat.ble_eq_true_of_le h
def ah{α β:Type}(a:α)(f:α->Option β):(some a).bind f=f a:=rfl
def pY:((0:Nat):Int)=0:=rfl
def Ry(s:aC)(a:Int):Int:=if 0<=a then(match s[a.toNat]? with|some c=>(c.toNat:Int)|none=> -1) else -1
def isD(b:Int):Bool:=decide (b>=48) && decide (b<=57)
def MI(s:aC)(a:Int):Int:=if 0<=a then a+(((s.drop a.toNat).takeWhile λc=>isD (c.toNat:Int)).length:Nat) else a
def ang(c:UInt8):c.toNat<256:=c.toNat_lt
def TP(s:aC)(i:Nat):Ry s (i:Int)=(match s[i]? with|some c=>(c.toNat:Int)|none=> -1):=by rw[Ry,if_pos au,Uj]
section
variable {s:aC} (h:s.length<=1048576)
include h
theorem Ox(a:Int):M.eY s a=some (Ry s a):=by
 simp only[M.eY,M.PW]
 by_cases h0:a<0
 ·rw[zdt h0,aS,Ry,if_neg au]
 ·rw[qw h0,bG];obtain⟨i,rfl⟩:∃i:Nat,a=i:=⟨a.toNat,au⟩
  rw[TP]
  by_cases h1:(i:Int)>=(s.length:Int)
  ·rw[zdt h1,aS,List.getElem?_eq_none au]
  ·obtain⟨c,hc⟩:∃c,s[i]? =some c:=⟨s[i]'au,by simp⟩
   have:=ang c;rw[qw h1,bG,bJ,hc,ah,aG au au]
theorem Oy(a:Int):M.kG s a=some (Ry s a):=by
 simp only[M.kG,M.Qc,M.bg,M.yg];rw[aG au au]
 by_cases h0:a<0
 ·rw[qw au,bG,ah,Bool.not_false,aS,Ry,if_neg au]
 ·rw[zdt au,aS,ah];obtain⟨i,rfl⟩:∃i:Nat,a=i:=⟨a.toNat,au⟩
  rw[TP]
  by_cases h1:(i:Int)>=(s.length:Int)
  ·rw[qw au,Bool.not_false,aS,List.getElem?_eq_none au]
  ·obtain⟨c,hc⟩:∃c,s[i]? =some c:=⟨s[i]'au,by simp⟩
   have:=ang c;rw[zdt au,Bool.not_true,bG,bJ,hc,ah,aG au au]
end
def anh(b:Int):M.uQ b=some (isD b):=by simp only[M.uQ,M.Nq,M.bD,M.zW,isD];cases decide (b>=48)<;>rfl
def ani(b:Int):M.uU b=some (isD b):=by simp only[M.uU,M.NS,isD];cases decide (b>=48)<;>rfl
def az1{s:aC}{b:Int->Option (Int⊕Int)}(hb:∀a,0<=a->a<=2000000->b a=some (bif isD (Ry s a) then .inl (a+1) else .inr a))(h:s.length<=1048576):
  ∀(rest pre:aC),s=pre++rest->dX b (pre.length:Int)=some ((pre.length:Int)+((rest.takeWhile λc=>isD (c.toNat:Int)).length:Nat))
 |[],pre,e=>by
  have hl:pre.length=s.length:=by rw[e];simp
  refine bC ?_;rw[hb _ au au,TP,List.getElem?_eq_none au];simp[isD]
 |c::rest,pre,e=>by
  have hl:s.length=pre.length+(rest.length+1):=by rw[e];simp
  have hget:s[pre.length]? =some c:=by rw[e,List.getElem?_append_right (Nat.le_refl _),Nat.sub_self];rfl
  have hs:=hb (pre.length:Int) au au;rw[TP,hget] at hs;simp only at hs;cases hd:isD (c.toNat:Int) with
  |true=>have:=az1 hb h rest (pre++[c]) (by rw[e];simp);rw[qx,J9] at this;rw[hd,aS] at hs;rw[dJ hs,List.takeWhile_cons,if_pos hd,show(pre.length:Int)+1=((pre.length+1:Nat):Int) by omega,this];simp;omega
  |false=>rw[hd,bG] at hs;rw[bC hs,List.takeWhile_cons,hd];simp
def avy{s:aC}{b:Int->Option (Int⊕Int)}(hb:∀a,0<=a->a<=2000000->b a=some (bif isD (Ry s a) then .inl (a+1) else .inr a))(h:s.length<=1048576)(a:Int)(h0:0<=a)(h1:a<=2000000):dX b a=some (MI s a):=by
 obtain⟨i,rfl⟩:∃i:Nat,a=i:=⟨a.toNat,au⟩
 rw[MI,if_pos h0,Uj]
 by_cases hi:i<=s.length
 ·have:=az1 hb h (s.drop i) (s.take i) (List.take_append_drop i s).symm;rw[Ui,Nat.min_eq_left hi] at this;exact this
 ·rw[List.drop_eq_nil_of_le au];refine bC ?_;rw[hb _ h0 h1,TP,List.getElem?_eq_none au];simp[isD]
def Vz{s:aC}(h:s.length<=1048576){a:Int}(h0:0<=a):a<=MI s a∧(MI s a<=a∨MI s a<=s.length):=by have h1:=(List.takeWhile_sublist (p:=λc:UInt8=>isD (c.toNat:Int)) (l:=s.drop a.toNat)).length_le;rw[List.length_drop] at h1;rw[MI,if_pos h0];omega
section
variable {s:aC} (h:s.length<=1048576)
include h
theorem DK(a:Int)(h0:0<=a)(h1:a<=2000000):M.aP s a=some (MI s a):=by simp only[M.aP,M.KA,M.IU];rw[avy (λa h0 h1=>by simp only[M.Sz,M.EC,Ox h,anh,ah];rw[aG au au];cases isD (Ry s a)<;>rfl) h a h0 h1,ah]
theorem AY(a:Int)(h0:0<=a)(h1:a<=2000000):M.dW s a=some (MI s a):=by simp only[M.dW,M.Ja,M.Gy];rw[avy (λa h0 h1=>by simp only[M.QZ,M.Cc,Oy h,ani,ah];rw[aG au au];cases isD (Ry s a)<;>rfl) h a h0 h1,ah]
end
def abM(s:aC)(r:Int):Int:=bif(Ry s r==101)||(Ry s r==69) then
  (bif(Ry s (r+1)==43)||(Ry s (r+1)==45) then(bif decide (MI s (r+1+1)>r+1+1) then MI s (r+1+1) else r) else(bif decide (MI s (r+1)>r+1) then MI s (r+1) else r)) else r
def afP(s:aC)(a:Int):Int:=if a<0∨(s.length:Int)<=a then -1 else
 bif Ry s (MI s a)==46 then(bif(MI s a==a) &&(MI s (MI s a+1)==MI s a+1) then -1 else abM s (MI s (MI s a+1))) else(bif MI s a==a then -1 else abM s (MI s a))
section
variable {s:aC} (h:s.length<=1048576)
include h
set_option maxHeartbeats 2000000 in
theorem afQ(a:Int)(ha:a<=1048576):M.D9 s a=some (afP s a):=by
 simp only[M.D9,M.Qd,M.bg,M.yg,afP];rw[aG au au]
 by_cases h0:a<0
 ·rw[qw au,bG,ah,Bool.not_false,aS,if_pos (.inl h0)]
 ·rw[zdt au,aS,ah]
  by_cases h1:(s.length:Int)<=a
  ·rw[qw au,Bool.not_false,aS,if_pos (.inr h1)]
  ·rw[zdt au,Bool.not_true,bG,if_neg au,AY h a au au,ah];have e1:=Vz h (a:=a) au;generalize hE:MI s a=e at e1⊢;simp only[Oy h,ah];rw[aG (n:=e+1) au au,aG (n:=e - a) au au,AY h (e+1) au au,ah];have e2:=Vz h (a:=e+1) au;generalize hK:MI s (e+1)=k at e2⊢;have hz:(i64.wrap (e - a+i64.wrap (i64.wrap (k - e) - 1))==0)=((e==a) &&(k==e+1)):=by rw[aG (n:=k - e) au au,aG (n:=k - e - 1) au au,aG au au,Bool.eq_iff_iff];simp only[FN,beq_iff_eq];omega
   have hz2:(e - a==0)=(e==a):=by rw[Bool.eq_iff_iff];simp only[beq_iff_eq];omega
   rw[hz,hz2];have ex:∀r:Int,0<=r->r<=1048578->(bif Ry s r==101 then
      ((some (Ry s (i64.wrap (r+1)))).bind λaTq=>
      (bif aTq==43 then
       ((M.dW s (i64.wrap (i64.wrap (r+1)+1))).bind λaTr=>
       (bif decide (aTr>i64.wrap (i64.wrap (r+1)+1)) then(some aTr) else(some r))) else
       (bif aTq==45 then
       ((M.dW s (i64.wrap (i64.wrap (r+1)+1))).bind λaTs=>(bif decide (aTs>i64.wrap (i64.wrap (r+1)+1)) then(some aTs) else(some r))) else
       ((M.dW s (i64.wrap (r+1))).bind λaTt=>(bif decide (aTt>i64.wrap (r+1)) then(some aTt) else(some r)))))) else
      (bif Ry s r==69 then
      ((some (Ry s (i64.wrap (r+1)))).bind λaTu=>
       (bif aTu==43 then
       ((M.dW s (i64.wrap (i64.wrap (r+1)+1))).bind λaTv=>(bif decide (aTv>i64.wrap (i64.wrap (r+1)+1)) then(some aTv) else(some r))) else
       (bif aTu==45 then
        ((M.dW s (i64.wrap (i64.wrap (r+1)+1))).bind λaTw=>
        (bif decide (aTw>i64.wrap (i64.wrap (r+1)+1)) then(some aTw) else(some r))) else
        ((M.dW s (i64.wrap (r+1))).bind λaTx=>(bif decide (aTx>i64.wrap (r+1)) then(some aTx) else(some r)))))) else(some r)))=some (abM s r):=by
    intro r h0 h1;rw[aG (n:=r+1) au au,aG (n:=r+1+1) au au,AY h (r+1) au au,AY h (r+1+1) au au,abM];simp only[ah];cases Ry s r==101<;>cases Ry s r==69<;>cases Ry s (r+1)==43<;>cases Ry s (r+1)==45<;>cases decide (MI s (r+1+1)>r+1+1)<;>cases decide (MI s (r+1)>r+1)<;>rfl
   simp only[ah] at ex;cases Ry s e==46 with
   |true=>
    simp only[aS];cases(e==a) &&(k==e+1) with
    |true=>rfl
    |false=>simp only[bG];exact ex k au au
   |false=>
    simp only[bG];cases e==a with
    |true=>rfl
    |false=>simp only[bG];have h2:=ex e au au;rw[aG (n:=e+1) au au,AY h (e+1) au au,hK] at h2;simp only[ah] at h2;exact h2
theorem afR(a:Int)(ha:a<=1048576):M.DZ s a=some (afP s a):=by
 simp only[M.DZ,M.PX,afP]
 by_cases h0:a<0
 ·rw[zdt h0,aS,if_pos (.inl h0)]
 ·rw[qw h0,bG];have e1:=Vz h (a:=a) au;rw[DK h a au au,ah];simp only[Ox h,ah]
  by_cases h1:(s.length:Int)<=a
  ·have he:MI s a=a:=au;obtain⟨i,rfl⟩:∃i:Nat,a=i:=⟨a.toNat,au⟩
   have hb:Ry s (i:Int)= -1:=by rw[TP,List.getElem?_eq_none au]
   rw[he,hb,if_pos (.inr h1),show((-1:Int)==46)=false from rfl,bG,beq_self_eq_true,aS]
  ·rw[if_neg au];generalize hE:MI s a=e at e1⊢;have e2:=Vz h (a:=e+1) au;rw[aG (n:=e+1) au au,DK h (e+1) au au,ah];have ex:∀r:Int,0<=r->r<=1048578->(bif Ry s r==101 then
      (bif Ry s (i64.wrap (r+1))==43 then
       ((M.aP s (i64.wrap (i64.wrap (r+1)+1))).bind λaAF=>
        (bif decide (aAF>i64.wrap (i64.wrap (r+1)+1)) then
        ((M.aP s (i64.wrap (i64.wrap (r+1)+1))).bind λaAG=>(some aAG)) else(some r))) else
        (bif Ry s (i64.wrap (r+1))==45 then
        ((M.aP s (i64.wrap (i64.wrap (r+1)+1))).bind λaAH=>
         (bif decide (aAH>i64.wrap (i64.wrap (r+1)+1)) then
         ((M.aP s (i64.wrap (i64.wrap (r+1)+1))).bind λaAI=>(some aAI)) else(some r))) else
        ((M.aP s (i64.wrap (r+1))).bind λaAJ=>(bif decide (aAJ>i64.wrap (r+1)) then((M.aP s (i64.wrap (r+1))).bind λaAK=>(some aAK)) else(some r))))) else
       (bif Ry s r==69 then
        (bif Ry s (i64.wrap (r+1))==43 then
        ((M.aP s (i64.wrap (i64.wrap (r+1)+1))).bind λaAL=>
         (bif decide (aAL>i64.wrap (i64.wrap (r+1)+1)) then
         ((M.aP s (i64.wrap (i64.wrap (r+1)+1))).bind λaAM=>(some aAM)) else(some r))) else
         (bif Ry s (i64.wrap (r+1))==45 then
         ((M.aP s (i64.wrap (i64.wrap (r+1)+1))).bind λaAN=>
          (bif decide (aAN>i64.wrap (i64.wrap (r+1)+1)) then
          ((M.aP s (i64.wrap (i64.wrap (r+1)+1))).bind λaAO=>(some aAO)) else(some r))) else
         ((M.aP s (i64.wrap (r+1))).bind λaAP=>(bif decide (aAP>i64.wrap (r+1)) then((M.aP s (i64.wrap (r+1))).bind λaAQ=>(some aAQ)) else(some r))))) else(some r)))=some (abM s r):=by
    intro r h0 h1;rw[aG (n:=r+1) au au,aG (n:=r+1+1) au au,DK h (r+1) au au,DK h (r+1+1) au au,abM];simp only[ah];cases Ry s r==101<;>cases Ry s r==69<;>cases Ry s (r+1)==43<;>cases Ry s (r+1)==45<;>cases decide (MI s (r+1+1)>r+1+1)<;>cases decide (MI s (r+1)>r+1)<;>rfl
   generalize hK:MI s (e+1)=k at e2⊢;have hka:(k==a)=false:=by rw[MJ];omega
   rw[hka];cases Ry s e==46 with
   |true=>
    simp only[aS,bG];cases e==a with
    |true=>
     simp only[aS,Bool.true_and];cases k==e+1 with
     |true=>rfl
     |false=>simp only[bG];exact ex k au au
    |false=>simp only[bG,Bool.false_and];exact ex k au au
   |false=>
    simp only[bG];cases e==a with
    |true=>rfl
    |false=>simp only[bG];have h2:=ex e au au;rw[aG (n:=e+1) au au,DK h (e+1) au au,hK] at h2;simp only[ah] at h2;exact h2
end
def ahs(q:Int):aC->Int->Int
 |[],_=> -1
 |c::l,i=>if(c.toNat:Int)=q then i+1 else if(c.toNat:Int)=10 then -1 else if(c.toNat:Int)=92 then(match l with
   |[]=> -1
   |d::l'=>if(d.toNat:Int)=10 then -1 else ahs q l' (i+2)) else ahs q l (i+1)
def aiv(q:Int)(c:UInt8)(l:aC)(i:Int):ahs q (c::l) i=if(c.toNat:Int)=q then i+1 else if(c.toNat:Int)=10 then -1 else if(c.toNat:Int)=92 then(match l with
   |[]=> -1
   |d::l'=>if(d.toNat:Int)=10 then -1 else ahs q l' (i+2)) else ahs q l (i+1):=by
 cases l with
 |nil=>simp[ahs]
 |cons d l=>simp[ahs]
def hdI:aC->Int
 |[]=> -1
 |d::_=>(d.toNat:Int)
def quoted(s:aC)(a q:Int):Int:=if Ry s a=q then ahs q (s.drop (a+1).toNat) (a+1) else -1
def avz{s:aC}(h:s.length<=1048576)(q:Int)(hq:q≠10):∀(n:Nat) (rest pre:aC),rest.length<=n->s=pre++rest->
  (∃r,M.uH s q (pre.length:Int)=some r∧(ql r some λu=>letE u λ_=>some (-1))=some (ahs q rest (pre.length:Int)))∧
  (∃r,M.rQ s q (pre.length:Int)=some r∧(ql r some λu=>letE u λ_=>some (-1))=some (ahs q rest (pre.length:Int)))
 |n,[],pre,hn,e=>by
  have hl:pre.length=s.length:=by rw[e];simp
  constructor
  ·refine⟨.inr (pre.length:Int), ?_,rfl⟩;rw[M.uH];refine bC ?_;simp only[M.yK,M.uG];rw[qw au,bG]
  ·refine⟨.inr (pre.length:Int), ?_,rfl⟩;rw[M.rQ];refine bC ?_;simp only[M.wZ,M.sN];rw[qw au,bG]
 |0,c::rest,pre,hn,e=>by simp at hn
 |n+1,c::rest,pre,hn,e=>by
  simp only[mV] at hn;have hl:s.length=pre.length+(rest.length+1):=by rw[e];simp
  have hget:s[pre.length]? =some c:=by rw[e,List.getElem?_append_right (Nat.le_refl _),Nat.sub_self];rfl
  have hc:=ang c;have hw:i64.wrap ((c.toNat:Nat):Int)=(c.toNat:Int):=aG au au;have hw1:i64.wrap ((pre.length:Int)+1)=((pre.length+1:Nat):Int):=by rw[aG au au];omega
  have hw2:i64.wrap (((pre.length+1:Nat):Int)+1)=((pre.length+2:Nat):Int):=by rw[aG au au];omega
  have hnext:Ry s ((pre.length+1:Nat):Int)=hdI rest:=by rw[TP,e,List.getElem?_append_right au,show pre.length+1 - pre.length=1 by omega];cases rest<;>rfl
  have hS:M.yK s q (pre.length:Int)=some (if(c.toNat:Int)=q then .inr (.inl ((pre.length+1:Nat):Int)) else if(c.toNat:Int)=10 then .inr (.inl (-1)) else if(c.toNat:Int)=92 then
    (if Ry s ((pre.length+1:Nat):Int)=10 then .inr (.inl (-1)) else .inl ((pre.length+2:Nat):Int)) else .inl ((pre.length+1:Nat):Int)):=by
   simp only[M.yK,M.uG,bJ,hget,ah,hw,hw1,hw2,Ox h];rw[zdt au,aS]
   by_cases c1:(c.toNat:Int)=q
   ·rw[if_pos c1,show((c.toNat:Int)==q)=true by simpa using c1,aS]
   ·rw[if_neg c1,show((c.toNat:Int)==q)=false by simpa using c1,bG]
    by_cases c2:(c.toNat:Int)=10
    ·rw[if_pos c2,show((c.toNat:Int)==10)=true by simpa using c2,aS]
    ·rw[if_neg c2,show((c.toNat:Int)==10)=false by simpa using c2,bG]
     by_cases c3:(c.toNat:Int)=92
     ·rw[if_pos c3,show((c.toNat:Int)==92)=true by simpa using c3,aS]
      by_cases c4:Ry s ((pre.length+1:Nat):Int)=10
      ·rw[if_pos c4,c4];rfl
      ·rw[if_neg c4,show(Ry s ((pre.length+1:Nat):Int)==10)=false by simpa using c4,bG]
     ·rw[if_neg c3,show((c.toNat:Int)==92)=false by simpa using c3,bG]
  have hI:M.wZ s q (pre.length:Int)=some (if(c.toNat:Int)=10 then .inr (.inr (pre.length:Int)) else if(c.toNat:Int)=q then .inr (.inl ((pre.length+1:Nat):Int)) else if(c.toNat:Int)=92 then
    (if Ry s ((pre.length+1:Nat):Int)=10 then .inl ((pre.length+1:Nat):Int) else .inl ((pre.length+2:Nat):Int)) else .inl ((pre.length+1:Nat):Int)):=by
   simp only[M.wZ,M.sN,bJ,hget,ah,hw,hw1,hw2,Oy h];rw[zdt au,aS]
   by_cases c2:(c.toNat:Int)=10
   ·rw[if_pos c2,show((c.toNat:Int) !=10)=false by simpa using c2,bG]
   ·rw[if_neg c2,show((c.toNat:Int) !=10)=true by simpa using c2,aS]
    by_cases c1:(c.toNat:Int)=q
    ·rw[if_pos c1,show((c.toNat:Int)==q)=true by simpa using c1,aS]
    ·rw[if_neg c1,show((c.toNat:Int)==q)=false by simpa using c1,bG]
     by_cases c3:(c.toNat:Int)=92
     ·rw[if_pos c3,show((c.toNat:Int)==92)=true by simpa using c3,aS]
      by_cases c4:Ry s ((pre.length+1:Nat):Int)=10
      ·rw[if_pos c4,c4];rfl
      ·rw[if_neg c4,show(Ry s ((pre.length+1:Nat):Int) !=10)=true by simpa using c4,aS]
     ·rw[if_neg c3,show((c.toNat:Int)==92)=false by simpa using c3,bG]
  have e1:s=(pre++[c])++rest:=by rw[e];simp
  have ih1:=avz h q hq n rest (pre++[c]) au e1;rw[qx,J9] at ih1;rw[M.uH,M.rQ] at ih1⊢;rw[aiv]
  by_cases c1:(c.toNat:Int)=q
  ·have c2:¬(c.toNat:Int)=10:=au;rw[if_pos c1];rw[if_pos c1] at hS;rw[if_neg c2,if_pos c1] at hI;refine⟨⟨_,bC hS, ?_⟩,⟨_,bC hI, ?_⟩⟩<;>simp[ql]
  ·rw[if_neg c1];rw[if_neg c1] at hS
   by_cases c2:(c.toNat:Int)=10
   ·rw[if_pos c2];rw[if_pos c2] at hS hI;exact⟨⟨_,bC hS,rfl⟩,⟨_,bC hI,rfl⟩⟩
   ·rw[if_neg c2];rw[if_neg c2] at hS hI;rw[if_neg c1] at hI
    by_cases c3:(c.toNat:Int)=92
    ·rw[if_pos c3];rw[if_pos c3] at hS hI;cases rest with
     |nil=>
      rw[hnext,hdI] at hS hI;simp only[show¬((-1:Int)=10) by omega,if_false] at hS hI;have hend:∀(b:Int->Option (Int⊕(Int⊕Int))),True:=λ_=>trivial
      simp only[um] at hl;refine⟨⟨.inr ((pre.length+2:Nat):Int), ?_,rfl⟩,⟨.inr ((pre.length+2:Nat):Int), ?_,rfl⟩⟩
      ·rw[dJ hS];refine bC ?_;simp only[M.yK,M.uG];rw[qw au,bG]
      ·rw[dJ hI];refine bC ?_;simp only[M.wZ,M.sN];rw[qw au,bG]
     |cons d rest'=>
      simp only[hdI] at hnext⊢;rw[hnext] at hS hI
      by_cases c4:(d.toNat:Int)=10
      ·rw[if_pos c4];rw[if_pos c4] at hS hI;refine⟨⟨_,bC hS,rfl⟩, ?_⟩;obtain⟨r,h1,h2⟩:=ih1.2;refine⟨r,by rw[dJ hI];exact h1, ?_⟩;rw[h2,aiv,if_neg au,if_pos c4]
      ·rw[if_neg c4];rw[if_neg c4] at hS hI;have e2:s=(pre++[c,d])++rest':=by rw[e];simp
       simp only[mV] at hn;have ih2:=avz h q hq n rest' (pre++[c,d]) au e2;rw[qx,show[c,d].length=2 from rfl,M.uH,M.rQ] at ih2;rw[dJ hS,dJ hI,show(pre.length:Int)+2=((pre.length+2:Nat):Int) by omega];exact ih2
    ·rw[if_neg c3];rw[if_neg c3] at hS hI;rw[dJ hS,dJ hI,show(pre.length:Int)+1=((pre.length+1:Nat):Int) by omega];exact ih1
section
variable {s:aC} (h:s.length<=1048576)
include h
theorem aiw(a q:Int)(h0:0<=a)(h1:a<=1048576)(hq:0<=q)(hq2:q≠10):M.qQ s a q=some (quoted s a q)∧M.oQ s a q=some (quoted s a q):=by
 simp only[M.qQ,M.KC,M.oQ,M.Jb,Ox h,Oy h,ah,quoted]
 by_cases hb:Ry s a=q
 ·rw[if_pos hb,show(Ry s a !=q)=false by simpa using hb,bG,bG,aG au au];obtain⟨i,rfl⟩:∃i:Nat,a=i:=⟨a.toNat,au⟩
  have hi:i<s.length:=by
   rcases Nat.lt_or_ge i s.length with hlt|hge
   ·exact hlt
   ·rw[TP,List.getElem?_eq_none hge] at hb;simp only at hb;omega
  obtain⟨⟨r,k1,k2⟩,⟨r',k3,k4⟩⟩:=avz h q hq2 _ (s.drop (i+1)) (s.take (i+1)) (Nat.le_refl _) (List.take_append_drop _ s).symm;rw[Ui,Nat.min_eq_left au] at k1 k2 k3 k4;rw[show(i:Int)+1=((i+1:Nat):Int) by omega,Uj,k1,k3,ah,ah];exact⟨k2,k4⟩
 ·rw[if_neg hb,show(Ry s a !=q)=true by simpa using hb,aS,aS];exact⟨rfl,rfl⟩
theorem ara(a:Int)(h0:0<=a)(h1:a<=1048576):M.D5 s a=some (quoted s a 34)∧M.Ea s a=some (quoted s a 34):=by have:=aiw h a 34 h0 h1 au au;simp only[M.D5,M.PY,M.Ea,M.Qe,this.1,this.2,ah];constructor<;>first|rfl|trivial
def afS(s:aC)(a:Int):Int:=bif quoted s a 47==a+2 then -1 else quoted s a 47
theorem arb(a:Int)(h0:0<=a)(h1:a<=1048576):M.D6 s a=some (afS s a)∧M.Eb s a=some (afS s a):=by have:=aiw h a 47 h0 h1 au au;simp only[M.D6,M.PZ,M.Eb,M.Qg,this.1,this.2,ah,afS];rw[aG au au];cases quoted s a 47==a+2<;>simp
end
end Go.Proofs.YtbpldgeajbfgnaaGreatDoor
namespace Go.Proofs.YtbpldgeajbfgnaaGreatDoor
set_option linter.unusedVariables false
set_option linter.unusedSimpArgs false
set_option linter.unusedSectionVars false
open Go Go.Vm
open Go.IntKind (i64)
open Int (reduceLE reduceLT reduceSub reduceAdd)
@[simp] theorem qL(l:List (aC)):(encS l).length=l.length:=by simp[encS]
@[simp] theorem UR(l:List (aC))(i:Nat):(encS l)[i]? =(l[i]?).map λs=>[D.str s]:=by simp[encS]
def cS0(s:aC):cStr [D.str s] 0=some s:=rfl
def strsOf:Row->List (aC)
 |[]=>[]
 | .str s::r=>s::strsOf r
 |_::r=>strsOf r
def Xl:List (aC):=strsOf zK
def UU:List (aC):=strsOf QA
def anj:List (aC):=strsOf Hw
def QB(s:aC):List (aC)->Int->Int
 |[],_=> -1
 |x::l,i=>if x==s then i else QB s l (i+1)
def acU(s:aC):∀(l:List (aC)) (i:Int),0<=i-> -1<=QB s l i∧QB s l i<i+l.length
 |[],i,h=>by simp[QB];omega
 |x::l,i,h=>by
  rw[QB];split
  ·simp;omega
  ·have:=acU s l (i+1) au;simp only[mV];omega
def aix(s:aC)(l:List (aC))(hl:l.length<=1048576){b:Int->Option (Int⊕(Int⊕Int))}
  (hb:∀(i:Nat) x,l[i]? =some x->b (i:Int)=some (if x==s then .inr (.inl (i:Int)) else .inl ((i:Int)+1))) (he:b (l.length:Int)=some (.inr (.inr (l.length:Int)))):
  ∃r,dX b 0=some r∧(ql r some λu=>letE u λ_=>some (-1))=some (QB s l 0):=by
 have key:∀(t:List (aC)) (i:Nat),l.drop i=t->i<=l.length->∃r,dX b (i:Int)=some r∧(ql r some λu=>letE u λ_=>some (-1))=some (QB s t (i:Int)):=by
  intro t;induction t with
  |nil=>
   intro i hd hi;have:i=l.length:=by have:=congrArg List.length hd;simp at this;omega
   subst this;exact⟨_,bC he,rfl⟩
  |cons x t ih=>
   intro i hd hi;have hx:l[i]? =some x:=by
    have:(l.drop i)[0]? =some x:=by rw[hd];rfl
    simpa using this
   have hlt:i<l.length:=(MG.1 hx).1;have hd':l.drop (i+1)=t:=by rw[<-List.drop_drop,hd];rfl
   have hs:=hb i x hx;rw[QB];cases hxs:x==s with
   |true=>rw[hxs] at hs;exact⟨_,bC hs,rfl⟩
   |false=>
    rw[hxs] at hs;obtain⟨r,h1,h2⟩:=ih (i+1) hd' hlt;refine⟨r, ?_, ?_⟩
    ·rw[dJ hs,show(i:Int)+1=((i+1:Nat):Int) by omega];exact h1
    ·rw[h2];simp
 exact key l 0 rfl (Nat.zero_le _)
def aiy(s:aC)(l:List (aC))(hl:l.length<=1048576):M.xU (encS l) s=some (QB s l 0):=by
 obtain⟨r,h1,h2⟩:=aix s l hl (b:=M.IK (encS l) s)
  (λi x hx=>by have hi:=(MG.1 hx).1;simp only[M.IK,M.CX,qL,bJ,UR,hx,OJ,ah,cS0];rw[zdt au,aS,aG au au];cases x==s<;>rfl)
  (by simp only[M.IK,M.CX,qL];rw[qw au,bG])
 simp only[M.xU,M.PU,M.Ns];rw[h1,ah];exact h2
def afT(s:aC)(l:List (aC))(hl:l.length<=1048576):M.slices_Index (encS l) s=some (QB s l 0):=by
 obtain⟨r,h1,h2⟩:=aix s l hl (b:=M.Gx (encS l) s (l.length:Int))
  (λi x hx=>by have hi:=(MG.1 hx).1;simp only[M.Gx,M.Ai,bJ,UR,hx,OJ,ah,cS0];rw[zdt au,aS,aG au au,show(s==x)=(x==s) by rw[Bool.eq_iff_iff,beq_iff_eq,beq_iff_eq];exact⟨Eq.symm,Eq.symm⟩];cases x==s<;>rfl)
  (by simp only[M.Gx,M.Ai];rw[qw au,bG])
 simp only[M.slices_Index,M.NT,M.KR,qL];rw[h1,ah];exact h2
def avA(s:aC):Int:=if QB s Xl 0<0 then 0 else 10+QB s Xl 0
def acV(s:aC):Bool:=decide (QB s anj 0>=0)
def ank:M.xB=some (encS Xl):=rfl
def anl:M.wQ=some (encS anj):=rfl
def anm:M.xC=some (encS UU):=rfl
def aDd:List.map (λx=>[x]) zK=encS Xl:=rfl
def ayx:List.map (λx=>[x]) Hw=encS anj:=rfl
def ajW(s:aC):M.vI s=some (avA s)∧M.vK s=some (avA s):=by
 have hr:=acU s Xl 0 au;have hl:Xl.length=17:=rfl;simp only[M.vI,M.IL,M.vK,M.I8,ank,aDd,ah,aiy s Xl (by rw[hl];omega),afT s Xl (by rw[hl];omega),avA]
 by_cases h:QB s Xl 0<0
 ·rw[zdt h,aS,if_pos h];exact⟨rfl,rfl⟩
 ·rw[qw h,bG,if_neg h,aG au au];exact⟨rfl,rfl⟩
def VA(s:aC):M.lM s=some (acV s)∧M.mW s=some (acV s):=by have hl:anj.length=21:=rfl;simp only[M.lM,M.IQ,M.mW,M.I9,M.slices_Contains,M.Aj,anl,ayx,ah,aiy s anj (by rw[hl];omega),afT s anj (by rw[hl];omega),acV];constructor<;>first|rfl|trivial
def isL(b:Int):Bool:=(decide (b>=97) && decide (b<=122))||((decide (b>=65) && decide (b<=90))||(b==95))
def isW(b:Int):Bool:=isL b||isD b
def acW(b:Int):M.qP b=some (isL b)∧M.qV b=some (isL b):=by simp only[M.qP,M.Ky,M.bD,M.zW,M.qV,M.KQ,isL];cases decide (b>=97)<;>cases decide (b<=122)<;>cases decide (b>=65)<;>cases decide (b<=90)<;>cases(b==95)<;>exact⟨rfl,rfl⟩
def Qr(b:Int):M.kN b=some (isW b)∧M.kP b=some (isW b):=by simp only[M.kN,M.Gn,M.kP,M.Gv,acW,anh,ani,ah,isW];cases isL b<;>cases isD b<;>exact⟨rfl,rfl⟩
def avC(s:aC):Bool:=s.all λc=>isW (c.toNat:Int)
def a5f:aC->Bool
 |[]=>false
 |c::_=>isL (c.toNat:Int)
def UW(s:aC):Bool:=avC s &&((decide ((s.length:Int)>=1) && decide ((s.length:Int)<=12)) && a5f s)
def afU(s:aC){b:Int->Option (Int⊕(Unit⊕Int))}
  (hb:∀(i:Nat) c,s[i]? =some c->b (i:Int)=some (bif isW (c.toNat:Int) then .inl ((i:Int)+1) else .inr (.inl ()))) (he:b (s.length:Int)=some (.inr (.inr (s.length:Int)))):
  dX b 0=some (bif avC s then .inr (s.length:Int) else .inl ()):=by
 have key:∀(t:aC) (i:Nat),s.drop i=t->i<=s.length->dX b (i:Int)=some (bif avC t then .inr (s.length:Int) else .inl ()):=by
  intro t;induction t with
  |nil=>
   intro i hd hi;have:i=s.length:=by have:=congrArg List.length hd;simp at this;omega
   subst this;exact bC he
  |cons x t ih=>
   intro i hd hi;have hx:s[i]? =some x:=by
    have:(s.drop i)[0]? =some x:=by rw[hd];rfl
    simpa using this
   have hlt:i<s.length:=(MG.1 hx).1;have hd':s.drop (i+1)=t:=by rw[<-List.drop_drop,hd];rfl
   have hs:=hb i x hx;rw[avC,List.all_cons];cases hw:isW (x.toNat:Int) with
   |true=>rw[hw,aS] at hs;rw[dJ hs,show(i:Int)+1=((i+1:Nat):Int) by omega,ih (i+1) hd' hlt,Bool.true_and];rfl
   |false=>rw[hw,bG] at hs;rw[bC hs];rfl
 exact key s 0 rfl (Nat.zero_le _)
def ajX(s:aC)(h:s.length<=1048576):M.vH s=some (UW s)∧M.vJ s=some (UW s):=by
 have hw:∀c:UInt8,i64.wrap ((c.toNat:Nat):Int)=(c.toNat:Int):=λc=>by have:=ang c;exact aG au au
 have h1:=afU s (b:=M.BZ s)
  (λi c hc=>by have hi:=(MG.1 hc).1;simp only[M.BZ,M.wX,bJ,hc,ah,hw,Qr];rw[zdt au,aS,aG au au];cases isW (c.toNat:Int)<;>rfl)
  (by simp only[M.BZ,M.wX];rw[qw au,bG])
 have h2:=afU s (b:=M.Cb s (s.length:Int))
  (λi c hc=>by have hi:=(MG.1 hc).1;simp only[M.Cb,M.wY,bJ,hc,ah,hw,Qr];rw[zdt au,aS,aG au au];cases isW (c.toNat:Int)<;>rfl)
  (by simp only[M.Cb,M.wY];rw[qw au,bG])
 simp only[M.vH,M.IJ,M.vJ,M.I7,M.Gp,M.Gw,M.bD,M.zW,M.bg,M.yg];rw[h1,h2,ah,ah,UW];cases avC s with
 |false=>exact⟨rfl,rfl⟩
 |true=>
  simp only[aS,ql,letE,Bool.true_and];cases s with
  |nil=>exact⟨rfl,rfl⟩
  |cons c l=>have hi:idx (c::l) 0=some c:=rfl;simp only[hi,ah,hw,acW];cases decide (((c::l).length:Int)>=1)<;>cases decide (((c::l).length:Int)<=12)<;>exact⟨rfl,rfl⟩
def Oz(s:aC):Bool:=UW s &&((avA s==0) && !(acV s))
def abN(s:aC)(h:s.length<=1048576):M.jH s=some (Oz s)∧M.kF s=some (Oz s):=by have h1:=ajX s h;simp only[M.jH,M.PV,M.kF,M.Qb,h1.1,h1.2,ajW,VA,ah,Oz];cases UW s<;>cases avA s==0<;>cases acV s<;>exact⟨rfl,rfl⟩
end Go.Proofs.YtbpldgeajbfgnaaGreatDoor
namespace Go.Proofs.YtbpldgeajbfgnaaGreatDoor
set_option linter.unusedVariables false
set_option linter.unusedSimpArgs false
set_option linter.unusedSectionVars false
open Go Go.Vm
open Go.IntKind (i64)
open Int (reduceLE reduceLT reduceSub reduceAdd)
def aTy(c:UInt8)(n:Nat)(h:n<256):(((c.toNat:Nat):Int)==(n:Int))=(c==UInt8.ofNat n):=by
 rw[Bool.eq_iff_iff,beq_iff_eq,beq_iff_eq];constructor
 ·intro e;apply UInt8.toNat_inj.1;rw[UInt8.toNat_ofNat',Nat.mod_eq_of_lt h];omega
 ·rintro rfl;rw[UInt8.toNat_ofNat',Nat.mod_eq_of_lt h]
def hasB(c:UInt8)(s:aC):Bool:=s.any (· ==c)
def aiz(s:aC)(c:UInt8):decide (0<=Lib.indexByte s c)=hasB c s:=by
 have hge:=Lib.indexByte_ge s c;rw[Bool.eq_iff_iff,decide_eq_true_eq,hasB,List.any_eq_true];constructor
 ·intro h;obtain⟨i,hi⟩:∃i:Nat,Lib.indexByte s c=i:=⟨(Lib.indexByte s c).toNat,au⟩
  exact⟨c,BX (Lib.indexByte_some hi).1,by simp⟩
 ·rintro⟨x,hx,hc⟩;have:=beq_iff_eq.1 hc;subst this;rcases Int.lt_or_le (Lib.indexByte s x) 0 with h|h
  ·obtain⟨i,hi⟩:=List.mem_iff_getElem?.1 hx;exact absurd hi (Lib.indexByte_none au i)
  ·exact h
def ano(s:aC)(h:s.length<=1000000000):M.nY s=some (!(hasB 10 s)):=by
 have key:∀(t:aC) (i:Nat),s.drop i=t->i<=s.length->dX (M.Aa s) (i:Int)=some (bif hasB 10 t then .inl () else .inr (s.length:Int)):=by
  intro t;induction t with
  |nil=>
   intro i hd hi;have:i=s.length:=by have:=congrArg List.length hd;simp at this;omega
   subst this;refine bC ?_;simp only[M.Aa,M.zZ];rw[qw au,bG];rfl
  |cons x t ih=>
   intro i hd hi;have hx:s[i]? =some x:=by
    have:(s.drop i)[0]? =some x:=by rw[hd];rfl
    simpa using this
   have hlt:i<s.length:=(MG.1 hx).1;have hd':s.drop (i+1)=t:=by rw[<-List.drop_drop,hd];rfl
   have hs:M.Aa s (i:Int)=some (bif x==10 then .inr (.inl ()) else .inl ((i:Int)+1)):=by simp only[M.Aa,M.zZ,bJ,hx,ah];rw[zdt au,aS,show(10:Int)=((10:Nat):Int) from rfl,aTy _ _ au,aG au au,show(x==UInt8.ofNat 10)=(x==10) from rfl];cases x==10<;>rfl
   rw[hasB,List.any_cons];cases hc:x==10 with
   |true=>rw[hc,aS] at hs;rw[bC hs];rfl
   |false=>rw[hc,bG] at hs;rw[dJ hs,show(i:Int)+1=((i+1:Nat):Int) by omega,ih (i+1) hd' hlt,Bool.false_or];rfl
 have:=key s 0 rfl (Nat.zero_le _);rw[pY] at this;simp only[M.nY,M.Nv,M.Kz];rw[this,ah];cases hasB 10 s<;>rfl
def ayy:∀i,i<17->cStr zK i=Xl[i]? :=by decide+kernel
def apY:∀i,i<39->cStr QA i=UU[i]? :=by decide+kernel
def spell(k:Int):aC:=if k=1 then[10] else if 10<=k∧k<=26 then Xl[(k - 10).toNat]?.getD [] else if 30<=k∧k<=68 then UU[(k - 30).toNat]?.getD [] else[]
def nP(k:Int)(hk:I64 k):M.jF k=some (spell k)∧M.iH k=some (spell k):=by
 have l1:Xl.length=17:=rfl;have l2:UU.length=39:=rfl;simp only[M.jF,M.Nw,M.iH,M.NU,M.qm,M.Ak,M.iP,M.Am,M.bg,M.yg,M.bD,M.zW,ank,anm,ah,spell]
 by_cases h1:k=1
 ·subst h1;exact⟨rfl,rfl⟩
 ·rw[show(k==1)=false by simpa using h1,bG,bG,if_neg h1]
  by_cases h2:10<=k∧k<=26
  ·obtain⟨i,hi⟩:∃i:Nat,k=10+i:=⟨(k - 10).toNat,au⟩
   have hw:i64.wrap (k - 10)=(i:Int):=by rw[aG au au];omega
   obtain⟨x,hx⟩:∃x,Xl[i]? =some x:=⟨Xl[i]'au,by simp⟩
   rw[if_pos h2,zdt (show k>=10 by omega),aS,zdt (show k<=26 by omega),hw,zdt (show(0:Int)<=(i:Int) by omega),zdt (show(i:Int)<17 by omega)];simp only[ah,aS,bJ,Uj,UR,hx,OJ,cS0,Bool.and_self,Nat.zero_add,Nat.mul_one,ayy i au];rw[show(k - 10).toNat=i by omega,hx];exact⟨rfl,rfl⟩
  ·have hf:(bif decide (k>=10) then some (decide (k<=26)) else some false)=some false:=by
    by_cases h3:k>=10
    ·rw[zdt h3,aS,qw au]
    ·rw[qw h3,bG]
   rw[if_neg h2,hf];simp only[ah,bG]
   by_cases h4:30<=k∧k<=68
   ·obtain⟨i,hi⟩:∃i:Nat,k=30+i:=⟨(k - 30).toNat,au⟩
    have hw:i64.wrap (k - 30)=(i:Int):=by rw[aG au au];omega
    obtain⟨x,hx⟩:∃x,UU[i]? =some x:=⟨UU[i]'au,by simp⟩
    rw[if_pos h4,zdt (show k>=30 by omega),aS,zdt (show k<=68 by omega),hw,zdt (show(0:Int)<=(i:Int) by omega),zdt (show(i:Int)<39 by omega)];simp only[ah,aS,bJ,Uj,UR,hx,OJ,cS0,Bool.and_self,Nat.zero_add,Nat.mul_one,apY i au];rw[show(k - 30).toNat=i by omega,hx];exact⟨rfl,rfl⟩
   ·have hf:(bif decide (k>=30) then some (decide (k<=68)) else some false)=some false:=by
     by_cases h3:k>=30
     ·rw[zdt h3,aS,qw au]
     ·rw[qw h3,bG]
    rw[if_neg h4,hf];exact⟨rfl,rfl⟩
def VB(k:Int)(s:aC):Bool:=bif s==[] then false else
 bif k==2 then(Ry s 0==35) && !(hasB 10 s) else bif k==3 then afP s 0==(s.length:Int) else bif k==4 then quoted s 0 34==(s.length:Int) else bif k==5 then afS s 0==(s.length:Int) else
 bif k==6 then Oz s else bif k==7 then Oz s else bif k==8 then acV s else s==spell k
def aoP(k:Int)(s:aC)(a:Int)(h:s.length<=1048576)(hk:I64 k):M.mg k s a=some (VB k s)∧M.pG k s a=some (VB k s):=by
 have hn:=abN s h;have hb:=VA s;have hst:=ara h 0 au au;have her:=arb h 0 au au;have hsp:=nP k hk;have hct:M.strings_Contains s [10]=some (hasB 10 s):=by rw[M.strings_Contains,aiz]
 simp only[M.mg,M.Ny,M.pG,M.NV,hn.1,hn.2,hb.1,hb.2,hst.1,hst.2,her.1,her.2,hsp.1,hsp.2,hct,ano s au,afR h 0 au,afQ h 0 au,ah,VB];cases s with
 |nil=>refine⟨?_,rfl⟩;have q1:Oz []=false:=rfl;have q2:acV []=false:=rfl;have q3:(quoted [] 0 34==(([]:aC).length:Int))=false:=rfl;have q4:(afS [] 0==(([]:aC).length:Int))=false:=rfl;rw[q1,q2,q3,q4];cases k==2<;>cases k==3<;>cases k==4<;>cases k==5<;>cases k==6<;>cases k==7<;>cases k==8<;>rfl
 |cons c l=>
  have hi:idx (c::l) 0=some c:=rfl;have hb0:Ry (c::l) 0=(c.toNat:Int):=rfl;have hne:((c::l:aC)==[])=false:=rfl;have hgt:decide (((c::l).length:Int)>0)=true:=by simp
  have hsw:(spell k==c::l)=(c::l==spell k):=by rw[Bool.eq_iff_iff,beq_iff_eq,beq_iff_eq];exact⟨Eq.symm,Eq.symm⟩
  rw[hi,hb0,hne,hgt,hsw];simp only[ah,aS,bG,Bool.not_false];cases k==2<;>cases k==3<;>cases k==4<;>cases k==5<;>cases k==6<;>cases k==7<;>cases k==8<;>cases(c.toNat:Int)==35<;>exact⟨rfl,rfl⟩
end Go.Proofs.YtbpldgeajbfgnaaGreatDoor
namespace Go.Proofs.YtbpldgeajbfgnaaGreatDoor
set_option linter.unusedVariables false
set_option linter.unusedSimpArgs false
set_option linter.unusedSectionVars false
open Go Go.Vm
open Go.IntKind (i64)
open Int (reduceLE reduceLT reduceSub reduceAdd)
def fU(x a b:Int):M.bD x a b=some (decide (x>=a) && decide (x<=b)):=by simp only[M.bD,M.zW];cases decide (x>=a)<;>rfl
def dI(x a b:Int):M.bg x a b=some (decide (x>=a) && decide (x<=b)):=fU x a b
def afV(op:Int):Bool:=op==60||op==57||op==58||op==59||op==55||op==56||op==99||op==63||op==48||op==47||op==50||op==62||op==49||op==67||op==46||op==45||op==44
def AZ(op:Int):M.zM op=some (afV op)∧∃lv,M.nH op=some lv∧(lv !=0)=afV op:=by
 by_cases h44:op=44
 ·subst h44;exact⟨rfl,_,rfl,rfl⟩
 have e44:(op==44)=false:=by simpa using h44
 by_cases h45:op=45
 ·subst h45;exact⟨rfl,_,rfl,rfl⟩
 have e45:(op==45)=false:=by simpa using h45
 by_cases h67:op=67
 ·subst h67;exact⟨rfl,_,rfl,rfl⟩
 have e67:(op==67)=false:=by simpa using h67
 by_cases h46:op=46
 ·subst h46;exact⟨rfl,_,rfl,rfl⟩
 have e46:(op==46)=false:=by simpa using h46
 by_cases h63:op=63
 ·subst h63;exact⟨rfl,_,rfl,rfl⟩
 have e63:(op==63)=false:=by simpa using h63
 by_cases h48:op=48
 ·subst h48;exact⟨rfl,_,rfl,rfl⟩
 have e48:(op==48)=false:=by simpa using h48
 by_cases h47:op=47
 ·subst h47;exact⟨rfl,_,rfl,rfl⟩
 have e47:(op==47)=false:=by simpa using h47
 by_cases h50:op=50
 ·subst h50;exact⟨rfl,_,rfl,rfl⟩
 have e50:(op==50)=false:=by simpa using h50
 by_cases h62:op=62
 ·subst h62;exact⟨rfl,_,rfl,rfl⟩
 have e62:(op==62)=false:=by simpa using h62
 by_cases h49:op=49
 ·subst h49;exact⟨rfl,_,rfl,rfl⟩
 have e49:(op==49)=false:=by simpa using h49
 by_cases h99:op=99
 ·subst h99;exact⟨rfl,_,rfl,rfl⟩
 have e99:(op==99)=false:=by simpa using h99
 by_cases h55:op=55
 ·subst h55;exact⟨rfl,_,rfl,rfl⟩
 have e55:(op==55)=false:=by simpa using h55
 by_cases h56:op=56
 ·subst h56;exact⟨rfl,_,rfl,rfl⟩
 have e56:(op==56)=false:=by simpa using h56
 by_cases h57:op=57
 ·subst h57;exact⟨rfl,_,rfl,rfl⟩
 have e57:(op==57)=false:=by simpa using h57
 by_cases h58:op=58
 ·subst h58;exact⟨rfl,_,rfl,rfl⟩
 have e58:(op==58)=false:=by simpa using h58
 by_cases h59:op=59
 ·subst h59;exact⟨rfl,_,rfl,rfl⟩
 have e59:(op==59)=false:=by simpa using h59
 by_cases h60:op=60
 ·subst h60;exact⟨rfl,_,rfl,rfl⟩
 have e60:(op==60)=false:=by simpa using h60
 simp only[M.zM,M.Np,M.nH,M.Ib,afV,e44,e45,e67,e46,e63,e48,e47,e50,e62,e49,e99,e55,e56,e57,e58,e59,e60,bG,Bool.or_self];exact⟨trivial,0,rfl,rfl⟩
def afW(op:Int):Bool:=op==54||(decide (op>=38) && decide (op<=43))
def oK(op:Int):M.tH op=some (afW op)∧M.xY op=some (afW op):=by simp only[M.tH,M.Gm,M.xY,M.KT,fU,dI,ah,afW];cases op==54<;>exact⟨rfl,rfl⟩
def Xm(s:aC)(l:List (aC))(hl:l.length<=1048576):M.slices_Contains (encS l) s=some (decide (QB s l 0>=0)):=by simp only[M.slices_Contains,M.Aj,afT s l hl,ah]
def FY:([[D.str []],[D.str [62]],[D.str [62,62]],[D.str [124]]]:aA)=encS [[],[62],[62,62],[124]]:=rfl
def Zw(s:aC):decide (QB s [[],[62],[62,62],[124]] 0>=0)=(s==[]||(s==[62]||(s==[62,62]||s==[124]))):=by
 have sw:∀a b:aC,(a==b)=(b==a):=λa b=>by rw[Bool.eq_iff_iff,beq_iff_eq,beq_iff_eq];exact⟨Eq.symm,Eq.symm⟩
 simp only[QB,sw _ s];cases s==[]<;>cases s==[62]<;>cases s==[62,62]<;>cases s==[124]<;>rfl
def FOk(k op:Int)(t o:aC)(kids:aA):Prop:=∃b,M.aI k op t o kids=some b∧M.iQ k op t o kids=some b
def ayz(k:Int)(op:Int)(t o:aC)(kids:aA)(ht:t.length<=1048576)(ho:o.length<=1048576)(hk:kids.length<=400)(hkk:k=1∨k=2∨k=3∨k=4∨k=5∨k=6∨k=7∨k=8∨k=9∨k=10∨k=11∨k=12∨k=13∨k=14∨k=15∨k=16∨k=20∨k=22∨k=23∨k=24∨k=25∨k=26∨k=27∨k=28∨k=29∨k=30∨k=31∨k=32∨k=33∨k=34∨k=40∨k=41∨k=44∨k=45):FOk k op t o kids:=by
 have hn:=abN t ht;have hn2:=abN o ho;have hb:=VA t;have ha:=oK op;obtain⟨hi,lv,hlv,hi2⟩:=AZ op;have tk:=λk hk=>aoP k t 0 ht hk
 have tk2:=tk 2 ⟨au,au⟩;have tk3:=tk 3 ⟨au,au⟩;have tk4:=tk 4 ⟨au,au⟩;have tk5:=tk 5 ⟨au,au⟩;have hc2:bI IntKind.i64 [D.int IntKind.i64 3,D.int IntKind.i64 4,D.int IntKind.i64 5] (i64.wrap 0).toNat=some 3:=rfl;have d12:decide ((0:Int)<=i64.wrap 0)=true:=rfl;have d22:decide (i64.wrap 0<3)=true:=rfl;have hc3:bI IntKind.i64 [D.int IntKind.i64 3,D.int IntKind.i64 4,D.int IntKind.i64 5] (i64.wrap 1).toNat=some 4:=rfl;have d13:decide ((0:Int)<=i64.wrap 1)=true:=rfl;have d23:decide (i64.wrap 1<3)=true:=rfl;have hc4:bI IntKind.i64 [D.int IntKind.i64 3,D.int IntKind.i64 4,D.int IntKind.i64 5] (i64.wrap 2).toNat=some 5:=rfl;have d14:decide ((0:Int)<=i64.wrap 2)=true:=rfl;have d24:decide (i64.wrap 2<3)=true:=rfl;have z1:decide ((kids.length:Int)<=400)=true:=zdt au;have z2:decide ((0:Int)<=(kids.length:Int))=true:=zdt au;have z3:decide ((kids.length:Int)<=(kids.length:Int))=true:=zdt au;rcases hkk with rfl|rfl|rfl|rfl|rfl|rfl|rfl|rfl|rfl|rfl|rfl|rfl|rfl|rfl|rfl|rfl|rfl|rfl|rfl|rfl|rfl|rfl|rfl|rfl|rfl|rfl|rfl|rfl|rfl|rfl|rfl|rfl|rfl|rfl<;>simp only[FOk,M.aI,M.bf,M.dA,M.bU,M.eP,M.dU,M.dD,M.cu,M.iQ,M.jC,M.eF,M.kK,M.jE,M.kL,M.jI,M.jR,M.jJ,M.jS,M.jK,M.jT,M.lF,M.lY,fU,dI,hn.1,hn.2,hn2.1,hn2.2,hb.1,hb.2,ha.1,ha.2,hi,hlv,hi2,tk2.1,tk2.2,tk3.1,tk3.2,tk4.1,tk4.2,tk5.1,tk5.2,hc2,d12,d22,hc3,d13,d23,hc4,d14,d24,z1,z2,z3,ge_iff_le,Int.reduceBEq,reduceLE,reduceSub,decide_true,decide_false,aS,bG,Bool.and_true,Bool.and_false,Bool.true_and,Bool.false_and,ah]
 ·cases(op==0)<;>cases(Oz t)<;>cases(o==[])<;>exact⟨_,rfl,rfl⟩
 ·cases(op==0)<;>cases(VB 3 t)<;>cases(o==[])<;>exact⟨_,rfl,rfl⟩
 ·cases(op==0)<;>cases(VB 4 t)<;>cases(o==[])<;>exact⟨_,rfl,rfl⟩
 ·cases(op==0)<;>cases(VB 5 t)<;>cases(o==[])<;>exact⟨_,rfl,rfl⟩
 ·cases(op==0)<;>cases(Oz t)<;>cases(o==[])<;>exact⟨_,rfl,rfl⟩
 ·cases(op==0)<;>cases(t==[])<;>cases(o==[])<;>exact⟨_,rfl,rfl⟩
 ·cases(op==0)<;>cases(Oz t)<;>cases(o==[])<;>exact⟨_,rfl,rfl⟩
 ·cases(op==0)<;>cases(acV t)<;>cases(o==[])<;>exact⟨_,rfl,rfl⟩
 ·cases(op==51)<;>cases(op==52)<;>cases(t==[])<;>cases(o==[])<;>exact⟨_,rfl,rfl⟩
 ·cases(op==51)<;>cases(op==52)<;>cases(t==[])<;>cases(o==[])<;>exact⟨_,rfl,rfl⟩
 ·cases(op==55)<;>cases(op==56)<;>cases(op==61)<;>cases(t==[])<;>cases(o==[])<;>exact⟨_,rfl,rfl⟩
 ·cases(afV op)<;>cases(t==[])<;>cases(o==[])<;>exact⟨_,rfl,rfl⟩
 ·cases(op==0)<;>cases(Oz t)<;>cases(o==[])<;>exact⟨_,rfl,rfl⟩
 ·cases(op==0)<;>cases(t==[])<;>cases(o==[])<;>exact⟨_,rfl,rfl⟩
 ·cases(afW op)<;>cases(t==[])<;>cases(o==[])<;>exact⟨_,rfl,rfl⟩
 ·cases(op==0)<;>cases(t==[])<;>cases(o==[])<;>exact⟨_,rfl,rfl⟩
 ·cases(op==0)<;>cases(t==[])<;>cases(o==[])<;>exact⟨_,rfl,rfl⟩
 ·cases(op==0)<;>cases(t==[])<;>cases(o==[])<;>exact⟨_,rfl,rfl⟩
 ·cases(op==0)<;>cases(t==[])<;>cases(o==[])<;>exact⟨_,rfl,rfl⟩
 ·cases(op==0)<;>cases(t==[])<;>cases(o==[])<;>exact⟨_,rfl,rfl⟩
 ·cases(op==0)<;>cases(t==[])<;>cases(o==[])<;>exact⟨_,rfl,rfl⟩
 ·cases(op==0)<;>cases(t==[])<;>cases(o==[])<;>exact⟨_,rfl,rfl⟩
 ·cases(op==0)<;>cases(Oz t)<;>cases(o==[])<;>exact⟨_,rfl,rfl⟩
 ·cases(op==0)<;>cases(t==[])<;>cases(o==[])<;>exact⟨_,rfl,rfl⟩
 ·cases(op==0)<;>cases(t==[])<;>cases(o==[])<;>exact⟨_,rfl,rfl⟩
 ·cases(op==0)<;>cases(t==[])<;>cases(o==[])<;>exact⟨_,rfl,rfl⟩
 ·cases(op==0)<;>cases(t==[])<;>cases(o==[])<;>exact⟨_,rfl,rfl⟩
 ·cases(op==0)<;>cases(Oz t)<;>cases(Oz o)<;>exact⟨_,rfl,rfl⟩
 ·cases(op==0)<;>cases(t==[])<;>cases(o==[])<;>exact⟨_,rfl,rfl⟩
 ·cases(op==0)<;>cases(VB 2 t)<;>cases(o==[])<;>exact⟨_,rfl,rfl⟩
 ·cases(op==0)<;>cases(t==[])<;>cases(o==[])<;>exact⟨_,rfl,rfl⟩
 ·cases(op==0)<;>cases(t==[])<;>cases(o==[])<;>exact⟨_,rfl,rfl⟩
 ·cases(op==0)<;>cases(Oz t)<;>cases(o==[])<;>exact⟨_,rfl,rfl⟩
 ·cases(op==0)<;>cases(t==[])<;>cases(o==[])<;>exact⟨_,rfl,rfl⟩
def aTz(op:Int)(t o:aC)(kids:aA)(ht:t.length<=1048576)(ho:o.length<=1048576)(hk:kids.length<=400):FOk 21 op t o kids:=by
 have hp:=Xm o [[],[62],[62,62],[124]] (by decide);rw[Zw] at hp
 by_cases h0:op=0
 ·subst h0;simp only[FOk,M.aI,M.bf,M.dA,M.bU,M.eP,M.dU,M.dD,M.cu,M.iQ,M.jC,M.eF,M.kK,M.jE,M.kL,M.jI,M.jR,M.jJ,M.jS,M.jK,M.jT,M.lF,M.lY,fU,dI,FY,hp,show i64.wrap (0+1)=1 from rfl,show i64.wrap (1+1)=2 from rfl,show i64.wrap (1+i64.wrap (Int.tdiv 1 3))=1 from rfl,show i64.wrap (1+i64.wrap (Int.tdiv 2 3))=1 from rfl,show i64.wrap (1+i64.wrap (Int.tdiv 3 3))=2 from rfl,show i64.wrap (2+i64.wrap (Int.tdiv 1 3))=2 from rfl,show i64.wrap (2+i64.wrap (Int.tdiv 3 3))=3 from rfl,ge_iff_le,Int.reduceBEq,reduceLE,reduceSub,decide_true,decide_false,aS,bG,Bool.and_true,Bool.and_false,Bool.true_and,Bool.false_and,ah];generalize (t==[])=a0;generalize (o==[])=a1;generalize (o==[62])=a2;generalize (o==[62,62])=a3;generalize (o==[124])=a4;cases a0<;>cases a1<;>cases a2<;>cases a3<;>cases a4<;>exact⟨_,rfl,rfl⟩
 by_cases h1:op=1
 ·subst h1;simp only[FOk,M.aI,M.bf,M.dA,M.bU,M.eP,M.dU,M.dD,M.cu,M.iQ,M.jC,M.eF,M.kK,M.jE,M.kL,M.jI,M.jR,M.jJ,M.jS,M.jK,M.jT,M.lF,M.lY,fU,dI,FY,hp,show i64.wrap (0+1)=1 from rfl,show i64.wrap (1+1)=2 from rfl,show i64.wrap (1+i64.wrap (Int.tdiv 1 3))=1 from rfl,show i64.wrap (1+i64.wrap (Int.tdiv 2 3))=1 from rfl,show i64.wrap (1+i64.wrap (Int.tdiv 3 3))=2 from rfl,show i64.wrap (2+i64.wrap (Int.tdiv 1 3))=2 from rfl,show i64.wrap (2+i64.wrap (Int.tdiv 3 3))=3 from rfl,ge_iff_le,Int.reduceBEq,reduceLE,reduceSub,decide_true,decide_false,aS,bG,Bool.and_true,Bool.and_false,Bool.true_and,Bool.false_and,ah];generalize (t==[])=a0;generalize (o==[])=a1;generalize (o==[62])=a2;generalize (o==[62,62])=a3;generalize (o==[124])=a4;cases a0<;>cases a1<;>cases a2<;>cases a3<;>cases a4<;>exact⟨_,rfl,rfl⟩
 have e0:(op==0)=false:=by simpa using h0
 have e1:(op==1)=false:=by simpa using h1
 have hf:(decide ((0:Int)<=op) && decide (op<=1))=false:=by rw[Bool.and_eq_false_iff,decide_eq_false_iff_not,decide_eq_false_iff_not];omega
 simp only[FOk,M.aI,M.bf,M.dA,M.bU,M.eP,M.dU,M.dD,M.cu,M.iQ,M.jC,M.eF,M.kK,M.jE,M.kL,M.jI,M.jR,M.jJ,M.jS,M.jK,M.jT,M.lF,M.lY,fU,dI,FY,hp,e0,e1,hf,ge_iff_le,Int.reduceBEq,reduceLE,reduceSub,decide_true,decide_false,aS,bG,Bool.and_true,Bool.and_false,Bool.true_and,Bool.false_and,ah];generalize (t==[])=a0;generalize (o==[])=a1;generalize (o==[62])=a2;generalize (o==[62,62])=a3;generalize (o==[124])=a4;cases a0<;>cases a1<;>cases a2<;>cases a3<;>cases a4<;>exact⟨_,rfl,rfl⟩
def aTA(op:Int)(t o:aC)(kids:aA)(ht:t.length<=1048576)(ho:o.length<=1048576)(hk:kids.length<=400):FOk 42 op t o kids:=by
 have hp:=Xm o [[],[62],[62,62],[124]] (by decide);rw[Zw] at hp
 by_cases h1:op=1
 ·subst h1;simp only[FOk,M.aI,M.bf,M.dA,M.bU,M.eP,M.dU,M.dD,M.cu,M.iQ,M.jC,M.eF,M.kK,M.jE,M.kL,M.jI,M.jR,M.jJ,M.jS,M.jK,M.jT,M.lF,M.lY,fU,dI,FY,hp,show i64.wrap (0+1)=1 from rfl,show i64.wrap (1+1)=2 from rfl,show i64.wrap (1+i64.wrap (Int.tdiv 1 3))=1 from rfl,show i64.wrap (1+i64.wrap (Int.tdiv 2 3))=1 from rfl,show i64.wrap (1+i64.wrap (Int.tdiv 3 3))=2 from rfl,show i64.wrap (2+i64.wrap (Int.tdiv 1 3))=2 from rfl,show i64.wrap (2+i64.wrap (Int.tdiv 3 3))=3 from rfl,ge_iff_le,Int.reduceBEq,reduceLE,reduceSub,decide_true,decide_false,aS,bG,Bool.and_true,Bool.and_false,Bool.true_and,Bool.false_and,ah];generalize (t==[])=a0;generalize (o==[])=a1;cases a0<;>cases a1<;>exact⟨_,rfl,rfl⟩
 by_cases h2:op=2
 ·subst h2;simp only[FOk,M.aI,M.bf,M.dA,M.bU,M.eP,M.dU,M.dD,M.cu,M.iQ,M.jC,M.eF,M.kK,M.jE,M.kL,M.jI,M.jR,M.jJ,M.jS,M.jK,M.jT,M.lF,M.lY,fU,dI,FY,hp,show i64.wrap (0+1)=1 from rfl,show i64.wrap (1+1)=2 from rfl,show i64.wrap (1+i64.wrap (Int.tdiv 1 3))=1 from rfl,show i64.wrap (1+i64.wrap (Int.tdiv 2 3))=1 from rfl,show i64.wrap (1+i64.wrap (Int.tdiv 3 3))=2 from rfl,show i64.wrap (2+i64.wrap (Int.tdiv 1 3))=2 from rfl,show i64.wrap (2+i64.wrap (Int.tdiv 3 3))=3 from rfl,ge_iff_le,Int.reduceBEq,reduceLE,reduceSub,decide_true,decide_false,aS,bG,Bool.and_true,Bool.and_false,Bool.true_and,Bool.false_and,ah];generalize (t==[])=a0;generalize (o==[])=a1;cases a0<;>cases a1<;>exact⟨_,rfl,rfl⟩
 by_cases h3:op=3
 ·subst h3;simp only[FOk,M.aI,M.bf,M.dA,M.bU,M.eP,M.dU,M.dD,M.cu,M.iQ,M.jC,M.eF,M.kK,M.jE,M.kL,M.jI,M.jR,M.jJ,M.jS,M.jK,M.jT,M.lF,M.lY,fU,dI,FY,hp,show i64.wrap (0+1)=1 from rfl,show i64.wrap (1+1)=2 from rfl,show i64.wrap (1+i64.wrap (Int.tdiv 1 3))=1 from rfl,show i64.wrap (1+i64.wrap (Int.tdiv 2 3))=1 from rfl,show i64.wrap (1+i64.wrap (Int.tdiv 3 3))=2 from rfl,show i64.wrap (2+i64.wrap (Int.tdiv 1 3))=2 from rfl,show i64.wrap (2+i64.wrap (Int.tdiv 3 3))=3 from rfl,ge_iff_le,Int.reduceBEq,reduceLE,reduceSub,decide_true,decide_false,aS,bG,Bool.and_true,Bool.and_false,Bool.true_and,Bool.false_and,ah];generalize (t==[])=a0;generalize (o==[])=a1;cases a0<;>cases a1<;>exact⟨_,rfl,rfl⟩
 have e1:(op==1)=false:=by simpa using h1
 have e2:(op==2)=false:=by simpa using h2
 have e3:(op==3)=false:=by simpa using h3
 have hf:(decide ((1:Int)<=op) && decide (op<=3))=false:=by rw[Bool.and_eq_false_iff,decide_eq_false_iff_not,decide_eq_false_iff_not];omega
 simp only[FOk,M.aI,M.bf,M.dA,M.bU,M.eP,M.dU,M.dD,M.cu,M.iQ,M.jC,M.eF,M.kK,M.jE,M.kL,M.jI,M.jR,M.jJ,M.jS,M.jK,M.jT,M.lF,M.lY,fU,dI,FY,hp,e1,e2,e3,hf,ge_iff_le,Int.reduceBEq,reduceLE,reduceSub,decide_true,decide_false,aS,bG,Bool.and_true,Bool.and_false,Bool.true_and,Bool.false_and,ah];generalize (t==[])=a0;generalize (o==[])=a1;cases a0<;>cases a1<;>exact⟨_,rfl,rfl⟩
def aTB(op:Int)(t o:aC)(kids:aA)(ht:t.length<=1048576)(ho:o.length<=1048576)(hk:kids.length<=400):FOk 43 op t o kids:=by
 have hp:=Xm o [[],[62],[62,62],[124]] (by decide);rw[Zw] at hp
 by_cases h1:op=1
 ·subst h1;simp only[FOk,M.aI,M.bf,M.dA,M.bU,M.eP,M.dU,M.dD,M.cu,M.iQ,M.jC,M.eF,M.kK,M.jE,M.kL,M.jI,M.jR,M.jJ,M.jS,M.jK,M.jT,M.lF,M.lY,fU,dI,FY,hp,show i64.wrap (0+1)=1 from rfl,show i64.wrap (1+1)=2 from rfl,show i64.wrap (1+i64.wrap (Int.tdiv 1 3))=1 from rfl,show i64.wrap (1+i64.wrap (Int.tdiv 2 3))=1 from rfl,show i64.wrap (1+i64.wrap (Int.tdiv 3 3))=2 from rfl,show i64.wrap (2+i64.wrap (Int.tdiv 1 3))=2 from rfl,show i64.wrap (2+i64.wrap (Int.tdiv 3 3))=3 from rfl,ge_iff_le,Int.reduceBEq,reduceLE,reduceSub,decide_true,decide_false,aS,bG,Bool.and_true,Bool.and_false,Bool.true_and,Bool.false_and,ah];generalize (t==[])=a0;generalize (o==[])=a1;cases a0<;>cases a1<;>exact⟨_,rfl,rfl⟩
 by_cases h3:op=3
 ·subst h3;simp only[FOk,M.aI,M.bf,M.dA,M.bU,M.eP,M.dU,M.dD,M.cu,M.iQ,M.jC,M.eF,M.kK,M.jE,M.kL,M.jI,M.jR,M.jJ,M.jS,M.jK,M.jT,M.lF,M.lY,fU,dI,FY,hp,show i64.wrap (0+1)=1 from rfl,show i64.wrap (1+1)=2 from rfl,show i64.wrap (1+i64.wrap (Int.tdiv 1 3))=1 from rfl,show i64.wrap (1+i64.wrap (Int.tdiv 2 3))=1 from rfl,show i64.wrap (1+i64.wrap (Int.tdiv 3 3))=2 from rfl,show i64.wrap (2+i64.wrap (Int.tdiv 1 3))=2 from rfl,show i64.wrap (2+i64.wrap (Int.tdiv 3 3))=3 from rfl,ge_iff_le,Int.reduceBEq,reduceLE,reduceSub,decide_true,decide_false,aS,bG,Bool.and_true,Bool.and_false,Bool.true_and,Bool.false_and,ah];generalize (t==[])=a0;generalize (o==[])=a1;cases a0<;>cases a1<;>exact⟨_,rfl,rfl⟩
 have e1:(op==1)=false:=by simpa using h1
 have e3:(op==3)=false:=by simpa using h3
 have hf:True:=trivial;simp only[FOk,M.aI,M.bf,M.dA,M.bU,M.eP,M.dU,M.dD,M.cu,M.iQ,M.jC,M.eF,M.kK,M.jE,M.kL,M.jI,M.jR,M.jJ,M.jS,M.jK,M.jT,M.lF,M.lY,fU,dI,FY,hp,e1,e3,hf,ge_iff_le,Int.reduceBEq,reduceLE,reduceSub,decide_true,decide_false,aS,bG,Bool.and_true,Bool.and_false,Bool.true_and,Bool.false_and,ah];generalize (t==[])=a0;generalize (o==[])=a1;cases a0<;>cases a1<;>exact⟨_,rfl,rfl⟩
def anp(k:Int)(op:Int)(t o:aC)(kids:aA)(ht:t.length<=1048576)(ho:o.length<=1048576)(hk:kids.length<=400):FOk k op t o kids:=by
 by_cases hkk:k=1∨k=2∨k=3∨k=4∨k=5∨k=6∨k=7∨k=8∨k=9∨k=10∨k=11∨k=12∨k=13∨k=14∨k=15∨k=16∨k=20∨k=22∨k=23∨k=24∨k=25∨k=26∨k=27∨k=28∨k=29∨k=30∨k=31∨k=32∨k=33∨k=34∨k=40∨k=41∨k=44∨k=45
 ·exact ayz k op t o kids ht ho hk hkk
 by_cases h21:k=21
 ·subst h21;exact aTz op t o kids ht ho hk
 by_cases h42:k=42
 ·subst h42;exact aTA op t o kids ht ho hk
 by_cases h43:k=43
 ·subst h43;exact aTB op t o kids ht ho hk
 have h1:k≠1:=au;have h2:k≠2:=au;have h3:k≠3:=au;have h4:k≠4:=au;have h5:k≠5:=au;have h6:k≠6:=au;have h7:k≠7:=au;have h8:k≠8:=au;have h9:k≠9:=au;have h10:k≠10:=au;have h11:k≠11:=au;have h12:k≠12:=au;have h13:k≠13:=au;have h14:k≠14:=au;have h15:k≠15:=au;have h16:k≠16:=au;have h20:k≠20:=au;have h22:k≠22:=au;have h23:k≠23:=au;have h24:k≠24:=au;have h25:k≠25:=au;have h26:k≠26:=au;have h27:k≠27:=au;have h28:k≠28:=au;have h29:k≠29:=au;have h30:k≠30:=au;have h31:k≠31:=au;have h32:k≠32:=au;have h33:k≠33:=au;have h34:k≠34:=au;have h40:k≠40:=au;have h41:k≠41:=au;have h44:k≠44:=au;have h45:k≠45:=au;have f1:(decide (k>=1) && decide (k<=16))=false:=by rw[Bool.and_eq_false_iff,decide_eq_false_iff_not,decide_eq_false_iff_not];omega
 have f2:(decide (k>=20) && decide (k<=34))=false:=by rw[Bool.and_eq_false_iff,decide_eq_false_iff_not,decide_eq_false_iff_not];omega
 have f3:(decide (k>=40) && decide (k<=45))=false:=by rw[Bool.and_eq_false_iff,decide_eq_false_iff_not,decide_eq_false_iff_not];omega
 have f4:(decide (k>=1) && decide (k<=15))=false:=by rw[Bool.and_eq_false_iff,decide_eq_false_iff_not,decide_eq_false_iff_not];omega
 have g:(k==16)=false:=by simpa using h16
 have e1:(k==1)=false:=by simpa using h1
 have e2:(k==2)=false:=by simpa using h2
 have e3:(k==3)=false:=by simpa using h3
 have e4:(k==4)=false:=by simpa using h4
 have e5:(k==5)=false:=by simpa using h5
 have e6:(k==6)=false:=by simpa using h6
 have e7:(k==7)=false:=by simpa using h7
 have e8:(k==8)=false:=by simpa using h8
 have e9:(k==9)=false:=by simpa using h9
 have e10:(k==10)=false:=by simpa using h10
 have e11:(k==11)=false:=by simpa using h11
 have e12:(k==12)=false:=by simpa using h12
 have e13:(k==13)=false:=by simpa using h13
 have e14:(k==14)=false:=by simpa using h14
 have e15:(k==15)=false:=by simpa using h15
 have e16:(k==16)=false:=by simpa using h16
 have e20:(k==20)=false:=by simpa using h20
 have e21:(k==21)=false:=by simpa using h21
 have e22:(k==22)=false:=by simpa using h22
 have e23:(k==23)=false:=by simpa using h23
 have e24:(k==24)=false:=by simpa using h24
 have e25:(k==25)=false:=by simpa using h25
 have e26:(k==26)=false:=by simpa using h26
 have e27:(k==27)=false:=by simpa using h27
 have e28:(k==28)=false:=by simpa using h28
 have e29:(k==29)=false:=by simpa using h29
 have e30:(k==30)=false:=by simpa using h30
 have e31:(k==31)=false:=by simpa using h31
 have e32:(k==32)=false:=by simpa using h32
 have e33:(k==33)=false:=by simpa using h33
 have e34:(k==34)=false:=by simpa using h34
 have e40:(k==40)=false:=by simpa using h40
 have e41:(k==41)=false:=by simpa using h41
 have e42:(k==42)=false:=by simpa using h42
 have e43:(k==43)=false:=by simpa using h43
 have e44:(k==44)=false:=by simpa using h44
 have e45:(k==45)=false:=by simpa using h45
 simp only[FOk,M.aI,M.bf,M.dA,M.bU,M.iQ,M.jC,M.eF,M.kK,M.jE,M.kL,fU,dI,f1,f2,f3,f4,e1,e2,e3,e4,e5,e6,e7,e8,e9,e10,e11,e12,e13,e14,e15,e16,e20,e21,e22,e23,e24,e25,e26,e27,e28,e29,e30,e31,e32,e33,e34,e40,e41,e42,e43,e44,e45,bG,ah];exact⟨false,rfl,rfl⟩
end Go.Proofs.YtbpldgeajbfgnaaGreatDoor
namespace Go.Proofs.YtbpldgeajbfgnaaGreatDoor
set_option linter.unusedVariables false
set_option linter.unusedSimpArgs false
set_option linter.unusedSectionVars false
open Go Go.Vm
open Go.IntKind (i64)
open Int (reduceLE reduceLT reduceSub reduceAdd)
structure Cons(k op:Int)(n:Nat):Prop where
 two:k=29∨k=30->n=2
 four:k=31->n=4
 rule:k=42->(op=1∧n=1)∨(op=2∧n=1)∨(op=3∧n=2)
 range:k=43->(op=1∧n=2)∨(op=3∧n=3)
def a5g(op:Int)(t o:aC)(kids:aA)(h:M.aI 29 op t o kids=some true):kids.length=2:=by simp only[M.aI,M.bf,M.dA,M.bU,M.eP,M.dU,M.dD,M.cu,fU,dI,Int.reduceBEq,reduceLE,reduceLT,reduceSub,reduceAdd,dw,ah] at h;revert h;cases op==0<;>cases t==[]<;>cases o==[]<;>simp<;>omega
def a5h(op:Int)(t o:aC)(kids:aA)(h:M.aI 30 op t o kids=some true):kids.length=2:=by simp only[M.aI,M.bf,M.dA,M.bU,M.eP,M.dU,M.dD,M.cu,fU,dI,Int.reduceBEq,reduceLE,reduceLT,reduceSub,reduceAdd,dw,ah] at h;revert h;cases op==0<;>cases t==[]<;>cases o==[]<;>simp<;>omega
def a5i(op:Int)(t o:aC)(kids:aA)(h:M.aI 31 op t o kids=some true):kids.length=4:=by simp only[M.aI,M.bf,M.dA,M.bU,M.eP,M.dU,M.dD,M.cu,fU,dI,Int.reduceBEq,reduceLE,reduceLT,reduceSub,reduceAdd,dw,ah] at h;revert h;cases op==0<;>cases t==[]<;>cases o==[]<;>simp<;>omega
def a5j(op:Int)(t o:aC)(kids:aA)(h:M.aI 42 op t o kids=some true):(op=1∧kids.length=1)∨(op=2∧kids.length=1)∨(op=3∧kids.length=2):=by
 by_cases h1:op=1
 ·subst h1;simp only[M.aI,M.bf,M.dA,M.bU,M.eP,M.dU,M.dD,M.cu,fU,dI,show i64.wrap (1+i64.wrap (Int.tdiv 1 3))=1 from rfl,show i64.wrap (1+i64.wrap (Int.tdiv 2 3))=1 from rfl,show i64.wrap (1+i64.wrap (Int.tdiv 3 3))=2 from rfl,show i64.wrap (2+i64.wrap (Int.tdiv 1 3))=2 from rfl,show i64.wrap (2+i64.wrap (Int.tdiv 3 3))=3 from rfl,Int.reduceBEq,reduceLE,reduceLT,reduceSub,reduceAdd,dw,ah] at h;revert h;cases t==[]<;>cases o==[]<;>simp<;>omega
 have e1:(op==1)=false:=by simpa using h1
 by_cases h2:op=2
 ·subst h2;simp only[M.aI,M.bf,M.dA,M.bU,M.eP,M.dU,M.dD,M.cu,fU,dI,show i64.wrap (1+i64.wrap (Int.tdiv 1 3))=1 from rfl,show i64.wrap (1+i64.wrap (Int.tdiv 2 3))=1 from rfl,show i64.wrap (1+i64.wrap (Int.tdiv 3 3))=2 from rfl,show i64.wrap (2+i64.wrap (Int.tdiv 1 3))=2 from rfl,show i64.wrap (2+i64.wrap (Int.tdiv 3 3))=3 from rfl,Int.reduceBEq,reduceLE,reduceLT,reduceSub,reduceAdd,dw,ah] at h;revert h;cases t==[]<;>cases o==[]<;>simp<;>omega
 have e2:(op==2)=false:=by simpa using h2
 by_cases h3:op=3
 ·subst h3;simp only[M.aI,M.bf,M.dA,M.bU,M.eP,M.dU,M.dD,M.cu,fU,dI,show i64.wrap (1+i64.wrap (Int.tdiv 1 3))=1 from rfl,show i64.wrap (1+i64.wrap (Int.tdiv 2 3))=1 from rfl,show i64.wrap (1+i64.wrap (Int.tdiv 3 3))=2 from rfl,show i64.wrap (2+i64.wrap (Int.tdiv 1 3))=2 from rfl,show i64.wrap (2+i64.wrap (Int.tdiv 3 3))=3 from rfl,Int.reduceBEq,reduceLE,reduceLT,reduceSub,reduceAdd,dw,ah] at h;revert h;cases t==[]<;>cases o==[]<;>simp<;>omega
 have e3:(op==3)=false:=by simpa using h3
 have hf:(decide ((1:Int)<=op) && decide (op<=3))=false:=by rw[Bool.and_eq_false_iff,decide_eq_false_iff_not,decide_eq_false_iff_not];omega
 simp only[M.aI,M.bf,M.dA,M.bU,M.eP,M.dU,M.dD,M.cu,fU,dI,e1,e2,e3,hf,Int.reduceBEq,reduceLE,reduceLT,reduceSub,reduceAdd,dw,ah] at h;cases h
def a5k(op:Int)(t o:aC)(kids:aA)(h:M.aI 43 op t o kids=some true):(op=1∧kids.length=2)∨(op=3∧kids.length=3):=by
 by_cases h1:op=1
 ·subst h1;simp only[M.aI,M.bf,M.dA,M.bU,M.eP,M.dU,M.dD,M.cu,fU,dI,show i64.wrap (1+i64.wrap (Int.tdiv 1 3))=1 from rfl,show i64.wrap (1+i64.wrap (Int.tdiv 2 3))=1 from rfl,show i64.wrap (1+i64.wrap (Int.tdiv 3 3))=2 from rfl,show i64.wrap (2+i64.wrap (Int.tdiv 1 3))=2 from rfl,show i64.wrap (2+i64.wrap (Int.tdiv 3 3))=3 from rfl,Int.reduceBEq,reduceLE,reduceLT,reduceSub,reduceAdd,dw,ah] at h;revert h;cases t==[]<;>cases o==[]<;>simp<;>omega
 have e1:(op==1)=false:=by simpa using h1
 by_cases h3:op=3
 ·subst h3;simp only[M.aI,M.bf,M.dA,M.bU,M.eP,M.dU,M.dD,M.cu,fU,dI,show i64.wrap (1+i64.wrap (Int.tdiv 1 3))=1 from rfl,show i64.wrap (1+i64.wrap (Int.tdiv 2 3))=1 from rfl,show i64.wrap (1+i64.wrap (Int.tdiv 3 3))=2 from rfl,show i64.wrap (2+i64.wrap (Int.tdiv 1 3))=2 from rfl,show i64.wrap (2+i64.wrap (Int.tdiv 3 3))=3 from rfl,Int.reduceBEq,reduceLE,reduceLT,reduceSub,reduceAdd,dw,ah] at h;revert h;cases t==[]<;>cases o==[]<;>simp<;>omega
 have e3:(op==3)=false:=by simpa using h3
 have hf:True:=trivial;simp only[M.aI,M.bf,M.dA,M.bU,M.eP,M.dU,M.dD,M.cu,fU,dI,e1,e3,hf,Int.reduceBEq,reduceLE,reduceLT,reduceSub,reduceAdd,dw,ah] at h;cases h
def ajY{k op:Int}{t o:aC}{kids:aA}(h:M.aI k op t o kids=some true):Cons k op kids.length:=
 ⟨λe=>(by rcases e with rfl|rfl;exact a5g op t o kids h;exact a5h op t o kids h),λe=>(by subst e;exact a5i op t o kids h),λe=>(by subst e;exact a5j op t o kids h),λe=>(by subst e;exact a5k op t o kids h)⟩
def ug(k:Int):Bool:=decide (1<=k) && decide (k<=15)
def UY(k:Int):Bool:=k==1||(k==5||k==6)
def aaK(k:Int):Bool:=decide (20<=k) && decide (k<=34)
def isIt(k:Int):Bool:=decide (40<=k) && decide (k<=44)
def bK(k:Int):M.iV k=some (ug k)∧M.eF k=some (ug k):=by simp only[M.iV,M.P5,M.eF,M.kK,fU,dI,ah,ug,ge_iff_le];constructor<;>first|rfl|trivial
def bM(k:Int):M.D7 k=some (aaK k)∧M.jE k=some (aaK k):=by simp only[M.D7,M.P6,M.jE,M.kL,fU,dI,ah,aaK,ge_iff_le];constructor<;>first|rfl|trivial
def bP(k:Int):M.bD k 40 44=some (isIt k)∧M.Ec k=some (isIt k):=by simp only[M.Ec,M.Qh,fU,dI,ah,isIt,ge_iff_le];constructor<;>first|rfl|trivial
def aV(k:Int):M.qR k=some (UY k)∧M.qW k=some (UY k):=by simp only[M.qR,M.KD,M.qW,M.KU,UY];cases k==1<;>cases k==5<;>exact⟨rfl,rfl⟩
def aTC(k:Int):UY k=(ug k && UY k):=by
 by_cases h1:k=1
 ·subst h1;rfl
 by_cases h5:k=5
 ·subst h5;rfl
 by_cases h6:k=6
 ·subst h6;rfl
 have e:UY k=false:=by simp[UY,h1,h5,h6]
 rw[e,Bool.and_false]
def zG(k op:Int)(t o:aC)(kids:aA)(j d:Int):Prop:=∃b,M.aO k op t o kids j d=some b∧M.bn k op t o kids j d=some b
def a5l(op:Int)(t o:aC)(kids:aA)(j d:Int)(h0:0<=j)(h1:j<kids.length)(hk:kids.length<=400)(hc:Cons 1 op kids.length):zG 1 op t o kids j d:=by simp only[zG,M.aO,M.aN,M.bn,M.aU,bK,bM,bP,aV,Int.reduceBEq,reduceLE,reduceLT,reduceSub,reduceAdd,dw,ah];generalize (ug d)=a0;cases a0<;>exact⟨_,rfl,rfl⟩
def a5m(op:Int)(t o:aC)(kids:aA)(j d:Int)(h0:0<=j)(h1:j<kids.length)(hk:kids.length<=400)(hc:Cons 2 op kids.length):zG 2 op t o kids j d:=by simp only[zG,M.aO,M.aN,M.bn,M.aU,bK,bM,bP,aV,Int.reduceBEq,reduceLE,reduceLT,reduceSub,reduceAdd,dw,ah];generalize (ug d)=a0;cases a0<;>exact⟨_,rfl,rfl⟩
def a5n(op:Int)(t o:aC)(kids:aA)(j d:Int)(h0:0<=j)(h1:j<kids.length)(hk:kids.length<=400)(hc:Cons 3 op kids.length):zG 3 op t o kids j d:=by simp only[zG,M.aO,M.aN,M.bn,M.aU,bK,bM,bP,aV,Int.reduceBEq,reduceLE,reduceLT,reduceSub,reduceAdd,dw,ah];generalize (ug d)=a0;cases a0<;>exact⟨_,rfl,rfl⟩
def a5o(op:Int)(t o:aC)(kids:aA)(j d:Int)(h0:0<=j)(h1:j<kids.length)(hk:kids.length<=400)(hc:Cons 4 op kids.length):zG 4 op t o kids j d:=by simp only[zG,M.aO,M.aN,M.bn,M.aU,bK,bM,bP,aV,Int.reduceBEq,reduceLE,reduceLT,reduceSub,reduceAdd,dw,ah];generalize (ug d)=a0;cases a0<;>exact⟨_,rfl,rfl⟩
def a5p(op:Int)(t o:aC)(kids:aA)(j d:Int)(h0:0<=j)(h1:j<kids.length)(hk:kids.length<=400)(hc:Cons 5 op kids.length):zG 5 op t o kids j d:=by simp only[zG,M.aO,M.aN,M.bn,M.aU,bK,bM,bP,aV,Int.reduceBEq,reduceLE,reduceLT,reduceSub,reduceAdd,dw,ah];generalize (ug d)=a0;cases a0<;>exact⟨_,rfl,rfl⟩
def a5q(op:Int)(t o:aC)(kids:aA)(j d:Int)(h0:0<=j)(h1:j<kids.length)(hk:kids.length<=400)(hc:Cons 6 op kids.length):zG 6 op t o kids j d:=by simp only[zG,M.aO,M.aN,M.bn,M.aU,bK,bM,bP,aV,Int.reduceBEq,reduceLE,reduceLT,reduceSub,reduceAdd,dw,ah];generalize (ug d)=a0;cases a0<;>exact⟨_,rfl,rfl⟩
def a5r(op:Int)(t o:aC)(kids:aA)(j d:Int)(h0:0<=j)(h1:j<kids.length)(hk:kids.length<=400)(hc:Cons 7 op kids.length):zG 7 op t o kids j d:=by simp only[zG,M.aO,M.aN,M.bn,M.aU,bK,bM,bP,aV,Int.reduceBEq,reduceLE,reduceLT,reduceSub,reduceAdd,dw,ah];generalize (ug d)=a0;cases a0<;>exact⟨_,rfl,rfl⟩
def a5s(op:Int)(t o:aC)(kids:aA)(j d:Int)(h0:0<=j)(h1:j<kids.length)(hk:kids.length<=400)(hc:Cons 8 op kids.length):zG 8 op t o kids j d:=by simp only[zG,M.aO,M.aN,M.bn,M.aU,bK,bM,bP,aV,Int.reduceBEq,reduceLE,reduceLT,reduceSub,reduceAdd,dw,ah];generalize (ug d)=a0;cases a0<;>exact⟨_,rfl,rfl⟩
def a5t(op:Int)(t o:aC)(kids:aA)(j d:Int)(h0:0<=j)(h1:j<kids.length)(hk:kids.length<=400)(hc:Cons 9 op kids.length):zG 9 op t o kids j d:=by simp only[zG,M.aO,M.aN,M.bn,M.aU,bK,bM,bP,aV,Int.reduceBEq,reduceLE,reduceLT,reduceSub,reduceAdd,dw,ah];generalize (UY d)=a0;cases a0<;>exact⟨_,rfl,rfl⟩
def aTD(op:Int)(t o:aC)(kids:aA)(j d:Int)(h0:0<=j)(h1:j<kids.length)(hk:kids.length<=400)(hc:Cons 10 op kids.length):zG 10 op t o kids j d:=by simp only[zG,M.aO,M.aN,M.bn,M.aU,bK,bM,bP,aV,Int.reduceBEq,reduceLE,reduceLT,reduceSub,reduceAdd,dw,ah];generalize (UY d)=a0;cases a0<;>exact⟨_,rfl,rfl⟩
def aTE(op:Int)(t o:aC)(kids:aA)(j d:Int)(h0:0<=j)(h1:j<kids.length)(hk:kids.length<=400)(hc:Cons 11 op kids.length):zG 11 op t o kids j d:=by simp only[zG,M.aO,M.aN,M.bn,M.aU,bK,bM,bP,aV,Int.reduceBEq,reduceLE,reduceLT,reduceSub,reduceAdd,dw,ah];generalize (ug d)=a0;cases a0<;>exact⟨_,rfl,rfl⟩
def aTF(op:Int)(t o:aC)(kids:aA)(j d:Int)(h0:0<=j)(h1:j<kids.length)(hk:kids.length<=400)(hc:Cons 12 op kids.length):zG 12 op t o kids j d:=by simp only[zG,M.aO,M.aN,M.bn,M.aU,bK,bM,bP,aV,Int.reduceBEq,reduceLE,reduceLT,reduceSub,reduceAdd,dw,ah];generalize (ug d)=a0;cases a0<;>exact⟨_,rfl,rfl⟩
def aTG(op:Int)(t o:aC)(kids:aA)(j d:Int)(h0:0<=j)(h1:j<kids.length)(hk:kids.length<=400)(hc:Cons 13 op kids.length):zG 13 op t o kids j d:=by simp only[zG,M.aO,M.aN,M.bn,M.aU,bK,bM,bP,aV,Int.reduceBEq,reduceLE,reduceLT,reduceSub,reduceAdd,dw,ah];generalize (ug d)=a0;cases a0<;>exact⟨_,rfl,rfl⟩
def aTH(op:Int)(t o:aC)(kids:aA)(j d:Int)(h0:0<=j)(h1:j<kids.length)(hk:kids.length<=400)(hc:Cons 14 op kids.length):zG 14 op t o kids j d:=by simp only[zG,M.aO,M.aN,M.bn,M.aU,bK,bM,bP,aV,Int.reduceBEq,reduceLE,reduceLT,reduceSub,reduceAdd,dw,ah];generalize (ug d)=a0;cases a0<;>exact⟨_,rfl,rfl⟩
def aTI(op:Int)(t o:aC)(kids:aA)(j d:Int)(h0:0<=j)(h1:j<kids.length)(hk:kids.length<=400)(hc:Cons 15 op kids.length):zG 15 op t o kids j d:=by
 by_cases hj:j=0
 ·subst hj;have hl:=aTC d;simp only[zG,M.aO,M.aN,M.bn,M.aU,bK,bM,bP,aV,Int.reduceBEq,reduceLE,reduceLT,reduceSub,reduceAdd,dw,ah];revert hl;cases ug d<;>cases UY d<;>intro hl<;>first|exact⟨_,rfl,rfl⟩|cases hl
 have e0:(j==0)=false:=by simpa using hj
 have e1:decide (0<j)=true:=zdt au;simp only[zG,M.aO,M.aN,M.bn,M.aU,bK,bM,bP,aV,e0,e1,Int.reduceBEq,reduceLE,reduceLT,reduceSub,reduceAdd,dw,ah];generalize (ug d)=a0;cases a0<;>exact⟨_,rfl,rfl⟩
def aTJ(op:Int)(t o:aC)(kids:aA)(j d:Int)(h0:0<=j)(h1:j<kids.length)(hk:kids.length<=400)(hc:Cons 16 op kids.length):zG 16 op t o kids j d:=by simp only[zG,M.aO,M.aN,M.bn,M.aU,bK,bM,bP,aV,Int.reduceBEq,reduceLE,reduceLT,reduceSub,reduceAdd,dw,ah];generalize (ug d)=a0;cases a0<;>exact⟨_,rfl,rfl⟩
def aTK(op:Int)(t o:aC)(kids:aA)(j d:Int)(h0:0<=j)(h1:j<kids.length)(hk:kids.length<=400)(hc:Cons 20 op kids.length):zG 20 op t o kids j d:=by simp only[zG,M.aO,M.aN,M.bn,M.aU,bK,bM,bP,aV,Int.reduceBEq,reduceLE,reduceLT,reduceSub,reduceAdd,dw,ah];generalize (ug d)=a0;cases a0<;>exact⟨_,rfl,rfl⟩
def aTL(op:Int)(t o:aC)(kids:aA)(j d:Int)(h0:0<=j)(h1:j<kids.length)(hk:kids.length<=400)(hc:Cons 21 op kids.length):zG 21 op t o kids j d:=by simp only[zG,M.aO,M.aN,M.bn,M.aU,bK,bM,bP,aV,Int.reduceBEq,reduceLE,reduceLT,reduceSub,reduceAdd,dw,ah];generalize (ug d)=a0;cases a0<;>exact⟨_,rfl,rfl⟩
def aTM(op:Int)(t o:aC)(kids:aA)(j d:Int)(h0:0<=j)(h1:j<kids.length)(hk:kids.length<=400)(hc:Cons 22 op kids.length):zG 22 op t o kids j d:=by simp only[zG,M.aO,M.aN,M.bn,M.aU,bK,bM,bP,aV,Int.reduceBEq,reduceLE,reduceLT,reduceSub,reduceAdd,dw,ah];generalize (ug d)=a0;cases a0<;>exact⟨_,rfl,rfl⟩
def aTN(op:Int)(t o:aC)(kids:aA)(j d:Int)(h0:0<=j)(h1:j<kids.length)(hk:kids.length<=400)(hc:Cons 23 op kids.length):zG 23 op t o kids j d:=by simp only[zG,M.aO,M.aN,M.bn,M.aU,bK,bM,bP,aV,Int.reduceBEq,reduceLE,reduceLT,reduceSub,reduceAdd,dw,ah];generalize (ug d)=a0;cases a0<;>exact⟨_,rfl,rfl⟩
def aTO(op:Int)(t o:aC)(kids:aA)(j d:Int)(h0:0<=j)(h1:j<kids.length)(hk:kids.length<=400)(hc:Cons 24 op kids.length):zG 24 op t o kids j d:=by simp only[zG,M.aO,M.aN,M.bn,M.aU,bK,bM,bP,aV,Int.reduceBEq,reduceLE,reduceLT,reduceSub,reduceAdd,dw,ah];generalize (ug d)=a0;cases a0<;>exact⟨_,rfl,rfl⟩
def aTP(op:Int)(t o:aC)(kids:aA)(j d:Int)(h0:0<=j)(h1:j<kids.length)(hk:kids.length<=400)(hc:Cons 25 op kids.length):zG 25 op t o kids j d:=by simp only[zG,M.aO,M.aN,M.bn,M.aU,bK,bM,bP,aV,Int.reduceBEq,reduceLE,reduceLT,reduceSub,reduceAdd,dw,ah];generalize (ug d)=a0;cases a0<;>exact⟨_,rfl,rfl⟩
def aTQ(op:Int)(t o:aC)(kids:aA)(j d:Int)(h0:0<=j)(h1:j<kids.length)(hk:kids.length<=400)(hc:Cons 26 op kids.length):zG 26 op t o kids j d:=by simp only[zG,M.aO,M.aN,M.bn,M.aU,bK,bM,bP,aV,Int.reduceBEq,reduceLE,reduceLT,reduceSub,reduceAdd,dw,ah];generalize (ug d)=a0;cases a0<;>exact⟨_,rfl,rfl⟩
def aTR(op:Int)(t o:aC)(kids:aA)(j d:Int)(h0:0<=j)(h1:j<kids.length)(hk:kids.length<=400)(hc:Cons 27 op kids.length):zG 27 op t o kids j d:=by simp only[zG,M.aO,M.aN,M.bn,M.aU,bK,bM,bP,aV,Int.reduceBEq,reduceLE,reduceLT,reduceSub,reduceAdd,dw,ah];generalize (ug d)=a0;cases a0<;>exact⟨_,rfl,rfl⟩
def aTS(op:Int)(t o:aC)(kids:aA)(j d:Int)(h0:0<=j)(h1:j<kids.length)(hk:kids.length<=400)(hc:Cons 28 op kids.length):zG 28 op t o kids j d:=by
 by_cases hj:j=0
 ·subst hj;simp only[zG,M.aO,M.aN,M.bn,M.aU,bK,bM,bP,aV,Int.reduceBEq,reduceLE,reduceLT,reduceSub,reduceAdd,dw,ah];generalize (ug d)=a0;generalize (d==33)=a1;cases a0<;>cases a1<;>exact⟨_,rfl,rfl⟩
 have e0:(j==0)=false:=by simpa using hj
 have e1:decide (0<j)=true:=zdt au;simp only[zG,M.aO,M.aN,M.bn,M.aU,bK,bM,bP,aV,e0,e1,Int.reduceBEq,reduceLE,reduceLT,reduceSub,reduceAdd,dw,ah];generalize (d==33)=a0;cases a0<;>exact⟨_,rfl,rfl⟩
def aTT(op:Int)(t o:aC)(kids:aA)(j d:Int)(h0:0<=j)(h1:j<kids.length)(hk:kids.length<=400)(hc:Cons 29 op kids.length):zG 29 op t o kids j d:=by
 have hl:=hc.two au;obtain rfl|rfl:j=0∨j=1:=au
 ·simp only[zG,M.aO,M.aN,M.bn,M.aU,bK,bM,bP,aV,Int.reduceBEq,reduceLE,reduceLT,reduceSub,reduceAdd,dw,ah];generalize (ug d)=a0;generalize (d==33)=a1;cases a0<;>cases a1<;>exact⟨_,rfl,rfl⟩
 ·simp only[zG,M.aO,M.aN,M.bn,M.aU,bK,bM,bP,aV,Int.reduceBEq,reduceLE,reduceLT,reduceSub,reduceAdd,dw,ah];generalize (ug d)=a0;generalize (d==33)=a1;cases a0<;>cases a1<;>exact⟨_,rfl,rfl⟩
def aTU(op:Int)(t o:aC)(kids:aA)(j d:Int)(h0:0<=j)(h1:j<kids.length)(hk:kids.length<=400)(hc:Cons 30 op kids.length):zG 30 op t o kids j d:=by
 have hl:=hc.two au;obtain rfl|rfl:j=0∨j=1:=au
 ·simp only[zG,M.aO,M.aN,M.bn,M.aU,bK,bM,bP,aV,Int.reduceBEq,reduceLE,reduceLT,reduceSub,reduceAdd,dw,ah];generalize (ug d)=a0;generalize (d==33)=a1;cases a0<;>cases a1<;>exact⟨_,rfl,rfl⟩
 ·simp only[zG,M.aO,M.aN,M.bn,M.aU,bK,bM,bP,aV,Int.reduceBEq,reduceLE,reduceLT,reduceSub,reduceAdd,dw,ah];generalize (ug d)=a0;generalize (d==33)=a1;cases a0<;>cases a1<;>exact⟨_,rfl,rfl⟩
def aTV(op:Int)(t o:aC)(kids:aA)(j d:Int)(h0:0<=j)(h1:j<kids.length)(hk:kids.length<=400)(hc:Cons 31 op kids.length):zG 31 op t o kids j d:=by
 have hl:=hc.four rfl;have hw:i64.wrap ((kids.length:Int) - 1)=3:=by rw[hl];rfl
 obtain rfl|rfl|rfl|rfl:j=0∨j=1∨j=2∨j=3:=au
 ·simp only[zG,M.aO,M.aN,M.bn,M.aU,bK,bM,bP,aV,hw,Int.reduceBEq,reduceLE,reduceLT,reduceSub,reduceAdd,dw,ah];generalize (ug d)=a0;generalize (d==16)=a1;generalize (d==33)=a2;cases a0<;>cases a1<;>cases a2<;>exact⟨_,rfl,rfl⟩
 ·simp only[zG,M.aO,M.aN,M.bn,M.aU,bK,bM,bP,aV,hw,Int.reduceBEq,reduceLE,reduceLT,reduceSub,reduceAdd,dw,ah];generalize (ug d)=a0;generalize (d==16)=a1;generalize (d==33)=a2;cases a0<;>cases a1<;>cases a2<;>exact⟨_,rfl,rfl⟩
 ·simp only[zG,M.aO,M.aN,M.bn,M.aU,bK,bM,bP,aV,hw,Int.reduceBEq,reduceLE,reduceLT,reduceSub,reduceAdd,dw,ah];generalize (ug d)=a0;generalize (d==16)=a1;generalize (d==33)=a2;cases a0<;>cases a1<;>cases a2<;>exact⟨_,rfl,rfl⟩
 ·simp only[zG,M.aO,M.aN,M.bn,M.aU,bK,bM,bP,aV,hw,Int.reduceBEq,reduceLE,reduceLT,reduceSub,reduceAdd,dw,ah];generalize (ug d)=a0;generalize (d==16)=a1;generalize (d==33)=a2;cases a0<;>cases a1<;>cases a2<;>exact⟨_,rfl,rfl⟩
def aTW(op:Int)(t o:aC)(kids:aA)(j d:Int)(h0:0<=j)(h1:j<kids.length)(hk:kids.length<=400)(hc:Cons 32 op kids.length):zG 32 op t o kids j d:=by simp only[zG,M.aO,M.aN,M.bn,M.aU,bK,bM,bP,aV,Int.reduceBEq,reduceLE,reduceLT,reduceSub,reduceAdd,dw,ah];generalize (d==33)=a0;cases a0<;>exact⟨_,rfl,rfl⟩
def aTX(op:Int)(t o:aC)(kids:aA)(j d:Int)(h0:0<=j)(h1:j<kids.length)(hk:kids.length<=400)(hc:Cons 33 op kids.length):zG 33 op t o kids j d:=by simp only[zG,M.aO,M.aN,M.bn,M.aU,bK,bM,bP,aV,Int.reduceBEq,reduceLE,reduceLT,reduceSub,reduceAdd,dw,ah];generalize (aaK d)=a0;cases a0<;>exact⟨_,rfl,rfl⟩
def aTY(op:Int)(t o:aC)(kids:aA)(j d:Int)(h0:0<=j)(h1:j<kids.length)(hk:kids.length<=400)(hc:Cons 34 op kids.length):zG 34 op t o kids j d:=by simp only[zG,M.aO,M.aN,M.bn,M.aU,bK,bM,bP,aV,Int.reduceBEq,reduceLE,reduceLT,reduceSub,reduceAdd,dw,ah];generalize (ug d)=a0;cases a0<;>exact⟨_,rfl,rfl⟩
def aTZ(op:Int)(t o:aC)(kids:aA)(j d:Int)(h0:0<=j)(h1:j<kids.length)(hk:kids.length<=400)(hc:Cons 40 op kids.length):zG 40 op t o kids j d:=by simp only[zG,M.aO,M.aN,M.bn,M.aU,bK,bM,bP,aV,Int.reduceBEq,reduceLE,reduceLT,reduceSub,reduceAdd,dw,ah];generalize (d==33)=a0;cases a0<;>exact⟨_,rfl,rfl⟩
def aT0(op:Int)(t o:aC)(kids:aA)(j d:Int)(h0:0<=j)(h1:j<kids.length)(hk:kids.length<=400)(hc:Cons 41 op kids.length):zG 41 op t o kids j d:=by simp only[zG,M.aO,M.aN,M.bn,M.aU,bK,bM,bP,aV,Int.reduceBEq,reduceLE,reduceLT,reduceSub,reduceAdd,dw,ah];generalize (d==33)=a0;cases a0<;>exact⟨_,rfl,rfl⟩
def aT1(op:Int)(t o:aC)(kids:aA)(j d:Int)(h0:0<=j)(h1:j<kids.length)(hk:kids.length<=400)(hc:Cons 42 op kids.length):zG 42 op t o kids j d:=by
 rcases hc.rule rfl with⟨rfl,hl⟩|⟨rfl,hl⟩|⟨rfl,hl⟩
 ·have hw:i64.wrap ((kids.length:Int) - 1)=0:=by rw[hl];rfl
  obtain rfl:j=0:=au;simp only[zG,M.aO,M.aN,M.bn,M.aU,bK,bM,bP,aV,hw,Int.reduceBEq,reduceLE,reduceLT,reduceSub,reduceAdd,dw,ah];generalize (ug d)=a0;generalize (d==33)=a1;cases a0<;>cases a1<;>exact⟨_,rfl,rfl⟩
 ·have hw:i64.wrap ((kids.length:Int) - 1)=0:=by rw[hl];rfl
  obtain rfl:j=0:=au;simp only[zG,M.aO,M.aN,M.bn,M.aU,bK,bM,bP,aV,hw,Int.reduceBEq,reduceLE,reduceLT,reduceSub,reduceAdd,dw,ah];generalize (ug d)=a0;generalize (d==33)=a1;cases a0<;>cases a1<;>exact⟨_,rfl,rfl⟩
 ·have hw:i64.wrap ((kids.length:Int) - 1)=1:=by rw[hl];rfl
  obtain rfl|rfl:j=0∨j=1:=au
  ·simp only[zG,M.aO,M.aN,M.bn,M.aU,bK,bM,bP,aV,hw,Int.reduceBEq,reduceLE,reduceLT,reduceSub,reduceAdd,dw,ah];generalize (ug d)=a0;generalize (d==33)=a1;cases a0<;>cases a1<;>exact⟨_,rfl,rfl⟩
  ·simp only[zG,M.aO,M.aN,M.bn,M.aU,bK,bM,bP,aV,hw,Int.reduceBEq,reduceLE,reduceLT,reduceSub,reduceAdd,dw,ah];generalize (ug d)=a0;generalize (d==33)=a1;cases a0<;>cases a1<;>exact⟨_,rfl,rfl⟩
def aT2(op:Int)(t o:aC)(kids:aA)(j d:Int)(h0:0<=j)(h1:j<kids.length)(hk:kids.length<=400)(hc:Cons 43 op kids.length):zG 43 op t o kids j d:=by
 rcases hc.range rfl with⟨rfl,hl⟩|⟨rfl,hl⟩
 ·have hw:i64.wrap ((kids.length:Int) - 1)=1:=by rw[hl];rfl
  obtain rfl|rfl:j=0∨j=1:=au
  ·simp only[zG,M.aO,M.aN,M.bn,M.aU,bK,bM,bP,aV,hw,Int.reduceBEq,reduceLE,reduceLT,reduceSub,reduceAdd,dw,ah];generalize (ug d)=a0;generalize (d==33)=a1;cases a0<;>cases a1<;>exact⟨_,rfl,rfl⟩
  ·simp only[zG,M.aO,M.aN,M.bn,M.aU,bK,bM,bP,aV,hw,Int.reduceBEq,reduceLE,reduceLT,reduceSub,reduceAdd,dw,ah];generalize (ug d)=a0;generalize (d==33)=a1;cases a0<;>cases a1<;>exact⟨_,rfl,rfl⟩
 ·have hw:i64.wrap ((kids.length:Int) - 1)=2:=by rw[hl];rfl
  obtain rfl|rfl|rfl:j=0∨j=1∨j=2:=au
  ·simp only[zG,M.aO,M.aN,M.bn,M.aU,bK,bM,bP,aV,hw,Int.reduceBEq,reduceLE,reduceLT,reduceSub,reduceAdd,dw,ah];generalize (ug d)=a0;generalize (d==33)=a1;cases a0<;>cases a1<;>exact⟨_,rfl,rfl⟩
  ·simp only[zG,M.aO,M.aN,M.bn,M.aU,bK,bM,bP,aV,hw,Int.reduceBEq,reduceLE,reduceLT,reduceSub,reduceAdd,dw,ah];generalize (ug d)=a0;generalize (d==33)=a1;cases a0<;>cases a1<;>exact⟨_,rfl,rfl⟩
  ·simp only[zG,M.aO,M.aN,M.bn,M.aU,bK,bM,bP,aV,hw,Int.reduceBEq,reduceLE,reduceLT,reduceSub,reduceAdd,dw,ah];generalize (ug d)=a0;generalize (d==33)=a1;cases a0<;>cases a1<;>exact⟨_,rfl,rfl⟩
def aT3(op:Int)(t o:aC)(kids:aA)(j d:Int)(h0:0<=j)(h1:j<kids.length)(hk:kids.length<=400)(hc:Cons 44 op kids.length):zG 44 op t o kids j d:=by simp only[zG,M.aO,M.aN,M.bn,M.aU,bK,bM,bP,aV,Int.reduceBEq,reduceLE,reduceLT,reduceSub,reduceAdd,dw,ah];generalize (j==i64.wrap ((kids.length:Int) - 1))=a0;generalize (d==33)=a1;generalize (d==1)=a2;cases a0<;>cases a1<;>cases a2<;>exact⟨_,rfl,rfl⟩
def aT4(op:Int)(t o:aC)(kids:aA)(j d:Int)(h0:0<=j)(h1:j<kids.length)(hk:kids.length<=400)(hc:Cons 45 op kids.length):zG 45 op t o kids j d:=by simp only[zG,M.aO,M.aN,M.bn,M.aU,bK,bM,bP,aV,Int.reduceBEq,reduceLE,reduceLT,reduceSub,reduceAdd,dw,ah];generalize (isIt d)=a0;generalize (d==34)=a1;cases a0<;>cases a1<;>exact⟨_,rfl,rfl⟩
def aDe(k:Int)(op:Int)(t o:aC)(kids:aA)(j d:Int)(hj0:0<=j)(hj1:j<kids.length)(hk:kids.length<=400)(hc:Cons k op kids.length):zG k op t o kids j d:=by
 by_cases h1:k=1
 ·subst h1;exact a5l op t o kids j d hj0 hj1 hk hc
 by_cases h2:k=2
 ·subst h2;exact a5m op t o kids j d hj0 hj1 hk hc
 by_cases h3:k=3
 ·subst h3;exact a5n op t o kids j d hj0 hj1 hk hc
 by_cases h4:k=4
 ·subst h4;exact a5o op t o kids j d hj0 hj1 hk hc
 by_cases h5:k=5
 ·subst h5;exact a5p op t o kids j d hj0 hj1 hk hc
 by_cases h6:k=6
 ·subst h6;exact a5q op t o kids j d hj0 hj1 hk hc
 by_cases h7:k=7
 ·subst h7;exact a5r op t o kids j d hj0 hj1 hk hc
 by_cases h8:k=8
 ·subst h8;exact a5s op t o kids j d hj0 hj1 hk hc
 by_cases h9:k=9
 ·subst h9;exact a5t op t o kids j d hj0 hj1 hk hc
 by_cases h10:k=10
 ·subst h10;exact aTD op t o kids j d hj0 hj1 hk hc
 by_cases h11:k=11
 ·subst h11;exact aTE op t o kids j d hj0 hj1 hk hc
 by_cases h12:k=12
 ·subst h12;exact aTF op t o kids j d hj0 hj1 hk hc
 by_cases h13:k=13
 ·subst h13;exact aTG op t o kids j d hj0 hj1 hk hc
 by_cases h14:k=14
 ·subst h14;exact aTH op t o kids j d hj0 hj1 hk hc
 by_cases h15:k=15
 ·subst h15;exact aTI op t o kids j d hj0 hj1 hk hc
 by_cases h16:k=16
 ·subst h16;exact aTJ op t o kids j d hj0 hj1 hk hc
 by_cases h20:k=20
 ·subst h20;exact aTK op t o kids j d hj0 hj1 hk hc
 by_cases h21:k=21
 ·subst h21;exact aTL op t o kids j d hj0 hj1 hk hc
 by_cases h22:k=22
 ·subst h22;exact aTM op t o kids j d hj0 hj1 hk hc
 by_cases h23:k=23
 ·subst h23;exact aTN op t o kids j d hj0 hj1 hk hc
 by_cases h24:k=24
 ·subst h24;exact aTO op t o kids j d hj0 hj1 hk hc
 by_cases h25:k=25
 ·subst h25;exact aTP op t o kids j d hj0 hj1 hk hc
 by_cases h26:k=26
 ·subst h26;exact aTQ op t o kids j d hj0 hj1 hk hc
 by_cases h27:k=27
 ·subst h27;exact aTR op t o kids j d hj0 hj1 hk hc
 by_cases h28:k=28
 ·subst h28;exact aTS op t o kids j d hj0 hj1 hk hc
 by_cases h29:k=29
 ·subst h29;exact aTT op t o kids j d hj0 hj1 hk hc
 by_cases h30:k=30
 ·subst h30;exact aTU op t o kids j d hj0 hj1 hk hc
 by_cases h31:k=31
 ·subst h31;exact aTV op t o kids j d hj0 hj1 hk hc
 by_cases h32:k=32
 ·subst h32;exact aTW op t o kids j d hj0 hj1 hk hc
 by_cases h33:k=33
 ·subst h33;exact aTX op t o kids j d hj0 hj1 hk hc
 by_cases h34:k=34
 ·subst h34;exact aTY op t o kids j d hj0 hj1 hk hc
 by_cases h40:k=40
 ·subst h40;exact aTZ op t o kids j d hj0 hj1 hk hc
 by_cases h41:k=41
 ·subst h41;exact aT0 op t o kids j d hj0 hj1 hk hc
 by_cases h42:k=42
 ·subst h42;exact aT1 op t o kids j d hj0 hj1 hk hc
 by_cases h43:k=43
 ·subst h43;exact aT2 op t o kids j d hj0 hj1 hk hc
 by_cases h44:k=44
 ·subst h44;exact aT3 op t o kids j d hj0 hj1 hk hc
 by_cases h45:k=45
 ·subst h45;exact aT4 op t o kids j d hj0 hj1 hk hc
 have e1:(k==1)=false:=by simpa using h1
 have e2:(k==2)=false:=by simpa using h2
 have e3:(k==3)=false:=by simpa using h3
 have e4:(k==4)=false:=by simpa using h4
 have e5:(k==5)=false:=by simpa using h5
 have e6:(k==6)=false:=by simpa using h6
 have e7:(k==7)=false:=by simpa using h7
 have e8:(k==8)=false:=by simpa using h8
 have e9:(k==9)=false:=by simpa using h9
 have e10:(k==10)=false:=by simpa using h10
 have e11:(k==11)=false:=by simpa using h11
 have e12:(k==12)=false:=by simpa using h12
 have e13:(k==13)=false:=by simpa using h13
 have e14:(k==14)=false:=by simpa using h14
 have e15:(k==15)=false:=by simpa using h15
 have e16:(k==16)=false:=by simpa using h16
 have e20:(k==20)=false:=by simpa using h20
 have e21:(k==21)=false:=by simpa using h21
 have e22:(k==22)=false:=by simpa using h22
 have e23:(k==23)=false:=by simpa using h23
 have e24:(k==24)=false:=by simpa using h24
 have e25:(k==25)=false:=by simpa using h25
 have e26:(k==26)=false:=by simpa using h26
 have e27:(k==27)=false:=by simpa using h27
 have e28:(k==28)=false:=by simpa using h28
 have e29:(k==29)=false:=by simpa using h29
 have e30:(k==30)=false:=by simpa using h30
 have e31:(k==31)=false:=by simpa using h31
 have e32:(k==32)=false:=by simpa using h32
 have e33:(k==33)=false:=by simpa using h33
 have e34:(k==34)=false:=by simpa using h34
 have e40:(k==40)=false:=by simpa using h40
 have e41:(k==41)=false:=by simpa using h41
 have e42:(k==42)=false:=by simpa using h42
 have e43:(k==43)=false:=by simpa using h43
 have e44:(k==44)=false:=by simpa using h44
 have e45:(k==45)=false:=by simpa using h45
 simp only[zG,M.aO,M.aN,M.bn,M.aU,bK,bM,bP,aV,e1,e2,e3,e4,e5,e6,e7,e8,e9,e10,e11,e12,e13,e14,e15,e16,e20,e21,e22,e23,e24,e25,e26,e27,e28,e29,e30,e31,e32,e33,e34,e40,e41,e42,e43,e44,e45,bG,ah];exact⟨_,rfl,rfl⟩
end Go.Proofs.YtbpldgeajbfgnaaGreatDoor
namespace Go.Proofs.YtbpldgeajbfgnaaGreatDoor
set_option linter.unusedVariables false
set_option linter.unusedSimpArgs false
open Go Go.Vm
open Go.IntKind (i64)
open Int (reduceLE reduceLT reduceSub reduceAdd)
def wN(n:Nd):Nat:=n.text.length+n.other.length+n.kids.length
def wNs:List Nd->Nat
 |[]=>0
 |n::l=>wN n+wNs l
def ard(k:List Int)(L:Int)(h0:0<=L)(h1:L<=1048576)(hk:k.length<=maxLen):M.DV (encI k) L=some (if(k.length:Int)<=L then L - k.length else -1):=by
 unfold maxLen at hk;simp only[M.DV,M.PK,aZ];rw[aG au au]
 by_cases h:(k.length:Int)<=L
 ·rw[qw au,if_pos h];rfl
 ·rw[zdt au,if_neg h];rfl
def arf(n:Nd)(o:Bool)(L:Int)(h0:0<=L)(h1:L<=1048576)(ht:n.text.length<=maxLen)(ho:n.other.length<=maxLen)(hk:n.kids.length<=maxLen):
  M.DW n.kind n.op n.text n.other (encI n.kids) L=some (if(wN n:Int)<=L then L - wN n else -1):=by
 have ht':=ht;have ho':=ho;have hk':=hk;unfold maxLen at ht' ho' hk';have hwn:wN n=n.text.length+n.other.length+n.kids.length:=rfl;simp only[M.DW,M.PL];rw[aG (n:=L - n.text.length) au au]
 by_cases c1:(n.text.length:Int)<=L
 ·rw[qw au,bG,aG au au]
  by_cases c2:(n.other.length:Int)<=L - n.text.length
  ·rw[qw au,bG,ard _ _ au au hk,ah]
   by_cases c3:(n.kids.length:Int)<=L - n.text.length - n.other.length
   ·rw[if_pos c3,qw au,bG,if_pos au];congr 1;omega
   ·rw[if_neg c3,zdt au,aS,if_neg au]
  ·rw[zdt au,aS,if_neg au]
 ·rw[zdt au,aS,if_neg au]
def avD(l:List Nd)(len:Nat):∀w:Int,0<=w->afe (fun(w:Int) (n:Nd)=>(if(wN n:Int)<=w then .inl (w - wN n) else .inr (.inl ()):Int⊕(Unit⊕(Int×Int)))) (λw=> .inr (w,(len:Int))) l w=
  if(wNs l:Int)<=w then .inr (w - wNs l,(len:Int)) else .inl ():=by
 induction l with
 |nil=>intro w h;simp[afe,wNs,h]
 |cons n l ih=>
  intro w h;have hw:wNs (n::l)=wN n+wNs l:=rfl;simp only[afe]
  by_cases c:(wN n:Int)<=w
  ·rw[if_pos c];simp only;rw[ih (w - wN n) au]
   by_cases c2:(wNs l:Int)<=w - wN n
   ·rw[if_pos c2,if_pos au];congr 2;omega
   ·rw[if_neg c2,if_neg au]
  ·rw[if_neg c,if_neg au]
def Zx(l:List Nd)(o:Bool)(L:Int)(h0:0<=L)(h1:L<=1048576)(hl:l.length<=maxLen)(hf:∀n,n∈l->Fit n):
  M.pq (bV o l) L=some (if(l.length+wNs l:Int)<=L then L - l.length - wNs l else -1):=by
 unfold maxLen at hl;simp only[M.pq,M.MX,iT];rw[aG au au]
 by_cases c:(l.length:Int)<=L
 ·rw[qw au,bG];have hloop:=aoF (M.Gg (bV o l)) l (λi (w:Int)=>(w,(i:Int)))
   (fun(w:Int) (n:Nd)=>(if(wN n:Int)<=w then .inl (w - wN n) else .inr (.inl ()):Int⊕(Unit⊕(Int×Int)))) (λw=> .inr (w,(l.length:Int))) (λ_ w=>0<=w∧w<=1048576)
   (by
    intro i n w hi hw;have hlt:=(MG.1 hi).1;have hfn:=hf n (BX hi);simp only[jm,M.Gg,M.zU,iT,bJ,oM,hi,OJ,ah,JB,Kq,J3,Kr,Hl];rw[zdt au,aS,arf n o w hw.1 hw.2 hfn.text hfn.other hfn.kids,ah]
    by_cases c2:(wN n:Int)<=w
    ·rw[if_pos c2,qw au,bG,if_pos c2,aG au au];simp
    ·rw[if_neg c2,zdt au,aS,if_neg c2])
   (by
    intro i n w w' hi hw he
    by_cases c2:(wN n:Int)<=w
    ·simp only[c2,if_true,Sum.inl.injEq] at he;omega
    ·simp[c2] at he)
   (by intro w hw;simp only[jm,M.Gg,M.zU,iT];rw[qw au,bG])
   (L - l.length) au
  have h0':((0:Nat):Int)=0:=rfl;simp only[h0'] at hloop;rw[M.Kt,hloop,ah,avD l l.length _ au]
  by_cases c2:(wNs l:Int)<=L - l.length
  ·rw[if_pos c2,if_pos au];rfl
  ·rw[if_neg c2,if_neg au];rfl
 ·rw[zdt au,aS,if_neg au]
def aeh{l:List Nd}{n:Nd}(h:n∈l):wN n<=wNs l:=by
 induction l with
 |nil=>simp at h
 |cons m l ih=>
  have hw:wNs (m::l)=wN m+wNs l:=rfl;rcases List.mem_cons.1 h with rfl|h
  ·omega
  ·have:=ih h;omega
def aht{α:Type}(a:List α)(b:List α)(x y:α):(a++x::b).set a.length y=a++y::b:=by
 induction a with
 |nil=>rfl
 |cons z a ih=>simp[ih]
def filled{α β:Type}(f:α->β)(z:β)(l:List α)(i:Nat):List β:=(l.take i).map f++List.replicate (l.length - i) z
def acX{α β:Type}(f:α->β)(z:β)(l:List α):filled f z l 0=List.replicate l.length z:=by simp[filled]
def afX{α β:Type}(f:α->β)(z:β)(l:List α):filled f z l l.length=l.map f:=by simp[filled]
def afY{α β:Type}(f:α->β)(z:β)(l:List α){i:Nat}(h:i<l.length):(filled f z l i)[i]? =some z:=by unfold filled;rw[List.getElem?_append_right (by simp;omega)];simp[List.getElem?_replicate];omega
def afZ{α β:Type}(f:α->β)(z:β)(l:List α){i:Nat}{x:α}(h:l[i]? =some x):(filled f z l i).set i (f x)=filled f z l (i+1):=by
 have hlt:=(MG.1 h).1;unfold filled;have hn:l.length - i=(l.length - (i+1))+1:=au;rw[hn,List.replicate_succ];have hl:((l.take i).map f).length=i:=by simp;omega
 have:=aht ((l.take i).map f) (List.replicate (l.length - (i+1)) z) z (f x);rw[hl] at this;rw[this,List.take_add_one,h];simp
def arh(k:List Int)(hk:k.length<=1048576):M.DX (encI k)=some (encI k):=by
 simp only[M.DX,M.PN,aZ];rw[zdt au,zdt au,zdt au,zdt au];simp only[Bool.and_true,aS,Uj];have hloop:=jh (b:=M.II (encI k)) (t:=((k.length:Int),encI k)) (λi=>((i:Int),filled (λx=>[D.int .i64 x]) [D.int .i64 0] k i)) k.length
  (by
   intro i hi;obtain⟨x,hx⟩:∃x,k[i]? =some x:=⟨k[i],by simp[hi]⟩
   simp only[M.II,M.CW,aZ,bJ,lK,hx,OJ,ah,JW,Uj,afY _ _ k hi];rw[zdt au,aS,aG au au];have hs:splice [D.int IntKind.i64 0] 0 [D.int IntKind.i64 x]=[D.int IntKind.i64 x]:=rfl;rw[hs,afZ (λx=>[D.int .i64 x]) _ k hx];simp)
  (by simp only[M.II,M.CW,aZ];rw[qw au,bG,afX];rfl) 0 (Nat.zero_le _)
 rw[M.MZ];simp only[acX] at hloop;have h0':((0:Nat):Int)=0:=rfl;rw[h0'] at hloop;rw[hloop,ah];simp
def ari(n:Nd)(hk:n.kids.length<=1048576):M.DY n.kind n.op n.text n.other (encI n.kids)=some (n.kind,n.op,n.text,n.other,encI n.kids):=by simp only[M.DY,M.PO];rw[arh _ hk,ah];simp
def Zy(l:List Nd)(o:Bool)(hl:l.length<=1048576)(hk:∀n,n∈l->n.kids.length<=1048576):M.jY (bV o l)=some (bV true l):=by
 simp only[M.jY,M.Nh,iT];rw[zdt au,zdt au,zdt au,zdt au];simp only[Bool.and_true,aS,Uj];have hloop:=jh (b:=M.Gi (bV o l)) (t:=((l.length:Int),bV true l)) (λi=>((i:Int),filled (Si true) [D.int IntKind.i64 0,D.int IntKind.i64 0,D.str [],D.str [],D.sl true 1 []] l i)) l.length
  (by
   intro i hi;obtain⟨x,hx⟩:∃x,l[i]? =some x:=⟨l[i],by simp[hi]⟩
   have hkx:=hk x (BX hx);simp only[jm,M.Gi,M.zV,iT,bJ,oM,hx,OJ,ah,JB,Kq,J3,Kr,Hl,ari x hkx,Uj,afY _ _ l hi,MB,aS];rw[zdt au,aS,aG au au];have hs:splice [D.int IntKind.i64 0,D.int IntKind.i64 0,D.str [],D.str [],D.sl true 1 []] 0 [D.int IntKind.i64 x.kind,D.int IntKind.i64 x.op,D.str x.text,D.str x.other,D.sl true 1 (encI x.kids)]=Si true x:=rfl;rw[hs,afZ (Si true) _ l hx];simp)
  (by simp only[jm,M.Gi,M.zV,iT];rw[qw au,bG,afX];rfl) 0 (Nat.zero_le _)
 rw[M.Ku];simp only[acX] at hloop;have h0':((0:Nat):Int)=0:=rfl;rw[h0'] at hloop;rw[hloop,ah]
def anq(k:List Int)(hk:k.length<=maxLen):M.Ef (encI k) (encI k)=some true:=by
 unfold maxLen at hk;simp only[M.Ef,M.Qm,bne_self_eq_false,bG];have hloop:=jh (b:=M.Jg (encI k) (encI k)) (t:=.inr ((k.length:Int))) (λi=>(i:Int)) k.length
  (by
   intro i hi;obtain⟨x,hx⟩:∃x,k[i]? =some x:=⟨k[i],by simp[hi]⟩
   simp only[M.Jg,M.DF,aZ,bJ,lK,hx,OJ,ah,JW,bne_self_eq_false,bG];rw[zdt au,aS,aG au au];simp)
  (by simp only[M.Jg,M.DF,aZ];rw[qw au,bG]) 0 (Nat.zero_le _)
 have h0':((0:Nat):Int)=0:=rfl;rw[h0'] at hloop;rw[M.Oa,hloop,ah];rfl
def anr(n:Nd)(hk:n.kids.length<=maxLen):M.Eh n.kind n.op n.text n.other (encI n.kids) n.kind n.op n.text n.other (encI n.kids)=some true:=by simp only[M.Eh,M.Qn,bne_self_eq_false,bG,beq_self_eq_true,Bool.not_true];rw[anq _ hk];rfl
def VD(l:List Nd)(o o':Bool)(hl:l.length<=maxLen)(hk:∀n,n∈l->n.kids.length<=maxLen):M.pW (bV o l) (bV o' l)=some true:=by
 unfold maxLen at hl;simp only[M.pW,M.Ob,iT,bne_self_eq_false,bG];have hloop:=jh (b:=M.GI (bV o l) (bV o' l)) (t:=.inr ((l.length:Int))) (λi=>(i:Int)) l.length
  (by
   intro i hi;obtain⟨x,hx⟩:∃x,l[i]? =some x:=⟨l[i],by simp[hi]⟩
   simp only[jm,M.GI,M.Aw,iT,bJ,oM,hx,OJ,ah,JB,Kq,J3,Kr,Hl,anr x (hk x (BX hx)),Bool.not_true,bG];rw[zdt au,aS,aG au au];simp)
  (by simp only[jm,M.GI,M.Aw,iT];rw[qw au,bG]) 0 (Nat.zero_le _)
 have h0':((0:Nat):Int)=0:=rfl;rw[h0'] at hloop;rw[M.Lh,hloop,ah];rfl
def OA(x lo hi:Int):M.bD x lo hi=some (decide (lo<=x) && decide (x<=hi)):=by
 simp only[M.bD,M.zW]
 by_cases h:lo<=x
 ·rw[zdt (show x>=lo from h)];rfl
 ·rw[qw (show¬x>=lo from h)];rfl
def OB(x lo hi:Int):M.bg x lo hi=some (decide (lo<=x) && decide (x<=hi)):=by
 simp only[M.bg,M.yg]
 by_cases h:lo<=x
 ·rw[zdt (show x>=lo from h)];rfl
 ·rw[qw (show¬x>=lo from h)];rfl
def ant:∀k:List Int,ajM (encI k)=some k
 |[]=>rfl
 |x::k=>by have:encI (x::k)=[D.int .i64 x]::encI k:=rfl;rw[this];simp only[ajM,ant k,OJ]
def nk(n:Nd):Nk:=⟨n.kind,n.op,⟨⟨n.text⟩⟩,⟨⟨n.other⟩⟩,n.kids⟩
def aiA(o:Bool):∀l:List Nd,(∀n,n∈l->n.kids.length<=1048576)->WV (bV o l)=some (l.map nk)
 |[],_=>rfl
 |n::l,h=>by
  have:bV o (n::l)=Si o n::bV o l:=rfl;rw[this,WV];have hk:aoK (Si o n)=some (nk n):=by simp only[Si,aoK,ant,ah];rw[if_pos (h n Yh)];rfl
  rw[hk,ah,aiA o l (λm hm=>h m (X9 _ hm))];rfl
def aT5(l:List Nd):(l.map nk).map (·.kids)=ks l:=by simp[ks,nk]
def adM(l:List Nd)(o:Bool)(hl:l.length<=1048576)(hk:∀n,n∈l->n.kids.length<=1048576):M.zS (bV o l)=some (Hu l):=by
 simp only[M.zS,M.NR,M.kJ,aiA o l hk,ah,aT5,List.length_map];rw[if_pos hl,Hu];cases qy (ks l) with
 |none=>rfl
 |some st=>rfl
def aaL(l:List Nd)(o:Bool){i:Nat}{n:Nd}{st:List Int}(hi:l[i]? =some n)(hl:l.length<=1048576)(hkl:n.kids.length<=1048576)(hst:V7 st)(hs:st.length=i):
  ∀(j:Nat) (a:Int),j<=n.kids.length->0<=a->a<=i->M.uD (bV o l) (i:Int) (encI st) (a,(j:Int) - 1)=some (match dR st (n.kids.take j).reverse (a - 1) with
   |none=> .inl ()
   |some r=> .inr (r+1, -1))
 |0,a,hj,h0,h1=>by rw[M.uD];apply bC;simp only[M.Ey,M.yI];rw[qw au,bG,List.take_zero,List.reverse_nil,dR];simp
 |j+1,a,hj,h0,h1=>by
  have hlt:i<l.length:=(MG.1 hi).1;obtain⟨k,hk⟩:∃k,n.kids[j]? =some k:=⟨n.kids[j]'au,by simp⟩
  have ht:(n.kids.take (j+1)).reverse=k::(n.kids.take j).reverse:=by rw[List.take_add_one,hk,Option.toList_some,List.reverse_append];rfl
  rw[ht,dR];have e1:(((j+1:Nat):Int) - 1)=(j:Int):=au;rw[e1];have hstep:M.Ey (bV o l) (i:Int) (encI st) (a,(j:Int))=if a - 1<0∨k≠a - 1 then some (.inr (.inl ())) else some (.inl (st[k.toNat]?.getD 0,(j:Int) - 1)):=by
   simp only[M.Ey,M.yI,bJ,oM,hi,OJ,ah,Hl,lK,hk,JW];rw[zdt au,aS,aG (n:=a - 1) au au]
   by_cases h2:k=a - 1
   ·have:(k !=a - 1)=false:=by simp[h2]
    rw[this,bG]
    by_cases h3:a=0
    ·have:(a==0)=true:=by simp[h3]
     rw[this,aS,if_pos (.inl au)]
    ·have:(a==0)=false:=by simp[h3]
     rw[this,bG,if_neg au];obtain⟨d,hd⟩:∃d:Nat,a - 1=(d:Int):=⟨(a - 1).toNat,au⟩
     have hdl:d<st.length:=au;rw[h2,hd];simp only[afc,bJ,lK,Uj];rw[List.getElem?_eq_getElem hdl];simp only[OJ,ah,JW,Option.getD_some];rw[aG au au]
   ·have:(k !=a - 1)=true:=by simp[h2]
    rw[this,aS,if_pos (.inr h2)]
  by_cases hc:a - 1<0∨k≠a - 1
  ·rw[if_pos hc];rw[if_pos hc] at hstep;exact bC hstep
  ·rw[if_neg hc];rw[if_neg hc] at hstep;rw[M.uD,dJ hstep];have hz:=MW hst k.toNat;have:=aaL l o hi hl hkl hst hs j (st[k.toNat]?.getD 0) au hz.1 au;rw[M.uD] at this;exact this
def YD(l:List Nd)(o:Bool)(hl:l.length<=1048576)(hk:∀n,n∈l->n.kids.length<=1048576):∀(rest:List Nd) (i:Nat) (st:List Int),l.drop i=rest->st.length=i->i<=l.length->V7 st->
  M.uF (bV o l) ((i:Int),encI st)=some (match fJ st (ks rest) with
   |none=> .inl ()
   |some r=> .inr ((l.length:Int),encI r))
 |[],i,st,hd,hs,hi,hst=>by have:l.length<=i:=List.drop_eq_nil_iff.1 hd;rw[M.uF];apply bC;simp only[jm,M.Ez,M.yJ,iT];rw[qw au,bG];have:i=l.length:=au;subst this;rfl
 |n::rest,i,st,hd,hs,hi,hst=>by
  have hn:l[i]? =some n:=by
   have:(l.drop i)[0]? =some n:=by rw[hd];rfl
   simpa using this
  have hlt:i<l.length:=(MG.1 hn).1;have hd':l.drop (i+1)=rest:=by rw[<-List.drop_drop,hd];rfl
  have hkn:=hk n (BX hn);have hin:=aaL l o hn hl hkn hst hs n.kids.length (i:Int) (Nat.le_refl _) au au;rw[List.take_length] at hin;have hks:ks (n::rest)=n.kids::ks rest:=rfl;rw[hks,fJ,hs];have hstep:M.Ez (bV o l) ((i:Int),encI st)=some (match dR st n.kids.reverse ((i:Int) - 1) with
    |none=> .inr (.inl ())
    |some a=> .inl (((i+1:Nat):Int),encI (st++[a+1]))):=by
   simp only[jm,M.Ez,M.yJ,iT,bJ,oM,hn,OJ,ah,Hl,aZ];rw[zdt au,aS,aG (n:=(n.kids.length:Int) - 1) au au,hin];cases hw:dR st n.kids.reverse ((i:Int) - 1) with
   |none=>rfl
   |some a=>simp only[ah,ql,letE,J9];rw[aX au,aS,aX au,aS,aG au au];simp[encI]
  cases hw:dR st n.kids.reverse ((i:Int) - 1) with
  |none=>rw[hw] at hstep;exact bC hstep
  |some a=>rw[hw] at hstep;rw[M.uF,dJ hstep];have hr:=Bj hst _ _ _ au au hw;have:=YD l o hl hk rest (i+1) (st++[a+1]) hd' (by simp[hs]) hlt (RG hst hr.1 hr.2);rw[M.uF] at this;exact this
def VX(l:List Nd)(o:Bool)(hl:l.length<=1048576)(hk:∀n,n∈l->n.kids.length<=1048576):M.uP (bV o l)=some (Hu l):=by
 simp only[M.uP,M.Nj,OA,ah,iT]
 by_cases h1:1<=l.length∧l.length<=400
 ·have hb:(decide ((1:Int)<=(l.length:Int)) && decide ((l.length:Int)<=400))=true:=by simp;omega
  rw[hb,Bool.not_true,bG];have h:=YD l o hl hk l 0 [] rfl rfl (Nat.zero_le _) Sr;have e0:((0:Nat):Int)=0:=rfl;rw[e0] at h;simp only[M.Bl,M.Kv];rw[show([]:aA)=encI [] from rfl,h,Hu,qy,if_pos (by rw[O7];exact h1)];cases hs:fJ [] (ks l) with
  |none=>rfl
  |some r=>
   have hrl:r.length=l.length:=by have:=Vt _ _ _ hs;rw[O7] at this;simpa using this
   simp only[ah,ql,letE,MB,aS];rw[aG au au,show(l.length:Int) - 1=((l.length - 1:Nat):Int) by omega];simp only[afc,bJ,lK,Uj];rw[List.getElem?_eq_getElem au];simp only[OJ,ah,JW,Option.getD_some]
 ·have hb:(decide ((1:Int)<=(l.length:Int)) && decide ((l.length:Int)<=400))=false:=by
   cases hq:(decide ((1:Int)<=(l.length:Int)) && decide ((l.length:Int)<=400)) with
   |false=>rfl
   |true=>simp at hq;omega
  rw[hb,Bool.not_false,aS,Hu,qy,if_neg (by rw[O7];exact h1)]
def aiB{st:List Int}(h:V7 st):∀(l:List Int) (a r:Int),a<st.length->dR st l a=some r->∀k,k∈l->0<=k∧k<st.length
 |[],a,r,h1,e,k,hk=>absurd hk List.not_mem_nil
 |x::l,a,r,h1,e,k,hk=>by
  rw[dR] at e;split at e
  ·cases e
  ·rename_i hc;have hz:=MW h x.toNat;rcases List.mem_cons.1 hk with rfl|hk
   ·omega
   ·exact aiB h l _ r au e k hk
def acY:∀(l:List (List Int)) (st r:List Int),V7 st->fJ st l=some r->∀(i:Nat) n,l[i]? =some n->∀k,k∈n->0<=k∧k<st.length+i
 |[],st,r,h0,h,i,n,hn=>by simp at hn
 |m::l,st,r,h0,h,i,n,hn=>by
  rw[fJ] at h;split at h
  ·cases h
  ·rename_i a ha;have hr:=Bj h0 _ _ _ au au ha;cases i with
   |zero=>simp only[List.getElem?_cons_zero,iq] at hn;subst hn;intro k hk;have:=aiB h0 _ _ _ au ha k (List.mem_reverse.2 hk);omega
   |succ i=>simp only[List.getElem?_cons_succ] at hn;intro k hk;have:=acY l _ r (RG h0 hr.1 hr.2) h i n hn k hk;simp at this;omega
def arj{l:List Nd}(h:Hu l=true):1<=l.length∧l.length<=400:=by
 unfold Hu at h;cases hs:qy (ks l) with
 |none=>rw[hs] at h;cases h
 |some r=>
  unfold qy at hs;split at hs
  ·rename_i hq;rw[O7] at hq;exact hq
  ·cases hs
end Go.Proofs.YtbpldgeajbfgnaaGreatDoor
