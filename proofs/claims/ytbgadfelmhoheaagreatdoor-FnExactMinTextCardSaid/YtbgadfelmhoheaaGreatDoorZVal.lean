import Derived.Test.YtbgadfelmhoheaaGreatDoorPForms4
import Derived.Test.YtbgadfelmhoheaaGreatDoorVm4
import Derived.Lib.IndexLaws
set_option linter.defProp false
namespace Go.Proofs.YtbgadfelmhoheaaGreatDoor
set_option linter.unusedVariables false
set_option linter.unusedSimpArgs false
set_option linter.unusedSectionVars false
open Go Go.Vm
open Go.IntKind (i64)
open Int (reduceLE reduceLT reduceSub reduceAdd)
def fO:(∀a b:Int,(a>=b)=(b<=a))∧(∀a b:Int,(a>b)=(b<a))∧(∀h:Decidable True,@decide True h=true)∧(∀h:Decidable False,@decide False h=false)∧(∀(α:Type) (a b:α),cond true a b=a)∧(∀(α:Type) (a b:α),cond false a b=b)∧(∀b:Bool,(b && true)=b)∧(∀b:Bool,(b && false)=false)∧(∀b:Bool,(true && b)=b)∧(∀b:Bool,(false && b)=false)∧((!true)=false)∧((!false)=true):=
 ⟨λ_ _=>rfl,λ_ _=>rfl,λh=>@decide_eq_true True h trivial,λh=>@decide_eq_false False h id,λ_ _ _=>rfl,λ_ _ _=>rfl,λb=>by cases b<;>rfl,λb=>by cases b<;>rfl,λ_=>rfl,λ_=>rfl,rfl,rfl⟩
def aJ{m n:Nat}(h:m<=n):m.ble n=true:=Nat.ble_eq_true_of_le h
def ah{α β:Type}(a:α)(f:α->Option β):(some a).bind f=f a:=rfl
def pz:((0:Nat):Int)=0:=rfl
def qO(s:aB)(a:Int):Int:=if 0<=a then(match s[a.toNat]? with|some c=>(c.toNat:Int)|none=> -1) else -1
def isD(b:Int):Bool:=decide (b>=48) && decide (b<=57)
def CW(s:aB)(a:Int):Int:=if 0<=a then a+(((s.drop a.toNat).takeWhile λc=>isD (c.toNat:Int)).length:Nat) else a
def apU(c:UInt8):c.toNat<256:=c.toNat_lt
def Gs(s:aB)(i:Nat):qO s (i:Int)=(match s[i]? with|some c=>(c.toNat:Int)|none=> -1):=by rw[qO,if_pos ak,U0]
section
variable {s:aB} (h:s.length<=1048576)
include h
theorem zN(a:Int):M.dG s a=some (qO s a):=by
 simp only[M.dG,M.Sj]
 by_cases h0:a<0
 ·rw[zdt h0,aI,qO,if_neg ak]
 ·rw[nZ h0,aS];obtain⟨i,rfl⟩:∃i:Nat,a=i:=⟨a.toNat,ak⟩
  rw[Gs]
  by_cases h1:(i:Int)>=(s.length:Int)
  ·rw[zdt h1,aI,List.getElem?_eq_none ak]
  ·obtain⟨c,hc⟩:∃c,s[i]? =some c:=⟨s[i]'ak,by simp⟩
   have:=apU c;rw[nZ h1,aS,aW,hc,ah,aC ak ak]
theorem zO(a:Int):M.gq s a=some (qO s a):=by
 simp only[M.gq,M.SV,M.bD,M.yS];rw[aC ak ak]
 by_cases h0:a<0
 ·rw[nZ ak,aS,ah,Bool.not_false,aI,qO,if_neg ak]
 ·rw[zdt ak,aI,ah];obtain⟨i,rfl⟩:∃i:Nat,a=i:=⟨a.toNat,ak⟩
  rw[Gs]
  by_cases h1:(i:Int)>=(s.length:Int)
  ·rw[nZ ak,Bool.not_false,aI,List.getElem?_eq_none ak]
  ·obtain⟨c,hc⟩:∃c,s[i]? =some c:=⟨s[i]'ak,by simp⟩
   have:=apU c;rw[zdt ak,Bool.not_true,aS,aW,hc,ah,aC ak ak]
end
def ah5(b:Int):M.qC b=some (isD b):=by simp only[M.qC,M.Po,M.bF,M.Bv,isD];cases decide (b>=48)<;>rfl
def ah6(b:Int):M.qH b=some (isD b):=by simp only[M.qH,M.Qh,isD];cases decide (b>=48)<;>rfl
def aEh{s:aB}{b:Int->Option (Int⊕Int)}(hb:∀a,0<=a->a<=2000000->b a=some (bif isD (qO s a) then .inl (a+1) else .inr a))(h:s.length<=1048576):
  ∀(rest pre:aB),s=pre++rest->dI b (pre.length:Int)=some ((pre.length:Int)+((rest.takeWhile λc=>isD (c.toNat:Int)).length:Nat))
 |[],pre,e=>by
  have hl:pre.length=s.length:=by rw[e];simp
  refine bn ?_;rw[hb _ ak ak,Gs,List.getElem?_eq_none ak];simp[isD]
 |c::rest,pre,e=>by
  have hl:s.length=pre.length+(rest.length+1):=by rw[e];simp
  have hget:s[pre.length]? =some c:=by rw[e,List.getElem?_append_right (Nat.le_refl _),Nat.sub_self];rfl
  have hs:=hb (pre.length:Int) ak ak;rw[Gs,hget] at hs;simp only at hs;cases hd:isD (c.toNat:Int) with
  |true=>have:=aEh hb h rest (pre++[c]) (by rw[e];simp);rw[pF,J3] at this;rw[hd,aI] at hs;rw[bW hs,List.takeWhile_cons,if_pos hd,show(pre.length:Int)+1=((pre.length+1:Nat):Int) by omega,this];simp;omega
  |false=>rw[hd,aS] at hs;rw[bn hs,List.takeWhile_cons,hd];simp
def ayJ{s:aB}{b:Int->Option (Int⊕Int)}(hb:∀a,0<=a->a<=2000000->b a=some (bif isD (qO s a) then .inl (a+1) else .inr a))(h:s.length<=1048576)(a:Int)(h0:0<=a)(h1:a<=2000000):dI b a=some (CW s a):=by
 obtain⟨i,rfl⟩:∃i:Nat,a=i:=⟨a.toNat,ak⟩
 rw[CW,if_pos h0,U0]
 by_cases hi:i<=s.length
 ·have:=aEh hb h (s.drop i) (s.take i) (List.take_append_drop i s).symm;rw[Ud,Nat.min_eq_left hi] at this;exact this
 ·rw[List.drop_eq_nil_of_le ak];refine bn ?_;rw[hb _ h0 h1,Gs,List.getElem?_eq_none ak];simp[isD]
def JH{s:aB}(h:s.length<=1048576){a:Int}(h0:0<=a):a<=CW s a∧(CW s a<=a∨CW s a<=s.length):=by have h1:=(List.takeWhile_sublist (p:=λc:UInt8=>isD (c.toNat:Int)) (l:=s.drop a.toNat)).length_le;rw[List.length_drop] at h1;rw[CW,if_pos h0];omega
section
variable {s:aB} (h:s.length<=1048576)
include h
theorem ES(a:Int)(h0:0<=a)(h1:a<=2000000):M.aQ s a=some (CW s a):=by simp only[M.aQ,M.MW,M.Kt];rw[ayJ (λa h0 h1=>by simp only[M.Vf,M.FP,zN h,ah5,ah];rw[aC ak ak];cases isD (qO s a)<;>rfl) h a h0 h1,ah]
theorem CX(a:Int)(h0:0<=a)(h1:a<=2000000):M.dZ s a=some (CW s a):=by simp only[M.dZ,M.KP,M.IQ];rw[ayJ (λa h0 h1=>by simp only[M.Ut,M.DW,zO h,ah6,ah];rw[aC ak ak];cases isD (qO s a)<;>rfl) h a h0 h1,ah]
end
def Ws(s:aB)(r:Int):Int:=bif(qO s r==101)||(qO s r==69) then
  (bif(qO s (r+1)==43)||(qO s (r+1)==45) then(bif decide (CW s (r+1+1)>r+1+1) then CW s (r+1+1) else r) else(bif decide (CW s (r+1)>r+1) then CW s (r+1) else r)) else r
def Vw(s:aB)(a:Int):Int:=if a<0∨(s.length:Int)<=a then -1 else
 bif qO s (CW s a)==46 then(bif(CW s a==a) &&(CW s (CW s a+1)==CW s a+1) then -1 else Ws s (CW s (CW s a+1))) else(bif CW s a==a then -1 else Ws s (CW s a))
section
variable {s:aB} (h:s.length<=1048576)
include h
set_option maxHeartbeats 2000000 in
theorem Zf(a:Int)(ha:a<=1048576):M.wo s a=some (Vw s a):=by
 simp only[M.wo,M.SX,M.bD,M.yS,Vw];rw[aC ak ak]
 by_cases h0:a<0
 ·rw[nZ ak,aS,ah,Bool.not_false,aI,if_pos (.inl h0)]
 ·rw[zdt ak,aI,ah]
  by_cases h1:(s.length:Int)<=a
  ·rw[nZ ak,Bool.not_false,aI,if_pos (.inr h1)]
  ·rw[zdt ak,Bool.not_true,aS,if_neg ak,CX h a ak ak,ah];have e1:=JH h (a:=a) ak;generalize hE:CW s a=e at e1⊢;simp only[zO h,ah];rw[aC (n:=e+1) ak ak,aC (n:=e - a) ak ak,CX h (e+1) ak ak,ah];have e2:=JH h (a:=e+1) ak;generalize hK:CW s (e+1)=k at e2⊢;have hz:(i64.wrap (e - a+i64.wrap (i64.wrap (k - e) - 1))==0)=((e==a) &&(k==e+1)):=by rw[aC (n:=k - e) ak ak,aC (n:=k - e - 1) ak ak,aC ak ak,Bool.eq_iff_iff];simp only[EU,beq_iff_eq];omega
   have hz2:(e - a==0)=(e==a):=by rw[Bool.eq_iff_iff];simp only[beq_iff_eq];omega
   rw[hz,hz2];have ex:∀r:Int,0<=r->r<=1048578->(bif qO s r==101 then
      ((some (qO s (i64.wrap (r+1)))).bind λaZX=>
      (bif aZX==43 then
       ((M.dZ s (i64.wrap (i64.wrap (r+1)+1))).bind λaZY=>
       (bif decide (aZY>i64.wrap (i64.wrap (r+1)+1)) then(some aZY) else(some r))) else
       (bif aZX==45 then
       ((M.dZ s (i64.wrap (i64.wrap (r+1)+1))).bind λaZZ=>(bif decide (aZZ>i64.wrap (i64.wrap (r+1)+1)) then(some aZZ) else(some r))) else
       ((M.dZ s (i64.wrap (r+1))).bind λaZ0=>(bif decide (aZ0>i64.wrap (r+1)) then(some aZ0) else(some r)))))) else
      (bif qO s r==69 then
      ((some (qO s (i64.wrap (r+1)))).bind λaZ1=>
       (bif aZ1==43 then
       ((M.dZ s (i64.wrap (i64.wrap (r+1)+1))).bind λaZ2=>(bif decide (aZ2>i64.wrap (i64.wrap (r+1)+1)) then(some aZ2) else(some r))) else
       (bif aZ1==45 then
        ((M.dZ s (i64.wrap (i64.wrap (r+1)+1))).bind λaZ3=>
        (bif decide (aZ3>i64.wrap (i64.wrap (r+1)+1)) then(some aZ3) else(some r))) else
        ((M.dZ s (i64.wrap (r+1))).bind λaZ4=>(bif decide (aZ4>i64.wrap (r+1)) then(some aZ4) else(some r)))))) else(some r)))=some (Ws s r):=by
    intro r h0 h1;rw[aC (n:=r+1) ak ak,aC (n:=r+1+1) ak ak,CX h (r+1) ak ak,CX h (r+1+1) ak ak,Ws];simp only[ah];cases qO s r==101<;>cases qO s r==69<;>cases qO s (r+1)==43<;>cases qO s (r+1)==45<;>cases decide (CW s (r+1+1)>r+1+1)<;>cases decide (CW s (r+1)>r+1)<;>rfl
   simp only[ah] at ex;cases qO s e==46 with
   |true=>
    simp only[aI];cases(e==a) &&(k==e+1) with
    |true=>rfl
    |false=>simp only[aS];exact ex k ak ak
   |false=>
    simp only[aS];cases e==a with
    |true=>rfl
    |false=>simp only[aS];have h2:=ex e ak ak;rw[aC (n:=e+1) ak ak,CX h (e+1) ak ak,hK] at h2;simp only[ah] at h2;exact h2
theorem Zg(a:Int)(ha:a<=1048576):M.vW s a=some (Vw s a):=by
 simp only[M.vW,M.Sl,Vw]
 by_cases h0:a<0
 ·rw[zdt h0,aI,if_pos (.inl h0)]
 ·rw[nZ h0,aS];have e1:=JH h (a:=a) ak;rw[ES h a ak ak,ah];simp only[zN h,ah]
  by_cases h1:(s.length:Int)<=a
  ·have he:CW s a=a:=ak;obtain⟨i,rfl⟩:∃i:Nat,a=i:=⟨a.toNat,ak⟩
   have hb:qO s (i:Int)= -1:=by rw[Gs,List.getElem?_eq_none ak]
   rw[he,hb,if_pos (.inr h1),show((-1:Int)==46)=false from rfl,aS,beq_self_eq_true,aI]
  ·rw[if_neg ak];generalize hE:CW s a=e at e1⊢;have e2:=JH h (a:=e+1) ak;rw[aC (n:=e+1) ak ak,ES h (e+1) ak ak,ah];have ex:∀r:Int,0<=r->r<=1048578->(bif qO s r==101 then
      (bif qO s (i64.wrap (r+1))==43 then
       ((M.aQ s (i64.wrap (i64.wrap (r+1)+1))).bind λaEY=>
        (bif decide (aEY>i64.wrap (i64.wrap (r+1)+1)) then
        ((M.aQ s (i64.wrap (i64.wrap (r+1)+1))).bind λaEZ=>(some aEZ)) else(some r))) else
        (bif qO s (i64.wrap (r+1))==45 then
        ((M.aQ s (i64.wrap (i64.wrap (r+1)+1))).bind λaE0=>
         (bif decide (aE0>i64.wrap (i64.wrap (r+1)+1)) then
         ((M.aQ s (i64.wrap (i64.wrap (r+1)+1))).bind λaE1=>(some aE1)) else(some r))) else
        ((M.aQ s (i64.wrap (r+1))).bind λaE2=>(bif decide (aE2>i64.wrap (r+1)) then((M.aQ s (i64.wrap (r+1))).bind λaE3=>(some aE3)) else(some r))))) else
       (bif qO s r==69 then
        (bif qO s (i64.wrap (r+1))==43 then
        ((M.aQ s (i64.wrap (i64.wrap (r+1)+1))).bind λaE4=>
         (bif decide (aE4>i64.wrap (i64.wrap (r+1)+1)) then
         ((M.aQ s (i64.wrap (i64.wrap (r+1)+1))).bind λaE5=>(some aE5)) else(some r))) else
         (bif qO s (i64.wrap (r+1))==45 then
         ((M.aQ s (i64.wrap (i64.wrap (r+1)+1))).bind λaE6=>
          (bif decide (aE6>i64.wrap (i64.wrap (r+1)+1)) then
          ((M.aQ s (i64.wrap (i64.wrap (r+1)+1))).bind λaE7=>(some aE7)) else(some r))) else
         ((M.aQ s (i64.wrap (r+1))).bind λaE8=>(bif decide (aE8>i64.wrap (r+1)) then((M.aQ s (i64.wrap (r+1))).bind λaE9=>(some aE9)) else(some r))))) else(some r)))=some (Ws s r):=by
    intro r h0 h1;rw[aC (n:=r+1) ak ak,aC (n:=r+1+1) ak ak,ES h (r+1) ak ak,ES h (r+1+1) ak ak,Ws];simp only[ah];cases qO s r==101<;>cases qO s r==69<;>cases qO s (r+1)==43<;>cases qO s (r+1)==45<;>cases decide (CW s (r+1+1)>r+1+1)<;>cases decide (CW s (r+1)>r+1)<;>rfl
   generalize hK:CW s (e+1)=k at e2⊢;have hka:(k==a)=false:=by rw[JX];omega
   rw[hka];cases qO s e==46 with
   |true=>
    simp only[aI,aS];cases e==a with
    |true=>
     simp only[aI,Bool.true_and];cases k==e+1 with
     |true=>rfl
     |false=>simp only[aS];exact ex k ak ak
    |false=>simp only[aS,Bool.false_and];exact ex k ak ak
   |false=>
    simp only[aS];cases e==a with
    |true=>rfl
    |false=>simp only[aS];have h2:=ex e ak ak;rw[aC (n:=e+1) ak ak,ES h (e+1) ak ak,hK] at h2;simp only[ah] at h2;exact h2
end
def acR(q:Int):aB->Int->Int
 |[],_=> -1
 |c::l,i=>if(c.toNat:Int)=q then i+1 else if(c.toNat:Int)=10 then -1 else if(c.toNat:Int)=92 then(match l with
   |[]=> -1
   |d::l'=>if(d.toNat:Int)=10 then -1 else acR q l' (i+2)) else acR q l (i+1)
def ad4(q:Int)(c:UInt8)(l:aB)(i:Int):acR q (c::l) i=if(c.toNat:Int)=q then i+1 else if(c.toNat:Int)=10 then -1 else if(c.toNat:Int)=92 then(match l with
   |[]=> -1
   |d::l'=>if(d.toNat:Int)=10 then -1 else acR q l' (i+2)) else acR q l (i+1):=by
 cases l with
 |nil=>simp[acR]
 |cons d l=>simp[acR]
def hdI:aB->Int
 |[]=> -1
 |d::_=>(d.toNat:Int)
def quoted(s:aB)(a q:Int):Int:=if qO s a=q then acR q (s.drop (a+1).toNat) (a+1) else -1
def ayK{s:aB}(h:s.length<=1048576)(q:Int)(hq:q≠10):∀(n:Nat) (rest pre:aB),rest.length<=n->s=pre++rest->
  (∃r,M.uV s q (pre.length:Int)=some r∧(o8 r some λu=>letE u λ_=>some (-1))=some (acR q rest (pre.length:Int)))∧
  (∃r,M.tu s q (pre.length:Int)=some r∧(o8 r some λu=>letE u λ_=>some (-1))=some (acR q rest (pre.length:Int)))
 |n,[],pre,hn,e=>by
  have hl:pre.length=s.length:=by rw[e];simp
  constructor
  ·refine⟨.inr (pre.length:Int), ?_,rfl⟩;rw[M.uV];refine bn ?_;simp only[M.zn,M.uU];rw[nZ ak,aS]
  ·refine⟨.inr (pre.length:Int), ?_,rfl⟩;rw[M.tu];refine bn ?_;simp only[M.xK,M.ug];rw[nZ ak,aS]
 |0,c::rest,pre,hn,e=>by simp at hn
 |n+1,c::rest,pre,hn,e=>by
  simp only[lU] at hn;have hl:s.length=pre.length+(rest.length+1):=by rw[e];simp
  have hget:s[pre.length]? =some c:=by rw[e,List.getElem?_append_right (Nat.le_refl _),Nat.sub_self];rfl
  have hc:=apU c;have hw:i64.wrap ((c.toNat:Nat):Int)=(c.toNat:Int):=aC ak ak;have hw1:i64.wrap ((pre.length:Int)+1)=((pre.length+1:Nat):Int):=by rw[aC ak ak];omega
  have hw2:i64.wrap (((pre.length+1:Nat):Int)+1)=((pre.length+2:Nat):Int):=by rw[aC ak ak];omega
  have hnext:qO s ((pre.length+1:Nat):Int)=hdI rest:=by rw[Gs,e,List.getElem?_append_right ak,show pre.length+1 - pre.length=1 by omega];cases rest<;>rfl
  have hS:M.zn s q (pre.length:Int)=some (if(c.toNat:Int)=q then .inr (.inl ((pre.length+1:Nat):Int)) else if(c.toNat:Int)=10 then .inr (.inl (-1)) else if(c.toNat:Int)=92 then
    (if qO s ((pre.length+1:Nat):Int)=10 then .inr (.inl (-1)) else .inl ((pre.length+2:Nat):Int)) else .inl ((pre.length+1:Nat):Int)):=by
   simp only[M.zn,M.uU,aW,hget,ah,hw,hw1,hw2,zN h];rw[zdt ak,aI]
   by_cases c1:(c.toNat:Int)=q
   ·rw[if_pos c1,show((c.toNat:Int)==q)=true by simpa using c1,aI]
   ·rw[if_neg c1,show((c.toNat:Int)==q)=false by simpa using c1,aS]
    by_cases c2:(c.toNat:Int)=10
    ·rw[if_pos c2,show((c.toNat:Int)==10)=true by simpa using c2,aI]
    ·rw[if_neg c2,show((c.toNat:Int)==10)=false by simpa using c2,aS]
     by_cases c3:(c.toNat:Int)=92
     ·rw[if_pos c3,show((c.toNat:Int)==92)=true by simpa using c3,aI]
      by_cases c4:qO s ((pre.length+1:Nat):Int)=10
      ·rw[if_pos c4,c4];rfl
      ·rw[if_neg c4,show(qO s ((pre.length+1:Nat):Int)==10)=false by simpa using c4,aS]
     ·rw[if_neg c3,show((c.toNat:Int)==92)=false by simpa using c3,aS]
  have hI:M.xK s q (pre.length:Int)=some (if(c.toNat:Int)=10 then .inr (.inr (pre.length:Int)) else if(c.toNat:Int)=q then .inr (.inl ((pre.length+1:Nat):Int)) else if(c.toNat:Int)=92 then
    (if qO s ((pre.length+1:Nat):Int)=10 then .inl ((pre.length+1:Nat):Int) else .inl ((pre.length+2:Nat):Int)) else .inl ((pre.length+1:Nat):Int)):=by
   simp only[M.xK,M.ug,aW,hget,ah,hw,hw1,hw2,zO h];rw[zdt ak,aI]
   by_cases c2:(c.toNat:Int)=10
   ·rw[if_pos c2,show((c.toNat:Int) !=10)=false by simpa using c2,aS]
   ·rw[if_neg c2,show((c.toNat:Int) !=10)=true by simpa using c2,aI]
    by_cases c1:(c.toNat:Int)=q
    ·rw[if_pos c1,show((c.toNat:Int)==q)=true by simpa using c1,aI]
    ·rw[if_neg c1,show((c.toNat:Int)==q)=false by simpa using c1,aS]
     by_cases c3:(c.toNat:Int)=92
     ·rw[if_pos c3,show((c.toNat:Int)==92)=true by simpa using c3,aI]
      by_cases c4:qO s ((pre.length+1:Nat):Int)=10
      ·rw[if_pos c4,c4];rfl
      ·rw[if_neg c4,show(qO s ((pre.length+1:Nat):Int) !=10)=true by simpa using c4,aI]
     ·rw[if_neg c3,show((c.toNat:Int)==92)=false by simpa using c3,aS]
  have e1:s=(pre++[c])++rest:=by rw[e];simp
  have ih1:=ayK h q hq n rest (pre++[c]) ak e1;rw[pF,J3] at ih1;rw[M.uV,M.tu] at ih1⊢;rw[ad4]
  by_cases c1:(c.toNat:Int)=q
  ·have c2:¬(c.toNat:Int)=10:=ak;rw[if_pos c1];rw[if_pos c1] at hS;rw[if_neg c2,if_pos c1] at hI;refine⟨⟨_,bn hS, ?_⟩,⟨_,bn hI, ?_⟩⟩<;>simp[o8]
  ·rw[if_neg c1];rw[if_neg c1] at hS
   by_cases c2:(c.toNat:Int)=10
   ·rw[if_pos c2];rw[if_pos c2] at hS hI;exact⟨⟨_,bn hS,rfl⟩,⟨_,bn hI,rfl⟩⟩
   ·rw[if_neg c2];rw[if_neg c2] at hS hI;rw[if_neg c1] at hI
    by_cases c3:(c.toNat:Int)=92
    ·rw[if_pos c3];rw[if_pos c3] at hS hI;cases rest with
     |nil=>
      rw[hnext,hdI] at hS hI;simp only[show¬((-1:Int)=10) by omega,if_false] at hS hI;have hend:∀(b:Int->Option (Int⊕(Int⊕Int))),True:=λ_=>trivial
      simp only[qX] at hl;refine⟨⟨.inr ((pre.length+2:Nat):Int), ?_,rfl⟩,⟨.inr ((pre.length+2:Nat):Int), ?_,rfl⟩⟩
      ·rw[bW hS];refine bn ?_;simp only[M.zn,M.uU];rw[nZ ak,aS]
      ·rw[bW hI];refine bn ?_;simp only[M.xK,M.ug];rw[nZ ak,aS]
     |cons d rest'=>
      simp only[hdI] at hnext⊢;rw[hnext] at hS hI
      by_cases c4:(d.toNat:Int)=10
      ·rw[if_pos c4];rw[if_pos c4] at hS hI;refine⟨⟨_,bn hS,rfl⟩, ?_⟩;obtain⟨r,h1,h2⟩:=ih1.2;refine⟨r,by rw[bW hI];exact h1, ?_⟩;rw[h2,ad4,if_neg ak,if_pos c4]
      ·rw[if_neg c4];rw[if_neg c4] at hS hI;have e2:s=(pre++[c,d])++rest':=by rw[e];simp
       simp only[lU] at hn;have ih2:=ayK h q hq n rest' (pre++[c,d]) ak e2;rw[pF,show[c,d].length=2 from rfl,M.uV,M.tu] at ih2;rw[bW hS,bW hI,show(pre.length:Int)+2=((pre.length+2:Nat):Int) by omega];exact ih2
    ·rw[if_neg c3];rw[if_neg c3] at hS hI;rw[bW hS,bW hI,show(pre.length:Int)+1=((pre.length+1:Nat):Int) by omega];exact ih1
section
variable {s:aB} (h:s.length<=1048576)
include h
theorem akN(a q:Int)(h0:0<=a)(h1:a<=1048576)(hq:0<=q)(hq2:q≠10):M.rV s a q=some (quoted s a q)∧M.qm s a q=some (quoted s a q):=by
 simp only[M.rV,M.MX,M.qm,M.KQ,zN h,zO h,ah,quoted]
 by_cases hb:qO s a=q
 ·rw[if_pos hb,show(qO s a !=q)=false by simpa using hb,aS,aS,aC ak ak];obtain⟨i,rfl⟩:∃i:Nat,a=i:=⟨a.toNat,ak⟩
  have hi:i<s.length:=by
   rcases Nat.lt_or_ge i s.length with hlt|hge
   ·exact hlt
   ·rw[Gs,List.getElem?_eq_none hge] at hb;simp only at hb;omega
  obtain⟨⟨r,k1,k2⟩,⟨r',k3,k4⟩⟩:=ayK h q hq2 _ (s.drop (i+1)) (s.take (i+1)) (Nat.le_refl _) (List.take_append_drop _ s).symm;rw[Ud,Nat.min_eq_left ak] at k1 k2 k3 k4;rw[show(i:Int)+1=((i+1:Nat):Int) by omega,U0,k1,k3,ah,ah];exact⟨k2,k4⟩
 ·rw[if_neg hb,show(qO s a !=q)=true by simpa using hb,aI,aI];exact⟨rfl,rfl⟩
theorem ad5(a:Int)(h0:0<=a)(h1:a<=1048576):M.yB s a=some (quoted s a 34)∧M.yJ s a=some (quoted s a 34):=by have:=akN h a 34 h0 h1 ak ak;simp only[M.yB,M.Sr,M.yJ,M.SY,this.1,this.2,ah];constructor<;>first|rfl|trivial
def Wu(s:aB)(a:Int):Int:=bif quoted s a 47==a+2 then -1 else quoted s a 47
theorem ad6(a:Int)(h0:0<=a)(h1:a<=1048576):M.yC s a=some (Wu s a)∧M.yK s a=some (Wu s a):=by have:=akN h a 47 h0 h1 ak ak;simp only[M.yC,M.Sv,M.yK,M.S9,this.1,this.2,ah,Wu];rw[aC ak ak];cases quoted s a 47==a+2<;>simp
end
end Go.Proofs.YtbgadfelmhoheaaGreatDoor
namespace Go.Proofs.YtbgadfelmhoheaaGreatDoor
set_option linter.unusedVariables false
set_option linter.unusedSimpArgs false
set_option linter.unusedSectionVars false
open Go Go.Vm
open Go.IntKind (i64)
open Int (reduceLE reduceLT reduceSub reduceAdd)
@[simp] theorem JI(l:List (aB)):(encS l).length=l.length:=by simp[encS]
@[simp] theorem Xh(l:List (aB))(i:Nat):(encS l)[i]? =(l[i]?).map λs=>[D.str s]:=by simp[encS]
def cS0(s:aB):cStr [D.str s] 0=some s:=rfl
def strsOf:Row->List (aB)
 |[]=>[]
 | .str s::r=>s::strsOf r
 |_::r=>strsOf r
def Zh:List (aB):=strsOf EY
def RF:List (aB):=strsOf TM
def apV:List (aB):=strsOf OM
def TT(s:aB):List (aB)->Int->Int
 |[],_=> -1
 |x::l,i=>if x==s then i else TT s l (i+1)
def ae7(s:aB):∀(l:List (aB)) (i:Int),0<=i-> -1<=TT s l i∧TT s l i<i+l.length
 |[],i,h=>by simp[TT];omega
 |x::l,i,h=>by
  rw[TT];split
  ·simp;omega
  ·have:=ae7 s l (i+1) ak;simp only[lU];omega
def akO(s:aB)(l:List (aB))(hl:l.length<=1048576){b:Int->Option (Int⊕(Int⊕Int))}
  (hb:∀(i:Nat) x,l[i]? =some x->b (i:Int)=some (if x==s then .inr (.inl (i:Int)) else .inl ((i:Int)+1))) (he:b (l.length:Int)=some (.inr (.inr (l.length:Int)))):
  ∃r,dI b 0=some r∧(o8 r some λu=>letE u λ_=>some (-1))=some (TT s l 0):=by
 have key:∀(t:List (aB)) (i:Nat),l.drop i=t->i<=l.length->∃r,dI b (i:Int)=some r∧(o8 r some λu=>letE u λ_=>some (-1))=some (TT s t (i:Int)):=by
  intro t;induction t with
  |nil=>
   intro i hd hi;have:i=l.length:=by have:=congrArg List.length hd;simp at this;omega
   subst this;exact⟨_,bn he,rfl⟩
  |cons x t ih=>
   intro i hd hi;have hx:l[i]? =some x:=by
    have:(l.drop i)[0]? =some x:=by rw[hd];rfl
    simpa using this
   have hlt:i<l.length:=(Md.1 hx).1;have hd':l.drop (i+1)=t:=by rw[<-List.drop_drop,hd];rfl
   have hs:=hb i x hx;rw[TT];cases hxs:x==s with
   |true=>rw[hxs] at hs;exact⟨_,bn hs,rfl⟩
   |false=>
    rw[hxs] at hs;obtain⟨r,h1,h2⟩:=ih (i+1) hd' hlt;refine⟨r, ?_, ?_⟩
    ·rw[bW hs,show(i:Int)+1=((i+1:Nat):Int) by omega];exact h1
    ·rw[h2];simp
 exact key l 0 rfl (Nat.zero_le _)
def akP(s:aB)(l:List (aB))(hl:l.length<=1048576):M.yA (encS l) s=some (TT s l 0):=by
 obtain⟨r,h1,h2⟩:=akO s l hl (b:=M.Ko (encS l) s)
  (λi x hx=>by have hi:=(Md.1 hx).1;simp only[M.Ko,M.Ed,JI,aW,Xh,hx,Jb,ah,cS0];rw[zdt ak,aI,aC ak ak];cases x==s<;>rfl)
  (by simp only[M.Ko,M.Ed,JI];rw[nZ ak,aS])
 simp only[M.yA,M.RZ,M.Pq];rw[h1,ah];exact h2
def ah7(s:aB)(l:List (aB))(hl:l.length<=1048576):M.slices_Index (encS l) s=some (TT s l 0):=by
 obtain⟨r,h1,h2⟩:=akO s l hl (b:=M.IL (encS l) s (l.length:Int))
  (λi x hx=>by have hi:=(Md.1 hx).1;simp only[M.IL,M.BX,aW,Xh,hx,Jb,ah,cS0];rw[zdt ak,aI,aC ak ak,show(s==x)=(x==s) by rw[Bool.eq_iff_iff,beq_iff_eq,beq_iff_eq];exact⟨Eq.symm,Eq.symm⟩];cases x==s<;>rfl)
  (by simp only[M.IL,M.BX];rw[nZ ak,aS])
 simp only[M.slices_Index,M.Qi,M.NR,JI];rw[h1,ah];exact h2
def amy(s:aB):Int:=if TT s Zh 0<0 then 0 else 10+TT s Zh 0
def Zi(s:aB):Bool:=decide (TT s apV 0>=0)
def apW:M.xW=some (encS Zh):=rfl
def apX:M.xg=some (encS apV):=rfl
def ah8:M.xX=some (encS RF):=rfl
def aHO:List.map (λx=>[x]) EY=encS Zh:=rfl
def aB6:List.map (λx=>[x]) OM=encS apV:=rfl
def XU(s:aB):M.oq s=some (amy s)∧M.oz s=some (amy s):=by
 have hr:=ae7 s Zh 0 ak;have hl:Zh.length=17:=rfl;simp only[M.oq,M.Kq,M.oz,M.KN,apW,aHO,ah,akP s Zh (by rw[hl];omega),ah7 s Zh (by rw[hl];omega),amy]
 by_cases h:TT s Zh 0<0
 ·rw[zdt h,aI,if_pos h];exact⟨rfl,rfl⟩
 ·rw[nZ h,aS,if_neg h,aC ak ak];exact⟨rfl,rfl⟩
def QH(s:aB):M.kK s=some (Zi s)∧M.lJ s=some (Zi s):=by have hl:apV.length=21:=rfl;simp only[M.kK,M.Kr,M.lJ,M.KO,M.slices_Contains,M.BZ,apX,aB6,ah,akP s apV (by rw[hl];omega),ah7 s apV (by rw[hl];omega),Zi];constructor<;>first|rfl|trivial
def isL(b:Int):Bool:=(decide (b>=97) && decide (b<=122))||((decide (b>=65) && decide (b<=90))||(b==95))
def isW(b:Int):Bool:=isL b||isD b
def OO(b:Int):M.kV b=some (isL b)∧M.kW b=some (isL b):=by simp only[M.kV,M.MS,M.bF,M.Bv,M.kW,M.NQ,isL];cases decide (b>=97)<;>cases decide (b<=122)<;>cases decide (b>=65)<;>cases decide (b<=90)<;>cases(b==95)<;>exact⟨rfl,rfl⟩
def yT(b:Int):M.jq b=some (isW b)∧M.jr b=some (isW b):=by simp only[M.jq,M.Ik,M.jr,M.IJ,OO,ah5,ah6,ah,isW];cases isL b<;>cases isD b<;>exact⟨rfl,rfl⟩
def ayL(s:aB):Bool:=s.all λc=>isW (c.toNat:Int)
def bbP:aB->Bool
 |[]=>false
 |c::_=>isL (c.toNat:Int)
def Lp(s:aB):Bool:=ayL s &&((decide ((s.length:Int)>=1) && decide ((s.length:Int)<=12)) && bbP s)
def ah9(s:aB){b:Int->Option (Int⊕(Unit⊕Int))}
  (hb:∀(i:Nat) c,s[i]? =some c->b (i:Int)=some (bif isW (c.toNat:Int) then .inl ((i:Int)+1) else .inr (.inl ()))) (he:b (s.length:Int)=some (.inr (.inr (s.length:Int)))):
  dI b 0=some (bif ayL s then .inr (s.length:Int) else .inl ()):=by
 have key:∀(t:aB) (i:Nat),s.drop i=t->i<=s.length->dI b (i:Int)=some (bif ayL t then .inr (s.length:Int) else .inl ()):=by
  intro t;induction t with
  |nil=>
   intro i hd hi;have:i=s.length:=by have:=congrArg List.length hd;simp at this;omega
   subst this;exact bn he
  |cons x t ih=>
   intro i hd hi;have hx:s[i]? =some x:=by
    have:(s.drop i)[0]? =some x:=by rw[hd];rfl
    simpa using this
   have hlt:i<s.length:=(Md.1 hx).1;have hd':s.drop (i+1)=t:=by rw[<-List.drop_drop,hd];rfl
   have hs:=hb i x hx;rw[ayL,List.all_cons];cases hw:isW (x.toNat:Int) with
   |true=>rw[hw,aI] at hs;rw[bW hs,show(i:Int)+1=((i+1:Nat):Int) by omega,ih (i+1) hd' hlt,Bool.true_and];rfl
   |false=>rw[hw,aS] at hs;rw[bn hs];rfl
 exact key s 0 rfl (Nat.zero_le _)
def XV(s:aB)(h:s.length<=1048576):M.nH s=some (Lp s)∧M.nI s=some (Lp s):=by
 have hw:∀c:UInt8,i64.wrap ((c.toNat:Nat):Int)=(c.toNat:Int):=λc=>by have:=apU c;exact aC ak ak
 have h1:=ah9 s (b:=M.DN s)
  (λi c hc=>by have hi:=(Md.1 hc).1;simp only[M.DN,M.xC,aW,hc,ah,hw,yT];rw[zdt ak,aI,aC ak ak];cases isW (c.toNat:Int)<;>rfl)
  (by simp only[M.DN,M.xC];rw[nZ ak,aS])
 have h2:=ah9 s (b:=M.DV s (s.length:Int))
  (λi c hc=>by have hi:=(Md.1 hc).1;simp only[M.DV,M.xJ,aW,hc,ah,hw,yT];rw[zdt ak,aI,aC ak ak];cases isW (c.toNat:Int)<;>rfl)
  (by simp only[M.DV,M.xJ];rw[nZ ak,aS])
 simp only[M.nH,M.J9,M.nI,M.KL,M.Il,M.IK,M.bF,M.Bv,M.bD,M.yS];rw[h1,h2,ah,ah,Lp];cases ayL s with
 |false=>exact⟨rfl,rfl⟩
 |true=>
  simp only[aI,o8,letE,Bool.true_and];cases s with
  |nil=>exact⟨rfl,rfl⟩
  |cons c l=>have hi:idx (c::l) 0=some c:=rfl;simp only[hi,ah,hw,OO];cases decide (((c::l).length:Int)>=1)<;>cases decide (((c::l).length:Int)<=12)<;>exact⟨rfl,rfl⟩
def QI(s:aB):Bool:=Lp s &&((amy s==0) && !(Zi s))
def ad7(s:aB)(h:s.length<=1048576):M.jT s=some (QI s)∧M.kR s=some (QI s):=by have h1:=XV s h;simp only[M.jT,M.Si,M.kR,M.SQ,h1.1,h1.2,XU,QH,ah,QI];cases Lp s<;>cases amy s==0<;>cases Zi s<;>exact⟨rfl,rfl⟩
end Go.Proofs.YtbgadfelmhoheaaGreatDoor
namespace Go.Proofs.YtbgadfelmhoheaaGreatDoor
set_option linter.unusedVariables false
set_option linter.unusedSimpArgs false
set_option linter.unusedSectionVars false
open Go Go.Vm
open Go.IntKind (i64)
open Int (reduceLE reduceLT reduceSub reduceAdd)
def aEi(c:UInt8)(n:Nat)(h:n<256):(((c.toNat:Nat):Int)==(n:Int))=(c==UInt8.ofNat n):=by
 rw[Bool.eq_iff_iff,beq_iff_eq,beq_iff_eq];constructor
 ·intro e;apply UInt8.toNat_inj.1;rw[UInt8.toNat_ofNat',Nat.mod_eq_of_lt h];omega
 ·rintro rfl;rw[UInt8.toNat_ofNat',Nat.mod_eq_of_lt h]
def hasB(c:UInt8)(s:aB):Bool:=s.any (· ==c)
def akQ(s:aB)(c:UInt8):decide (0<=Lib.indexByte s c)=hasB c s:=by
 have hge:=Lib.indexByte_ge s c;rw[Bool.eq_iff_iff,decide_eq_true_eq,hasB,List.any_eq_true];constructor
 ·intro h;obtain⟨i,hi⟩:∃i:Nat,Lib.indexByte s c=i:=⟨(Lib.indexByte s c).toNat,ak⟩
  exact⟨c,zZ (Lib.indexByte_some hi).1,by simp⟩
 ·rintro⟨x,hx,hc⟩;have:=beq_iff_eq.1 hc;subst this;rcases Int.lt_or_le (Lib.indexByte s x) 0 with h|h
  ·obtain⟨i,hi⟩:=List.mem_iff_getElem?.1 hx;exact absurd hi (Lib.indexByte_none ak i)
  ·exact h
def apY(s:aB)(h:s.length<=1000000000):M.oO s=some (!(hasB 10 s)):=by
 have key:∀(t:aB) (i:Nat),s.drop i=t->i<=s.length->dI (M.BF s) (i:Int)=some (bif hasB 10 t then .inl () else .inr (s.length:Int)):=by
  intro t;induction t with
  |nil=>
   intro i hd hi;have:i=s.length:=by have:=congrArg List.length hd;simp at this;omega
   subst this;refine bn ?_;simp only[M.BF,M.BD];rw[nZ ak,aS];rfl
  |cons x t ih=>
   intro i hd hi;have hx:s[i]? =some x:=by
    have:(s.drop i)[0]? =some x:=by rw[hd];rfl
    simpa using this
   have hlt:i<s.length:=(Md.1 hx).1;have hd':s.drop (i+1)=t:=by rw[<-List.drop_drop,hd];rfl
   have hs:M.BF s (i:Int)=some (bif x==10 then .inr (.inl ()) else .inl ((i:Int)+1)):=by simp only[M.BF,M.BD,aW,hx,ah];rw[zdt ak,aI,show(10:Int)=((10:Nat):Int) from rfl,aEi _ _ ak,aC ak ak,show(x==UInt8.ofNat 10)=(x==10) from rfl];cases x==10<;>rfl
   rw[hasB,List.any_cons];cases hc:x==10 with
   |true=>rw[hc,aI] at hs;rw[bn hs];rfl
   |false=>rw[hc,aS] at hs;rw[bW hs,show(i:Int)+1=((i+1:Nat):Int) by omega,ih (i+1) hd' hlt,Bool.false_or];rfl
 have:=key s 0 rfl (Nat.zero_le _);rw[pz] at this;simp only[M.oO,M.Px,M.MV];rw[this,ah];cases hasB 10 s<;>rfl
def aB7:∀i,i<17->cStr EY i=Zh[i]? :=by decide+kernel
def amA:∀i,i<39->cStr TM i=RF[i]? :=by decide+kernel
def spell(k:Int):aB:=if k=1 then[10] else if 10<=k∧k<=26 then Zh[(k - 10).toNat]?.getD [] else if 30<=k∧k<=68 then RF[(k - 30).toNat]?.getD [] else[]
def nP(k:Int)(hk:I64 k):M.jQ k=some (spell k)∧M.iQ k=some (spell k):=by
 have l1:Zh.length=17:=rfl;have l2:RF.length=39:=rfl;simp only[M.jQ,M.Py,M.iQ,M.Qj,M.qR,M.Cb,M.jc,M.Cc,M.bD,M.yS,M.bF,M.Bv,apW,ah8,ah,spell]
 by_cases h1:k=1
 ·subst h1;exact⟨rfl,rfl⟩
 ·rw[show(k==1)=false by simpa using h1,aS,aS,if_neg h1]
  by_cases h2:10<=k∧k<=26
  ·obtain⟨i,hi⟩:∃i:Nat,k=10+i:=⟨(k - 10).toNat,ak⟩
   have hw:i64.wrap (k - 10)=(i:Int):=by rw[aC ak ak];omega
   obtain⟨x,hx⟩:∃x,Zh[i]? =some x:=⟨Zh[i]'ak,by simp⟩
   rw[if_pos h2,zdt (show k>=10 by omega),aI,zdt (show k<=26 by omega),hw,zdt (show(0:Int)<=(i:Int) by omega),zdt (show(i:Int)<17 by omega)];simp only[ah,aI,aW,U0,Xh,hx,Jb,cS0,Bool.and_self,Nat.zero_add,Nat.mul_one,aB7 i ak];rw[show(k - 10).toNat=i by omega,hx];exact⟨rfl,rfl⟩
  ·have hf:(bif decide (k>=10) then some (decide (k<=26)) else some false)=some false:=by
    by_cases h3:k>=10
    ·rw[zdt h3,aI,nZ ak]
    ·rw[nZ h3,aS]
   rw[if_neg h2,hf];simp only[ah,aS]
   by_cases h4:30<=k∧k<=68
   ·obtain⟨i,hi⟩:∃i:Nat,k=30+i:=⟨(k - 30).toNat,ak⟩
    have hw:i64.wrap (k - 30)=(i:Int):=by rw[aC ak ak];omega
    obtain⟨x,hx⟩:∃x,RF[i]? =some x:=⟨RF[i]'ak,by simp⟩
    rw[if_pos h4,zdt (show k>=30 by omega),aI,zdt (show k<=68 by omega),hw,zdt (show(0:Int)<=(i:Int) by omega),zdt (show(i:Int)<39 by omega)];simp only[ah,aI,aW,U0,Xh,hx,Jb,cS0,Bool.and_self,Nat.zero_add,Nat.mul_one,amA i ak];rw[show(k - 30).toNat=i by omega,hx];exact⟨rfl,rfl⟩
   ·have hf:(bif decide (k>=30) then some (decide (k<=68)) else some false)=some false:=by
     by_cases h3:k>=30
     ·rw[zdt h3,aI,nZ ak]
     ·rw[nZ h3,aS]
    rw[if_neg h4,hf];exact⟨rfl,rfl⟩
def XW(k:Int)(s:aB):Bool:=bif s==[] then false else
 bif k==2 then(qO s 0==35) && !(hasB 10 s) else bif k==3 then Vw s 0==(s.length:Int) else bif k==4 then quoted s 0 34==(s.length:Int) else bif k==5 then Wu s 0==(s.length:Int) else
 bif k==6 then QI s else bif k==7 then QI s else bif k==8 then Zi s else s==spell k
def arF(k:Int)(s:aB)(a:Int)(h:s.length<=1048576)(hk:I64 k):M.mZ k s a=some (XW k s)∧M.qI k s a=some (XW k s):=by
 have hn:=ad7 s h;have hb:=QH s;have hst:=ad5 h 0 ak ak;have her:=ad6 h 0 ak ak;have hsp:=nP k hk;have hct:M.strings_Contains s [10]=some (hasB 10 s):=by rw[M.strings_Contains,akQ]
 simp only[M.mZ,M.Pz,M.qI,M.Qk,hn.1,hn.2,hb.1,hb.2,hst.1,hst.2,her.1,her.2,hsp.1,hsp.2,hct,apY s ak,Zg h 0 ak,Zf h 0 ak,ah,XW];cases s with
 |nil=>refine⟨?_,rfl⟩;have q1:QI []=false:=rfl;have q2:Zi []=false:=rfl;have q3:(quoted [] 0 34==(([]:aB).length:Int))=false:=rfl;have q4:(Wu [] 0==(([]:aB).length:Int))=false:=rfl;rw[q1,q2,q3,q4];cases k==2<;>cases k==3<;>cases k==4<;>cases k==5<;>cases k==6<;>cases k==7<;>cases k==8<;>rfl
 |cons c l=>
  have hi:idx (c::l) 0=some c:=rfl;have hb0:qO (c::l) 0=(c.toNat:Int):=rfl;have hne:((c::l:aB)==[])=false:=rfl;have hgt:decide (((c::l).length:Int)>0)=true:=by simp
  have hsw:(spell k==c::l)=(c::l==spell k):=by rw[Bool.eq_iff_iff,beq_iff_eq,beq_iff_eq];exact⟨Eq.symm,Eq.symm⟩
  rw[hi,hb0,hne,hgt,hsw];simp only[ah,aI,aS,Bool.not_false];cases k==2<;>cases k==3<;>cases k==4<;>cases k==5<;>cases k==6<;>cases k==7<;>cases k==8<;>cases(c.toNat:Int)==35<;>exact⟨rfl,rfl⟩
end Go.Proofs.YtbgadfelmhoheaaGreatDoor
namespace Go.Proofs.YtbgadfelmhoheaaGreatDoor
set_option linter.unusedVariables false
set_option linter.unusedSimpArgs false
set_option linter.unusedSectionVars false
open Go Go.Vm
open Go.IntKind (i64)
open Int (reduceLE reduceLT reduceSub reduceAdd)
def gG(x a b:Int):M.bF x a b=some (decide (x>=a) && decide (x<=b)):=by simp only[M.bF,M.Bv];cases decide (x>=a)<;>rfl
def dH(x a b:Int):M.bD x a b=some (decide (x>=a) && decide (x<=b)):=gG x a b
def aia(op:Int):Bool:=op==60||op==57||op==58||op==59||op==55||op==56||op==99||op==63||op==48||op==47||op==50||op==62||op==49||op==67||op==46||op==45||op==44
def CY(op:Int):M.AU op=some (aia op)∧∃lv,M.nU op=some lv∧(lv !=0)=aia op:=by
 by_cases h44:op=44
 ·subst h44;exact⟨rfl,_,rfl,rfl⟩
 have e44:(op==44)=false:=by simpa using h44
 by_cases h45:op=45
 ·subst h45;exact⟨rfl,_,rfl,rfl⟩
 have e45:(op==45)=false:=by simpa using h45
 by_cases h67:op=67
 ·subst h67;exact⟨rfl,_,rfl,rfl⟩
 have e67:(op==67)=false:=by simpa using h67
 by_cases h46:op=46
 ·subst h46;exact⟨rfl,_,rfl,rfl⟩
 have e46:(op==46)=false:=by simpa using h46
 by_cases h63:op=63
 ·subst h63;exact⟨rfl,_,rfl,rfl⟩
 have e63:(op==63)=false:=by simpa using h63
 by_cases h48:op=48
 ·subst h48;exact⟨rfl,_,rfl,rfl⟩
 have e48:(op==48)=false:=by simpa using h48
 by_cases h47:op=47
 ·subst h47;exact⟨rfl,_,rfl,rfl⟩
 have e47:(op==47)=false:=by simpa using h47
 by_cases h50:op=50
 ·subst h50;exact⟨rfl,_,rfl,rfl⟩
 have e50:(op==50)=false:=by simpa using h50
 by_cases h62:op=62
 ·subst h62;exact⟨rfl,_,rfl,rfl⟩
 have e62:(op==62)=false:=by simpa using h62
 by_cases h49:op=49
 ·subst h49;exact⟨rfl,_,rfl,rfl⟩
 have e49:(op==49)=false:=by simpa using h49
 by_cases h99:op=99
 ·subst h99;exact⟨rfl,_,rfl,rfl⟩
 have e99:(op==99)=false:=by simpa using h99
 by_cases h55:op=55
 ·subst h55;exact⟨rfl,_,rfl,rfl⟩
 have e55:(op==55)=false:=by simpa using h55
 by_cases h56:op=56
 ·subst h56;exact⟨rfl,_,rfl,rfl⟩
 have e56:(op==56)=false:=by simpa using h56
 by_cases h57:op=57
 ·subst h57;exact⟨rfl,_,rfl,rfl⟩
 have e57:(op==57)=false:=by simpa using h57
 by_cases h58:op=58
 ·subst h58;exact⟨rfl,_,rfl,rfl⟩
 have e58:(op==58)=false:=by simpa using h58
 by_cases h59:op=59
 ·subst h59;exact⟨rfl,_,rfl,rfl⟩
 have e59:(op==59)=false:=by simpa using h59
 by_cases h60:op=60
 ·subst h60;exact⟨rfl,_,rfl,rfl⟩
 have e60:(op==60)=false:=by simpa using h60
 simp only[M.AU,M.Pn,M.nU,M.JA,aia,e44,e45,e67,e46,e63,e48,e47,e50,e62,e49,e99,e55,e56,e57,e58,e59,e60,aS,Bool.or_self];exact⟨trivial,0,rfl,rfl⟩
def aib(op:Int):Bool:=op==54||(decide (op>=38) && decide (op<=43))
def pW(op:Int):M.uD op=some (aib op)∧M.yL op=some (aib op):=by simp only[M.uD,M.Ij,M.yL,M.NS,gG,dH,ah,aib];cases op==54<;>exact⟨rfl,rfl⟩
def Zj(s:aB)(l:List (aB))(hl:l.length<=1048576):M.slices_Contains (encS l) s=some (decide (TT s l 0>=0)):=by simp only[M.slices_Contains,M.BZ,ah7 s l hl,ah]
def H6:([[D.str []],[D.str [62]],[D.str [62,62]],[D.str [124]]]:aA)=encS [[],[62],[62,62],[124]]:=rfl
def abD(s:aB):decide (TT s [[],[62],[62,62],[124]] 0>=0)=(s==[]||(s==[62]||(s==[62,62]||s==[124]))):=by
 have sw:∀a b:aB,(a==b)=(b==a):=λa b=>by rw[Bool.eq_iff_iff,beq_iff_eq,beq_iff_eq];exact⟨Eq.symm,Eq.symm⟩
 simp only[TT,sw _ s];cases s==[]<;>cases s==[62]<;>cases s==[62,62]<;>cases s==[124]<;>rfl
def FOk(k op:Int)(t o:aB)(kids:aA):Prop:=∃b,M.aK k op t o kids=some b∧M.je k op t o kids=some b
def aB8(k:Int)(op:Int)(t o:aB)(kids:aA)(ht:t.length<=1048576)(ho:o.length<=1048576)(hk:kids.length<=400)(hkk:k=1∨k=2∨k=3∨k=4∨k=5∨k=6∨k=7∨k=8∨k=9∨k=10∨k=11∨k=12∨k=13∨k=14∨k=15∨k=16∨k=20∨k=22∨k=23∨k=24∨k=25∨k=26∨k=27∨k=28∨k=29∨k=30∨k=31∨k=32∨k=33∨k=34∨k=40∨k=41∨k=44∨k=45):FOk k op t o kids:=by
 have hn:=ad7 t ht;have hn2:=ad7 o ho;have hb:=QH t;have ha:=pW op;obtain⟨hi,lv,hlv,hi2⟩:=CY op;have tk:=λk hk=>arF k t 0 ht hk
 have tk2:=tk 2 ⟨ak,ak⟩;have tk3:=tk 3 ⟨ak,ak⟩;have tk4:=tk 4 ⟨ak,ak⟩;have tk5:=tk 5 ⟨ak,ak⟩;have hc2:aY IntKind.i64 [D.int IntKind.i64 3,D.int IntKind.i64 4,D.int IntKind.i64 5] (i64.wrap 0).toNat=some 3:=rfl;have d12:decide ((0:Int)<=i64.wrap 0)=true:=rfl;have d22:decide (i64.wrap 0<3)=true:=rfl;have hc3:aY IntKind.i64 [D.int IntKind.i64 3,D.int IntKind.i64 4,D.int IntKind.i64 5] (i64.wrap 1).toNat=some 4:=rfl;have d13:decide ((0:Int)<=i64.wrap 1)=true:=rfl;have d23:decide (i64.wrap 1<3)=true:=rfl;have hc4:aY IntKind.i64 [D.int IntKind.i64 3,D.int IntKind.i64 4,D.int IntKind.i64 5] (i64.wrap 2).toNat=some 5:=rfl;have d14:decide ((0:Int)<=i64.wrap 2)=true:=rfl;have d24:decide (i64.wrap 2<3)=true:=rfl;have z1:decide ((kids.length:Int)<=400)=true:=zdt ak;have z2:decide ((0:Int)<=(kids.length:Int))=true:=zdt ak;have z3:decide ((kids.length:Int)<=(kids.length:Int))=true:=zdt ak;rcases hkk with rfl|rfl|rfl|rfl|rfl|rfl|rfl|rfl|rfl|rfl|rfl|rfl|rfl|rfl|rfl|rfl|rfl|rfl|rfl|rfl|rfl|rfl|rfl|rfl|rfl|rfl|rfl|rfl|rfl|rfl|rfl|rfl|rfl|rfl<;>simp only[FOk,M.aK,M.aZ,M.dh,M.bP,M.eX,M.dV,M.dn,M.bU,M.je,M.jK,M.eP,M.kX,M.jM,M.kY,M.jU,M.kD,M.jV,M.kF,M.jW,M.kG,M.lW,M.mW,gG,dH,hn.1,hn.2,hn2.1,hn2.2,hb.1,hb.2,ha.1,ha.2,hi,hlv,hi2,tk2.1,tk2.2,tk3.1,tk3.2,tk4.1,tk4.2,tk5.1,tk5.2,hc2,d12,d22,hc3,d13,d23,hc4,d14,d24,z1,z2,z3,ge_iff_le,Int.reduceBEq,reduceLE,reduceSub,decide_true,decide_false,aI,aS,Bool.and_true,Bool.and_false,Bool.true_and,Bool.false_and,ah]
 ·cases(op==0)<;>cases(QI t)<;>cases(o==[])<;>exact⟨_,rfl,rfl⟩
 ·cases(op==0)<;>cases(XW 3 t)<;>cases(o==[])<;>exact⟨_,rfl,rfl⟩
 ·cases(op==0)<;>cases(XW 4 t)<;>cases(o==[])<;>exact⟨_,rfl,rfl⟩
 ·cases(op==0)<;>cases(XW 5 t)<;>cases(o==[])<;>exact⟨_,rfl,rfl⟩
 ·cases(op==0)<;>cases(QI t)<;>cases(o==[])<;>exact⟨_,rfl,rfl⟩
 ·cases(op==0)<;>cases(t==[])<;>cases(o==[])<;>exact⟨_,rfl,rfl⟩
 ·cases(op==0)<;>cases(QI t)<;>cases(o==[])<;>exact⟨_,rfl,rfl⟩
 ·cases(op==0)<;>cases(Zi t)<;>cases(o==[])<;>exact⟨_,rfl,rfl⟩
 ·cases(op==51)<;>cases(op==52)<;>cases(t==[])<;>cases(o==[])<;>exact⟨_,rfl,rfl⟩
 ·cases(op==51)<;>cases(op==52)<;>cases(t==[])<;>cases(o==[])<;>exact⟨_,rfl,rfl⟩
 ·cases(op==55)<;>cases(op==56)<;>cases(op==61)<;>cases(t==[])<;>cases(o==[])<;>exact⟨_,rfl,rfl⟩
 ·cases(aia op)<;>cases(t==[])<;>cases(o==[])<;>exact⟨_,rfl,rfl⟩
 ·cases(op==0)<;>cases(QI t)<;>cases(o==[])<;>exact⟨_,rfl,rfl⟩
 ·cases(op==0)<;>cases(t==[])<;>cases(o==[])<;>exact⟨_,rfl,rfl⟩
 ·cases(aib op)<;>cases(t==[])<;>cases(o==[])<;>exact⟨_,rfl,rfl⟩
 ·cases(op==0)<;>cases(t==[])<;>cases(o==[])<;>exact⟨_,rfl,rfl⟩
 ·cases(op==0)<;>cases(t==[])<;>cases(o==[])<;>exact⟨_,rfl,rfl⟩
 ·cases(op==0)<;>cases(t==[])<;>cases(o==[])<;>exact⟨_,rfl,rfl⟩
 ·cases(op==0)<;>cases(t==[])<;>cases(o==[])<;>exact⟨_,rfl,rfl⟩
 ·cases(op==0)<;>cases(t==[])<;>cases(o==[])<;>exact⟨_,rfl,rfl⟩
 ·cases(op==0)<;>cases(t==[])<;>cases(o==[])<;>exact⟨_,rfl,rfl⟩
 ·cases(op==0)<;>cases(t==[])<;>cases(o==[])<;>exact⟨_,rfl,rfl⟩
 ·cases(op==0)<;>cases(QI t)<;>cases(o==[])<;>exact⟨_,rfl,rfl⟩
 ·cases(op==0)<;>cases(t==[])<;>cases(o==[])<;>exact⟨_,rfl,rfl⟩
 ·cases(op==0)<;>cases(t==[])<;>cases(o==[])<;>exact⟨_,rfl,rfl⟩
 ·cases(op==0)<;>cases(t==[])<;>cases(o==[])<;>exact⟨_,rfl,rfl⟩
 ·cases(op==0)<;>cases(t==[])<;>cases(o==[])<;>exact⟨_,rfl,rfl⟩
 ·cases(op==0)<;>cases(QI t)<;>cases(QI o)<;>exact⟨_,rfl,rfl⟩
 ·cases(op==0)<;>cases(t==[])<;>cases(o==[])<;>exact⟨_,rfl,rfl⟩
 ·cases(op==0)<;>cases(XW 2 t)<;>cases(o==[])<;>exact⟨_,rfl,rfl⟩
 ·cases(op==0)<;>cases(t==[])<;>cases(o==[])<;>exact⟨_,rfl,rfl⟩
 ·cases(op==0)<;>cases(t==[])<;>cases(o==[])<;>exact⟨_,rfl,rfl⟩
 ·cases(op==0)<;>cases(QI t)<;>cases(o==[])<;>exact⟨_,rfl,rfl⟩
 ·cases(op==0)<;>cases(t==[])<;>cases(o==[])<;>exact⟨_,rfl,rfl⟩
def aZ5(op:Int)(t o:aB)(kids:aA)(ht:t.length<=1048576)(ho:o.length<=1048576)(hk:kids.length<=400):FOk 21 op t o kids:=by
 have hp:=Zj o [[],[62],[62,62],[124]] (by decide);rw[abD] at hp
 by_cases h0:op=0
 ·subst h0;simp only[FOk,M.aK,M.aZ,M.dh,M.bP,M.eX,M.dV,M.dn,M.bU,M.je,M.jK,M.eP,M.kX,M.jM,M.kY,M.jU,M.kD,M.jV,M.kF,M.jW,M.kG,M.lW,M.mW,gG,dH,H6,hp,show i64.wrap (0+1)=1 from rfl,show i64.wrap (1+1)=2 from rfl,show i64.wrap (1+i64.wrap (Int.tdiv 1 3))=1 from rfl,show i64.wrap (1+i64.wrap (Int.tdiv 2 3))=1 from rfl,show i64.wrap (1+i64.wrap (Int.tdiv 3 3))=2 from rfl,show i64.wrap (2+i64.wrap (Int.tdiv 1 3))=2 from rfl,show i64.wrap (2+i64.wrap (Int.tdiv 3 3))=3 from rfl,ge_iff_le,Int.reduceBEq,reduceLE,reduceSub,decide_true,decide_false,aI,aS,Bool.and_true,Bool.and_false,Bool.true_and,Bool.false_and,ah];generalize (t==[])=a0;generalize (o==[])=a1;generalize (o==[62])=a2;generalize (o==[62,62])=a3;generalize (o==[124])=a4;cases a0<;>cases a1<;>cases a2<;>cases a3<;>cases a4<;>exact⟨_,rfl,rfl⟩
 by_cases h1:op=1
 ·subst h1;simp only[FOk,M.aK,M.aZ,M.dh,M.bP,M.eX,M.dV,M.dn,M.bU,M.je,M.jK,M.eP,M.kX,M.jM,M.kY,M.jU,M.kD,M.jV,M.kF,M.jW,M.kG,M.lW,M.mW,gG,dH,H6,hp,show i64.wrap (0+1)=1 from rfl,show i64.wrap (1+1)=2 from rfl,show i64.wrap (1+i64.wrap (Int.tdiv 1 3))=1 from rfl,show i64.wrap (1+i64.wrap (Int.tdiv 2 3))=1 from rfl,show i64.wrap (1+i64.wrap (Int.tdiv 3 3))=2 from rfl,show i64.wrap (2+i64.wrap (Int.tdiv 1 3))=2 from rfl,show i64.wrap (2+i64.wrap (Int.tdiv 3 3))=3 from rfl,ge_iff_le,Int.reduceBEq,reduceLE,reduceSub,decide_true,decide_false,aI,aS,Bool.and_true,Bool.and_false,Bool.true_and,Bool.false_and,ah];generalize (t==[])=a0;generalize (o==[])=a1;generalize (o==[62])=a2;generalize (o==[62,62])=a3;generalize (o==[124])=a4;cases a0<;>cases a1<;>cases a2<;>cases a3<;>cases a4<;>exact⟨_,rfl,rfl⟩
 have e0:(op==0)=false:=by simpa using h0
 have e1:(op==1)=false:=by simpa using h1
 have hf:(decide ((0:Int)<=op) && decide (op<=1))=false:=by rw[Bool.and_eq_false_iff,decide_eq_false_iff_not,decide_eq_false_iff_not];omega
 simp only[FOk,M.aK,M.aZ,M.dh,M.bP,M.eX,M.dV,M.dn,M.bU,M.je,M.jK,M.eP,M.kX,M.jM,M.kY,M.jU,M.kD,M.jV,M.kF,M.jW,M.kG,M.lW,M.mW,gG,dH,H6,hp,e0,e1,hf,ge_iff_le,Int.reduceBEq,reduceLE,reduceSub,decide_true,decide_false,aI,aS,Bool.and_true,Bool.and_false,Bool.true_and,Bool.false_and,ah];generalize (t==[])=a0;generalize (o==[])=a1;generalize (o==[62])=a2;generalize (o==[62,62])=a3;generalize (o==[124])=a4;cases a0<;>cases a1<;>cases a2<;>cases a3<;>cases a4<;>exact⟨_,rfl,rfl⟩
def aZ6(op:Int)(t o:aB)(kids:aA)(ht:t.length<=1048576)(ho:o.length<=1048576)(hk:kids.length<=400):FOk 42 op t o kids:=by
 have hp:=Zj o [[],[62],[62,62],[124]] (by decide);rw[abD] at hp
 by_cases h1:op=1
 ·subst h1;simp only[FOk,M.aK,M.aZ,M.dh,M.bP,M.eX,M.dV,M.dn,M.bU,M.je,M.jK,M.eP,M.kX,M.jM,M.kY,M.jU,M.kD,M.jV,M.kF,M.jW,M.kG,M.lW,M.mW,gG,dH,H6,hp,show i64.wrap (0+1)=1 from rfl,show i64.wrap (1+1)=2 from rfl,show i64.wrap (1+i64.wrap (Int.tdiv 1 3))=1 from rfl,show i64.wrap (1+i64.wrap (Int.tdiv 2 3))=1 from rfl,show i64.wrap (1+i64.wrap (Int.tdiv 3 3))=2 from rfl,show i64.wrap (2+i64.wrap (Int.tdiv 1 3))=2 from rfl,show i64.wrap (2+i64.wrap (Int.tdiv 3 3))=3 from rfl,ge_iff_le,Int.reduceBEq,reduceLE,reduceSub,decide_true,decide_false,aI,aS,Bool.and_true,Bool.and_false,Bool.true_and,Bool.false_and,ah];generalize (t==[])=a0;generalize (o==[])=a1;cases a0<;>cases a1<;>exact⟨_,rfl,rfl⟩
 by_cases h2:op=2
 ·subst h2;simp only[FOk,M.aK,M.aZ,M.dh,M.bP,M.eX,M.dV,M.dn,M.bU,M.je,M.jK,M.eP,M.kX,M.jM,M.kY,M.jU,M.kD,M.jV,M.kF,M.jW,M.kG,M.lW,M.mW,gG,dH,H6,hp,show i64.wrap (0+1)=1 from rfl,show i64.wrap (1+1)=2 from rfl,show i64.wrap (1+i64.wrap (Int.tdiv 1 3))=1 from rfl,show i64.wrap (1+i64.wrap (Int.tdiv 2 3))=1 from rfl,show i64.wrap (1+i64.wrap (Int.tdiv 3 3))=2 from rfl,show i64.wrap (2+i64.wrap (Int.tdiv 1 3))=2 from rfl,show i64.wrap (2+i64.wrap (Int.tdiv 3 3))=3 from rfl,ge_iff_le,Int.reduceBEq,reduceLE,reduceSub,decide_true,decide_false,aI,aS,Bool.and_true,Bool.and_false,Bool.true_and,Bool.false_and,ah];generalize (t==[])=a0;generalize (o==[])=a1;cases a0<;>cases a1<;>exact⟨_,rfl,rfl⟩
 by_cases h3:op=3
 ·subst h3;simp only[FOk,M.aK,M.aZ,M.dh,M.bP,M.eX,M.dV,M.dn,M.bU,M.je,M.jK,M.eP,M.kX,M.jM,M.kY,M.jU,M.kD,M.jV,M.kF,M.jW,M.kG,M.lW,M.mW,gG,dH,H6,hp,show i64.wrap (0+1)=1 from rfl,show i64.wrap (1+1)=2 from rfl,show i64.wrap (1+i64.wrap (Int.tdiv 1 3))=1 from rfl,show i64.wrap (1+i64.wrap (Int.tdiv 2 3))=1 from rfl,show i64.wrap (1+i64.wrap (Int.tdiv 3 3))=2 from rfl,show i64.wrap (2+i64.wrap (Int.tdiv 1 3))=2 from rfl,show i64.wrap (2+i64.wrap (Int.tdiv 3 3))=3 from rfl,ge_iff_le,Int.reduceBEq,reduceLE,reduceSub,decide_true,decide_false,aI,aS,Bool.and_true,Bool.and_false,Bool.true_and,Bool.false_and,ah];generalize (t==[])=a0;generalize (o==[])=a1;cases a0<;>cases a1<;>exact⟨_,rfl,rfl⟩
 have e1:(op==1)=false:=by simpa using h1
 have e2:(op==2)=false:=by simpa using h2
 have e3:(op==3)=false:=by simpa using h3
 have hf:(decide ((1:Int)<=op) && decide (op<=3))=false:=by rw[Bool.and_eq_false_iff,decide_eq_false_iff_not,decide_eq_false_iff_not];omega
 simp only[FOk,M.aK,M.aZ,M.dh,M.bP,M.eX,M.dV,M.dn,M.bU,M.je,M.jK,M.eP,M.kX,M.jM,M.kY,M.jU,M.kD,M.jV,M.kF,M.jW,M.kG,M.lW,M.mW,gG,dH,H6,hp,e1,e2,e3,hf,ge_iff_le,Int.reduceBEq,reduceLE,reduceSub,decide_true,decide_false,aI,aS,Bool.and_true,Bool.and_false,Bool.true_and,Bool.false_and,ah];generalize (t==[])=a0;generalize (o==[])=a1;cases a0<;>cases a1<;>exact⟨_,rfl,rfl⟩
def aZ7(op:Int)(t o:aB)(kids:aA)(ht:t.length<=1048576)(ho:o.length<=1048576)(hk:kids.length<=400):FOk 43 op t o kids:=by
 have hp:=Zj o [[],[62],[62,62],[124]] (by decide);rw[abD] at hp
 by_cases h1:op=1
 ·subst h1;simp only[FOk,M.aK,M.aZ,M.dh,M.bP,M.eX,M.dV,M.dn,M.bU,M.je,M.jK,M.eP,M.kX,M.jM,M.kY,M.jU,M.kD,M.jV,M.kF,M.jW,M.kG,M.lW,M.mW,gG,dH,H6,hp,show i64.wrap (0+1)=1 from rfl,show i64.wrap (1+1)=2 from rfl,show i64.wrap (1+i64.wrap (Int.tdiv 1 3))=1 from rfl,show i64.wrap (1+i64.wrap (Int.tdiv 2 3))=1 from rfl,show i64.wrap (1+i64.wrap (Int.tdiv 3 3))=2 from rfl,show i64.wrap (2+i64.wrap (Int.tdiv 1 3))=2 from rfl,show i64.wrap (2+i64.wrap (Int.tdiv 3 3))=3 from rfl,ge_iff_le,Int.reduceBEq,reduceLE,reduceSub,decide_true,decide_false,aI,aS,Bool.and_true,Bool.and_false,Bool.true_and,Bool.false_and,ah];generalize (t==[])=a0;generalize (o==[])=a1;cases a0<;>cases a1<;>exact⟨_,rfl,rfl⟩
 by_cases h3:op=3
 ·subst h3;simp only[FOk,M.aK,M.aZ,M.dh,M.bP,M.eX,M.dV,M.dn,M.bU,M.je,M.jK,M.eP,M.kX,M.jM,M.kY,M.jU,M.kD,M.jV,M.kF,M.jW,M.kG,M.lW,M.mW,gG,dH,H6,hp,show i64.wrap (0+1)=1 from rfl,show i64.wrap (1+1)=2 from rfl,show i64.wrap (1+i64.wrap (Int.tdiv 1 3))=1 from rfl,show i64.wrap (1+i64.wrap (Int.tdiv 2 3))=1 from rfl,show i64.wrap (1+i64.wrap (Int.tdiv 3 3))=2 from rfl,show i64.wrap (2+i64.wrap (Int.tdiv 1 3))=2 from rfl,show i64.wrap (2+i64.wrap (Int.tdiv 3 3))=3 from rfl,ge_iff_le,Int.reduceBEq,reduceLE,reduceSub,decide_true,decide_false,aI,aS,Bool.and_true,Bool.and_false,Bool.true_and,Bool.false_and,ah];generalize (t==[])=a0;generalize (o==[])=a1;cases a0<;>cases a1<;>exact⟨_,rfl,rfl⟩
 have e1:(op==1)=false:=by simpa using h1
 have e3:(op==3)=false:=by simpa using h3
 have hf:True:=trivial;simp only[FOk,M.aK,M.aZ,M.dh,M.bP,M.eX,M.dV,M.dn,M.bU,M.je,M.jK,M.eP,M.kX,M.jM,M.kY,M.jU,M.kD,M.jV,M.kF,M.jW,M.kG,M.lW,M.mW,gG,dH,H6,hp,e1,e3,hf,ge_iff_le,Int.reduceBEq,reduceLE,reduceSub,decide_true,decide_false,aI,aS,Bool.and_true,Bool.and_false,Bool.true_and,Bool.false_and,ah];generalize (t==[])=a0;generalize (o==[])=a1;cases a0<;>cases a1<;>exact⟨_,rfl,rfl⟩
def apZ(k:Int)(op:Int)(t o:aB)(kids:aA)(ht:t.length<=1048576)(ho:o.length<=1048576)(hk:kids.length<=400):FOk k op t o kids:=by
 by_cases hkk:k=1∨k=2∨k=3∨k=4∨k=5∨k=6∨k=7∨k=8∨k=9∨k=10∨k=11∨k=12∨k=13∨k=14∨k=15∨k=16∨k=20∨k=22∨k=23∨k=24∨k=25∨k=26∨k=27∨k=28∨k=29∨k=30∨k=31∨k=32∨k=33∨k=34∨k=40∨k=41∨k=44∨k=45
 ·exact aB8 k op t o kids ht ho hk hkk
 by_cases h21:k=21
 ·subst h21;exact aZ5 op t o kids ht ho hk
 by_cases h42:k=42
 ·subst h42;exact aZ6 op t o kids ht ho hk
 by_cases h43:k=43
 ·subst h43;exact aZ7 op t o kids ht ho hk
 have h1:k≠1:=ak;have h2:k≠2:=ak;have h3:k≠3:=ak;have h4:k≠4:=ak;have h5:k≠5:=ak;have h6:k≠6:=ak;have h7:k≠7:=ak;have h8:k≠8:=ak;have h9:k≠9:=ak;have h10:k≠10:=ak;have h11:k≠11:=ak;have h12:k≠12:=ak;have h13:k≠13:=ak;have h14:k≠14:=ak;have h15:k≠15:=ak;have h16:k≠16:=ak;have h20:k≠20:=ak;have h22:k≠22:=ak;have h23:k≠23:=ak;have h24:k≠24:=ak;have h25:k≠25:=ak;have h26:k≠26:=ak;have h27:k≠27:=ak;have h28:k≠28:=ak;have h29:k≠29:=ak;have h30:k≠30:=ak;have h31:k≠31:=ak;have h32:k≠32:=ak;have h33:k≠33:=ak;have h34:k≠34:=ak;have h40:k≠40:=ak;have h41:k≠41:=ak;have h44:k≠44:=ak;have h45:k≠45:=ak;have f1:(decide (k>=1) && decide (k<=16))=false:=by rw[Bool.and_eq_false_iff,decide_eq_false_iff_not,decide_eq_false_iff_not];omega
 have f2:(decide (k>=20) && decide (k<=34))=false:=by rw[Bool.and_eq_false_iff,decide_eq_false_iff_not,decide_eq_false_iff_not];omega
 have f3:(decide (k>=40) && decide (k<=45))=false:=by rw[Bool.and_eq_false_iff,decide_eq_false_iff_not,decide_eq_false_iff_not];omega
 have f4:(decide (k>=1) && decide (k<=15))=false:=by rw[Bool.and_eq_false_iff,decide_eq_false_iff_not,decide_eq_false_iff_not];omega
 have g:(k==16)=false:=by simpa using h16
 have e1:(k==1)=false:=by simpa using h1
 have e2:(k==2)=false:=by simpa using h2
 have e3:(k==3)=false:=by simpa using h3
 have e4:(k==4)=false:=by simpa using h4
 have e5:(k==5)=false:=by simpa using h5
 have e6:(k==6)=false:=by simpa using h6
 have e7:(k==7)=false:=by simpa using h7
 have e8:(k==8)=false:=by simpa using h8
 have e9:(k==9)=false:=by simpa using h9
 have e10:(k==10)=false:=by simpa using h10
 have e11:(k==11)=false:=by simpa using h11
 have e12:(k==12)=false:=by simpa using h12
 have e13:(k==13)=false:=by simpa using h13
 have e14:(k==14)=false:=by simpa using h14
 have e15:(k==15)=false:=by simpa using h15
 have e16:(k==16)=false:=by simpa using h16
 have e20:(k==20)=false:=by simpa using h20
 have e21:(k==21)=false:=by simpa using h21
 have e22:(k==22)=false:=by simpa using h22
 have e23:(k==23)=false:=by simpa using h23
 have e24:(k==24)=false:=by simpa using h24
 have e25:(k==25)=false:=by simpa using h25
 have e26:(k==26)=false:=by simpa using h26
 have e27:(k==27)=false:=by simpa using h27
 have e28:(k==28)=false:=by simpa using h28
 have e29:(k==29)=false:=by simpa using h29
 have e30:(k==30)=false:=by simpa using h30
 have e31:(k==31)=false:=by simpa using h31
 have e32:(k==32)=false:=by simpa using h32
 have e33:(k==33)=false:=by simpa using h33
 have e34:(k==34)=false:=by simpa using h34
 have e40:(k==40)=false:=by simpa using h40
 have e41:(k==41)=false:=by simpa using h41
 have e42:(k==42)=false:=by simpa using h42
 have e43:(k==43)=false:=by simpa using h43
 have e44:(k==44)=false:=by simpa using h44
 have e45:(k==45)=false:=by simpa using h45
 simp only[FOk,M.aK,M.aZ,M.dh,M.bP,M.je,M.jK,M.eP,M.kX,M.jM,M.kY,gG,dH,f1,f2,f3,f4,e1,e2,e3,e4,e5,e6,e7,e8,e9,e10,e11,e12,e13,e14,e15,e16,e20,e21,e22,e23,e24,e25,e26,e27,e28,e29,e30,e31,e32,e33,e34,e40,e41,e42,e43,e44,e45,aS,ah];exact⟨false,rfl,rfl⟩
end Go.Proofs.YtbgadfelmhoheaaGreatDoor
namespace Go.Proofs.YtbgadfelmhoheaaGreatDoor
set_option linter.unusedVariables false
set_option linter.unusedSimpArgs false
set_option linter.unusedSectionVars false
open Go Go.Vm
open Go.IntKind (i64)
open Int (reduceLE reduceLT reduceSub reduceAdd)
structure Cons(k op:Int)(n:Nat):Prop where
 two:k=29∨k=30->n=2
 four:k=31->n=4
 rule:k=42->(op=1∧n=1)∨(op=2∧n=1)∨(op=3∧n=2)
 range:k=43->(op=1∧n=2)∨(op=3∧n=3)
def bbQ(op:Int)(t o:aB)(kids:aA)(h:M.aK 29 op t o kids=some true):kids.length=2:=by simp only[M.aK,M.aZ,M.dh,M.bP,M.eX,M.dV,M.dn,M.bU,gG,dH,Int.reduceBEq,reduceLE,reduceLT,reduceSub,reduceAdd,fO,ah] at h;revert h;cases op==0<;>cases t==[]<;>cases o==[]<;>simp<;>omega
def bbR(op:Int)(t o:aB)(kids:aA)(h:M.aK 30 op t o kids=some true):kids.length=2:=by simp only[M.aK,M.aZ,M.dh,M.bP,M.eX,M.dV,M.dn,M.bU,gG,dH,Int.reduceBEq,reduceLE,reduceLT,reduceSub,reduceAdd,fO,ah] at h;revert h;cases op==0<;>cases t==[]<;>cases o==[]<;>simp<;>omega
def bbS(op:Int)(t o:aB)(kids:aA)(h:M.aK 31 op t o kids=some true):kids.length=4:=by simp only[M.aK,M.aZ,M.dh,M.bP,M.eX,M.dV,M.dn,M.bU,gG,dH,Int.reduceBEq,reduceLE,reduceLT,reduceSub,reduceAdd,fO,ah] at h;revert h;cases op==0<;>cases t==[]<;>cases o==[]<;>simp<;>omega
def bbT(op:Int)(t o:aB)(kids:aA)(h:M.aK 42 op t o kids=some true):(op=1∧kids.length=1)∨(op=2∧kids.length=1)∨(op=3∧kids.length=2):=by
 by_cases h1:op=1
 ·subst h1;simp only[M.aK,M.aZ,M.dh,M.bP,M.eX,M.dV,M.dn,M.bU,gG,dH,show i64.wrap (1+i64.wrap (Int.tdiv 1 3))=1 from rfl,show i64.wrap (1+i64.wrap (Int.tdiv 2 3))=1 from rfl,show i64.wrap (1+i64.wrap (Int.tdiv 3 3))=2 from rfl,show i64.wrap (2+i64.wrap (Int.tdiv 1 3))=2 from rfl,show i64.wrap (2+i64.wrap (Int.tdiv 3 3))=3 from rfl,Int.reduceBEq,reduceLE,reduceLT,reduceSub,reduceAdd,fO,ah] at h;revert h;cases t==[]<;>cases o==[]<;>simp<;>omega
 have e1:(op==1)=false:=by simpa using h1
 by_cases h2:op=2
 ·subst h2;simp only[M.aK,M.aZ,M.dh,M.bP,M.eX,M.dV,M.dn,M.bU,gG,dH,show i64.wrap (1+i64.wrap (Int.tdiv 1 3))=1 from rfl,show i64.wrap (1+i64.wrap (Int.tdiv 2 3))=1 from rfl,show i64.wrap (1+i64.wrap (Int.tdiv 3 3))=2 from rfl,show i64.wrap (2+i64.wrap (Int.tdiv 1 3))=2 from rfl,show i64.wrap (2+i64.wrap (Int.tdiv 3 3))=3 from rfl,Int.reduceBEq,reduceLE,reduceLT,reduceSub,reduceAdd,fO,ah] at h;revert h;cases t==[]<;>cases o==[]<;>simp<;>omega
 have e2:(op==2)=false:=by simpa using h2
 by_cases h3:op=3
 ·subst h3;simp only[M.aK,M.aZ,M.dh,M.bP,M.eX,M.dV,M.dn,M.bU,gG,dH,show i64.wrap (1+i64.wrap (Int.tdiv 1 3))=1 from rfl,show i64.wrap (1+i64.wrap (Int.tdiv 2 3))=1 from rfl,show i64.wrap (1+i64.wrap (Int.tdiv 3 3))=2 from rfl,show i64.wrap (2+i64.wrap (Int.tdiv 1 3))=2 from rfl,show i64.wrap (2+i64.wrap (Int.tdiv 3 3))=3 from rfl,Int.reduceBEq,reduceLE,reduceLT,reduceSub,reduceAdd,fO,ah] at h;revert h;cases t==[]<;>cases o==[]<;>simp<;>omega
 have e3:(op==3)=false:=by simpa using h3
 have hf:(decide ((1:Int)<=op) && decide (op<=3))=false:=by rw[Bool.and_eq_false_iff,decide_eq_false_iff_not,decide_eq_false_iff_not];omega
 simp only[M.aK,M.aZ,M.dh,M.bP,M.eX,M.dV,M.dn,M.bU,gG,dH,e1,e2,e3,hf,Int.reduceBEq,reduceLE,reduceLT,reduceSub,reduceAdd,fO,ah] at h;cases h
def bbU(op:Int)(t o:aB)(kids:aA)(h:M.aK 43 op t o kids=some true):(op=1∧kids.length=2)∨(op=3∧kids.length=3):=by
 by_cases h1:op=1
 ·subst h1;simp only[M.aK,M.aZ,M.dh,M.bP,M.eX,M.dV,M.dn,M.bU,gG,dH,show i64.wrap (1+i64.wrap (Int.tdiv 1 3))=1 from rfl,show i64.wrap (1+i64.wrap (Int.tdiv 2 3))=1 from rfl,show i64.wrap (1+i64.wrap (Int.tdiv 3 3))=2 from rfl,show i64.wrap (2+i64.wrap (Int.tdiv 1 3))=2 from rfl,show i64.wrap (2+i64.wrap (Int.tdiv 3 3))=3 from rfl,Int.reduceBEq,reduceLE,reduceLT,reduceSub,reduceAdd,fO,ah] at h;revert h;cases t==[]<;>cases o==[]<;>simp<;>omega
 have e1:(op==1)=false:=by simpa using h1
 by_cases h3:op=3
 ·subst h3;simp only[M.aK,M.aZ,M.dh,M.bP,M.eX,M.dV,M.dn,M.bU,gG,dH,show i64.wrap (1+i64.wrap (Int.tdiv 1 3))=1 from rfl,show i64.wrap (1+i64.wrap (Int.tdiv 2 3))=1 from rfl,show i64.wrap (1+i64.wrap (Int.tdiv 3 3))=2 from rfl,show i64.wrap (2+i64.wrap (Int.tdiv 1 3))=2 from rfl,show i64.wrap (2+i64.wrap (Int.tdiv 3 3))=3 from rfl,Int.reduceBEq,reduceLE,reduceLT,reduceSub,reduceAdd,fO,ah] at h;revert h;cases t==[]<;>cases o==[]<;>simp<;>omega
 have e3:(op==3)=false:=by simpa using h3
 have hf:True:=trivial;simp only[M.aK,M.aZ,M.dh,M.bP,M.eX,M.dV,M.dn,M.bU,gG,dH,e1,e3,hf,Int.reduceBEq,reduceLE,reduceLT,reduceSub,reduceAdd,fO,ah] at h;cases h
def amB{k op:Int}{t o:aB}{kids:aA}(h:M.aK k op t o kids=some true):Cons k op kids.length:=
 ⟨λe=>(by rcases e with rfl|rfl;exact bbQ op t o kids h;exact bbR op t o kids h),λe=>(by subst e;exact bbS op t o kids h),λe=>(by subst e;exact bbT op t o kids h),λe=>(by subst e;exact bbU op t o kids h)⟩
def LZ(k:Int):Bool:=decide (1<=k) && decide (k<=15)
def XY(k:Int):Bool:=k==1||(k==5||k==6)
def acS(k:Int):Bool:=decide (20<=k) && decide (k<=34)
def isIt(k:Int):Bool:=decide (40<=k) && decide (k<=44)
def iF(k:Int):M.jh k=some (LZ k)∧M.eP k=some (LZ k):=by simp only[M.jh,M.Sz,M.eP,M.kX,gG,dH,ah,LZ,ge_iff_le];constructor<;>first|rfl|trivial
def iG(k:Int):M.Fb k=some (acS k)∧M.jM k=some (acS k):=by simp only[M.Fb,M.SA,M.jM,M.kY,gG,dH,ah,acS,ge_iff_le];constructor<;>first|rfl|trivial
def iH(k:Int):M.bF k 40 44=some (isIt k)∧M.Fe k=some (isIt k):=by simp only[M.Fe,M.Tc,gG,dH,ah,isIt,ge_iff_le];constructor<;>first|rfl|trivial
def eu(k:Int):M.rW k=some (XY k)∧M.rZ k=some (XY k):=by simp only[M.rW,M.MZ,M.rZ,M.NT,XY];cases k==1<;>cases k==5<;>exact⟨rfl,rfl⟩
def aZ8(k:Int):XY k=(LZ k && XY k):=by
 by_cases h1:k=1
 ·subst h1;rfl
 by_cases h5:k=5
 ·subst h5;rfl
 by_cases h6:k=6
 ·subst h6;rfl
 have e:XY k=false:=by simp[XY,h1,h5,h6]
 rw[e,Bool.and_false]
def XZ(k op:Int)(t o:aB)(kids:aA)(j d:Int):Prop:=∃b,M.bI k op t o kids j d=some b∧M.fQ k op t o kids j d=some b
def LC(k:Int)(op:Int)(t o:aB)(kids:aA)(j d:Int)(h0:0<=j)(h1:j<kids.length)(hk:kids.length<=400)(hc:Cons k op kids.length)(hx:k=1∨k=2∨k=3∨k=4∨k=5∨k=6∨k=7∨k=8∨k=11∨k=12∨k=13∨k=14∨k=16∨k=20∨k=21∨k=22∨k=23∨k=24∨k=25∨k=26∨k=27∨k=34):XZ k op t o kids j d:=by
 rcases hx with rfl|rfl|rfl|rfl|rfl|rfl|rfl|rfl|rfl|rfl|rfl|rfl|rfl|rfl|rfl|rfl|rfl|rfl|rfl|rfl|rfl|rfl
 all_goals
  simp only[XZ,M.bI,M.cO,M.fQ,M.eY,iF,iG,iH,eu,Int.reduceBEq,reduceLE,reduceLT,reduceSub,reduceAdd,fO,ah];generalize (LZ d)=a0;cases a0<;>exact⟨_,rfl,rfl⟩
def aEj(k:Int)(op:Int)(t o:aB)(kids:aA)(j d:Int)(h0:0<=j)(h1:j<kids.length)(hk:kids.length<=400)(hc:Cons k op kids.length)(hx:k=9∨k=10):XZ k op t o kids j d:=by
 rcases hx with rfl|rfl
 all_goals
  simp only[XZ,M.bI,M.cO,M.fQ,M.eY,iF,iG,iH,eu,Int.reduceBEq,reduceLE,reduceLT,reduceSub,reduceAdd,fO,ah];generalize (XY d)=a0;cases a0<;>exact⟨_,rfl,rfl⟩
def aZ9(op:Int)(t o:aB)(kids:aA)(j d:Int)(h0:0<=j)(h1:j<kids.length)(hk:kids.length<=400)(hc:Cons 15 op kids.length):XZ 15 op t o kids j d:=by
 by_cases hj:j=0
 ·subst hj;have hl:=aZ8 d;simp only[XZ,M.bI,M.cO,M.fQ,M.eY,iF,iG,iH,eu,Int.reduceBEq,reduceLE,reduceLT,reduceSub,reduceAdd,fO,ah];revert hl;cases LZ d<;>cases XY d<;>intro hl<;>first|exact⟨_,rfl,rfl⟩|cases hl
 have e0:(j==0)=false:=by simpa using hj
 have e1:decide (0<j)=true:=zdt ak;simp only[XZ,M.bI,M.cO,M.fQ,M.eY,iF,iG,iH,eu,e0,e1,Int.reduceBEq,reduceLE,reduceLT,reduceSub,reduceAdd,fO,ah];generalize (LZ d)=a0;cases a0<;>exact⟨_,rfl,rfl⟩
def a0a(op:Int)(t o:aB)(kids:aA)(j d:Int)(h0:0<=j)(h1:j<kids.length)(hk:kids.length<=400)(hc:Cons 28 op kids.length):XZ 28 op t o kids j d:=by
 by_cases hj:j=0
 ·subst hj;simp only[XZ,M.bI,M.cO,M.fQ,M.eY,iF,iG,iH,eu,Int.reduceBEq,reduceLE,reduceLT,reduceSub,reduceAdd,fO,ah];generalize (LZ d)=a0;generalize (d==33)=a1;cases a0<;>cases a1<;>exact⟨_,rfl,rfl⟩
 have e0:(j==0)=false:=by simpa using hj
 have e1:decide (0<j)=true:=zdt ak;simp only[XZ,M.bI,M.cO,M.fQ,M.eY,iF,iG,iH,eu,e0,e1,Int.reduceBEq,reduceLE,reduceLT,reduceSub,reduceAdd,fO,ah];generalize (d==33)=a0;cases a0<;>exact⟨_,rfl,rfl⟩
def aEk(k:Int)(op:Int)(t o:aB)(kids:aA)(j d:Int)(h0:0<=j)(h1:j<kids.length)(hk:kids.length<=400)(hc:Cons k op kids.length)(hx:k=29∨k=30):XZ k op t o kids j d:=by
 rcases hx with rfl|rfl
 all_goals
  have hl:=hc.two ak;obtain rfl|rfl:j=0∨j=1:=ak
  ·simp only[XZ,M.bI,M.cO,M.fQ,M.eY,iF,iG,iH,eu,Int.reduceBEq,reduceLE,reduceLT,reduceSub,reduceAdd,fO,ah];generalize (LZ d)=a0;generalize (d==33)=a1;cases a0<;>cases a1<;>exact⟨_,rfl,rfl⟩
  ·simp only[XZ,M.bI,M.cO,M.fQ,M.eY,iF,iG,iH,eu,Int.reduceBEq,reduceLE,reduceLT,reduceSub,reduceAdd,fO,ah];generalize (LZ d)=a0;generalize (d==33)=a1;cases a0<;>cases a1<;>exact⟨_,rfl,rfl⟩
def a0b(op:Int)(t o:aB)(kids:aA)(j d:Int)(h0:0<=j)(h1:j<kids.length)(hk:kids.length<=400)(hc:Cons 31 op kids.length):XZ 31 op t o kids j d:=by
 have hl:=hc.four rfl;have hw:i64.wrap ((kids.length:Int) - 1)=3:=by rw[hl];rfl
 obtain rfl|rfl|rfl|rfl:j=0∨j=1∨j=2∨j=3:=ak
 ·simp only[XZ,M.bI,M.cO,M.fQ,M.eY,iF,iG,iH,eu,hw,Int.reduceBEq,reduceLE,reduceLT,reduceSub,reduceAdd,fO,ah];generalize (LZ d)=a0;generalize (d==16)=a1;generalize (d==33)=a2;cases a0<;>cases a1<;>cases a2<;>exact⟨_,rfl,rfl⟩
 ·simp only[XZ,M.bI,M.cO,M.fQ,M.eY,iF,iG,iH,eu,hw,Int.reduceBEq,reduceLE,reduceLT,reduceSub,reduceAdd,fO,ah];generalize (LZ d)=a0;generalize (d==16)=a1;generalize (d==33)=a2;cases a0<;>cases a1<;>cases a2<;>exact⟨_,rfl,rfl⟩
 ·simp only[XZ,M.bI,M.cO,M.fQ,M.eY,iF,iG,iH,eu,hw,Int.reduceBEq,reduceLE,reduceLT,reduceSub,reduceAdd,fO,ah];generalize (LZ d)=a0;generalize (d==16)=a1;generalize (d==33)=a2;cases a0<;>cases a1<;>cases a2<;>exact⟨_,rfl,rfl⟩
 ·simp only[XZ,M.bI,M.cO,M.fQ,M.eY,iF,iG,iH,eu,hw,Int.reduceBEq,reduceLE,reduceLT,reduceSub,reduceAdd,fO,ah];generalize (LZ d)=a0;generalize (d==16)=a1;generalize (d==33)=a2;cases a0<;>cases a1<;>cases a2<;>exact⟨_,rfl,rfl⟩
def ayM(k:Int)(op:Int)(t o:aB)(kids:aA)(j d:Int)(h0:0<=j)(h1:j<kids.length)(hk:kids.length<=400)(hc:Cons k op kids.length)(hx:k=32∨k=40∨k=41):XZ k op t o kids j d:=by
 rcases hx with rfl|rfl|rfl
 all_goals
  simp only[XZ,M.bI,M.cO,M.fQ,M.eY,iF,iG,iH,eu,Int.reduceBEq,reduceLE,reduceLT,reduceSub,reduceAdd,fO,ah];generalize (d==33)=a0;cases a0<;>exact⟨_,rfl,rfl⟩
def a0c(op:Int)(t o:aB)(kids:aA)(j d:Int)(h0:0<=j)(h1:j<kids.length)(hk:kids.length<=400)(hc:Cons 33 op kids.length):XZ 33 op t o kids j d:=by simp only[XZ,M.bI,M.cO,M.fQ,M.eY,iF,iG,iH,eu,Int.reduceBEq,reduceLE,reduceLT,reduceSub,reduceAdd,fO,ah];generalize (acS d)=a0;cases a0<;>exact⟨_,rfl,rfl⟩
def a0d(op:Int)(t o:aB)(kids:aA)(j d:Int)(h0:0<=j)(h1:j<kids.length)(hk:kids.length<=400)(hc:Cons 42 op kids.length):XZ 42 op t o kids j d:=by
 rcases hc.rule rfl with⟨rfl,hl⟩|⟨rfl,hl⟩|⟨rfl,hl⟩
 ·have hw:i64.wrap ((kids.length:Int) - 1)=0:=by rw[hl];rfl
  obtain rfl:j=0:=ak;simp only[XZ,M.bI,M.cO,M.fQ,M.eY,iF,iG,iH,eu,hw,Int.reduceBEq,reduceLE,reduceLT,reduceSub,reduceAdd,fO,ah];generalize (LZ d)=a0;generalize (d==33)=a1;cases a0<;>cases a1<;>exact⟨_,rfl,rfl⟩
 ·have hw:i64.wrap ((kids.length:Int) - 1)=0:=by rw[hl];rfl
  obtain rfl:j=0:=ak;simp only[XZ,M.bI,M.cO,M.fQ,M.eY,iF,iG,iH,eu,hw,Int.reduceBEq,reduceLE,reduceLT,reduceSub,reduceAdd,fO,ah];generalize (LZ d)=a0;generalize (d==33)=a1;cases a0<;>cases a1<;>exact⟨_,rfl,rfl⟩
 ·have hw:i64.wrap ((kids.length:Int) - 1)=1:=by rw[hl];rfl
  obtain rfl|rfl:j=0∨j=1:=ak
  ·simp only[XZ,M.bI,M.cO,M.fQ,M.eY,iF,iG,iH,eu,hw,Int.reduceBEq,reduceLE,reduceLT,reduceSub,reduceAdd,fO,ah];generalize (LZ d)=a0;generalize (d==33)=a1;cases a0<;>cases a1<;>exact⟨_,rfl,rfl⟩
  ·simp only[XZ,M.bI,M.cO,M.fQ,M.eY,iF,iG,iH,eu,hw,Int.reduceBEq,reduceLE,reduceLT,reduceSub,reduceAdd,fO,ah];generalize (LZ d)=a0;generalize (d==33)=a1;cases a0<;>cases a1<;>exact⟨_,rfl,rfl⟩
def a0e(op:Int)(t o:aB)(kids:aA)(j d:Int)(h0:0<=j)(h1:j<kids.length)(hk:kids.length<=400)(hc:Cons 43 op kids.length):XZ 43 op t o kids j d:=by
 rcases hc.range rfl with⟨rfl,hl⟩|⟨rfl,hl⟩
 ·have hw:i64.wrap ((kids.length:Int) - 1)=1:=by rw[hl];rfl
  obtain rfl|rfl:j=0∨j=1:=ak
  ·simp only[XZ,M.bI,M.cO,M.fQ,M.eY,iF,iG,iH,eu,hw,Int.reduceBEq,reduceLE,reduceLT,reduceSub,reduceAdd,fO,ah];generalize (LZ d)=a0;generalize (d==33)=a1;cases a0<;>cases a1<;>exact⟨_,rfl,rfl⟩
  ·simp only[XZ,M.bI,M.cO,M.fQ,M.eY,iF,iG,iH,eu,hw,Int.reduceBEq,reduceLE,reduceLT,reduceSub,reduceAdd,fO,ah];generalize (LZ d)=a0;generalize (d==33)=a1;cases a0<;>cases a1<;>exact⟨_,rfl,rfl⟩
 ·have hw:i64.wrap ((kids.length:Int) - 1)=2:=by rw[hl];rfl
  obtain rfl|rfl|rfl:j=0∨j=1∨j=2:=ak
  ·simp only[XZ,M.bI,M.cO,M.fQ,M.eY,iF,iG,iH,eu,hw,Int.reduceBEq,reduceLE,reduceLT,reduceSub,reduceAdd,fO,ah];generalize (LZ d)=a0;generalize (d==33)=a1;cases a0<;>cases a1<;>exact⟨_,rfl,rfl⟩
  ·simp only[XZ,M.bI,M.cO,M.fQ,M.eY,iF,iG,iH,eu,hw,Int.reduceBEq,reduceLE,reduceLT,reduceSub,reduceAdd,fO,ah];generalize (LZ d)=a0;generalize (d==33)=a1;cases a0<;>cases a1<;>exact⟨_,rfl,rfl⟩
  ·simp only[XZ,M.bI,M.cO,M.fQ,M.eY,iF,iG,iH,eu,hw,Int.reduceBEq,reduceLE,reduceLT,reduceSub,reduceAdd,fO,ah];generalize (LZ d)=a0;generalize (d==33)=a1;cases a0<;>cases a1<;>exact⟨_,rfl,rfl⟩
def a0f(op:Int)(t o:aB)(kids:aA)(j d:Int)(h0:0<=j)(h1:j<kids.length)(hk:kids.length<=400)(hc:Cons 44 op kids.length):XZ 44 op t o kids j d:=by simp only[XZ,M.bI,M.cO,M.fQ,M.eY,iF,iG,iH,eu,Int.reduceBEq,reduceLE,reduceLT,reduceSub,reduceAdd,fO,ah];generalize (j==i64.wrap ((kids.length:Int) - 1))=a0;generalize (d==33)=a1;generalize (d==1)=a2;cases a0<;>cases a1<;>cases a2<;>exact⟨_,rfl,rfl⟩
def a0g(op:Int)(t o:aB)(kids:aA)(j d:Int)(h0:0<=j)(h1:j<kids.length)(hk:kids.length<=400)(hc:Cons 45 op kids.length):XZ 45 op t o kids j d:=by simp only[XZ,M.bI,M.cO,M.fQ,M.eY,iF,iG,iH,eu,Int.reduceBEq,reduceLE,reduceLT,reduceSub,reduceAdd,fO,ah];generalize (isIt d)=a0;generalize (d==34)=a1;cases a0<;>cases a1<;>exact⟨_,rfl,rfl⟩
def aHP(k:Int)(op:Int)(t o:aB)(kids:aA)(j d:Int)(hj0:0<=j)(hj1:j<kids.length)(hk:kids.length<=400)(hc:Cons k op kids.length):XZ k op t o kids j d:=by
 by_cases h1:k=1
 ·subst h1;exact LC _ op t o kids j d hj0 hj1 hk hc ak
 by_cases h2:k=2
 ·subst h2;exact LC _ op t o kids j d hj0 hj1 hk hc ak
 by_cases h3:k=3
 ·subst h3;exact LC _ op t o kids j d hj0 hj1 hk hc ak
 by_cases h4:k=4
 ·subst h4;exact LC _ op t o kids j d hj0 hj1 hk hc ak
 by_cases h5:k=5
 ·subst h5;exact LC _ op t o kids j d hj0 hj1 hk hc ak
 by_cases h6:k=6
 ·subst h6;exact LC _ op t o kids j d hj0 hj1 hk hc ak
 by_cases h7:k=7
 ·subst h7;exact LC _ op t o kids j d hj0 hj1 hk hc ak
 by_cases h8:k=8
 ·subst h8;exact LC _ op t o kids j d hj0 hj1 hk hc ak
 by_cases h9:k=9
 ·subst h9;exact aEj _ op t o kids j d hj0 hj1 hk hc ak
 by_cases h10:k=10
 ·subst h10;exact aEj _ op t o kids j d hj0 hj1 hk hc ak
 by_cases h11:k=11
 ·subst h11;exact LC _ op t o kids j d hj0 hj1 hk hc ak
 by_cases h12:k=12
 ·subst h12;exact LC _ op t o kids j d hj0 hj1 hk hc ak
 by_cases h13:k=13
 ·subst h13;exact LC _ op t o kids j d hj0 hj1 hk hc ak
 by_cases h14:k=14
 ·subst h14;exact LC _ op t o kids j d hj0 hj1 hk hc ak
 by_cases h15:k=15
 ·subst h15;exact aZ9 op t o kids j d hj0 hj1 hk hc
 by_cases h16:k=16
 ·subst h16;exact LC _ op t o kids j d hj0 hj1 hk hc ak
 by_cases h20:k=20
 ·subst h20;exact LC _ op t o kids j d hj0 hj1 hk hc ak
 by_cases h21:k=21
 ·subst h21;exact LC _ op t o kids j d hj0 hj1 hk hc ak
 by_cases h22:k=22
 ·subst h22;exact LC _ op t o kids j d hj0 hj1 hk hc ak
 by_cases h23:k=23
 ·subst h23;exact LC _ op t o kids j d hj0 hj1 hk hc ak
 by_cases h24:k=24
 ·subst h24;exact LC _ op t o kids j d hj0 hj1 hk hc ak
 by_cases h25:k=25
 ·subst h25;exact LC _ op t o kids j d hj0 hj1 hk hc ak
 by_cases h26:k=26
 ·subst h26;exact LC _ op t o kids j d hj0 hj1 hk hc ak
 by_cases h27:k=27
 ·subst h27;exact LC _ op t o kids j d hj0 hj1 hk hc ak
 by_cases h28:k=28
 ·subst h28;exact a0a op t o kids j d hj0 hj1 hk hc
 by_cases h29:k=29
 ·subst h29;exact aEk _ op t o kids j d hj0 hj1 hk hc ak
 by_cases h30:k=30
 ·subst h30;exact aEk _ op t o kids j d hj0 hj1 hk hc ak
 by_cases h31:k=31
 ·subst h31;exact a0b op t o kids j d hj0 hj1 hk hc
 by_cases h32:k=32
 ·subst h32;exact ayM _ op t o kids j d hj0 hj1 hk hc ak
 by_cases h33:k=33
 ·subst h33;exact a0c op t o kids j d hj0 hj1 hk hc
 by_cases h34:k=34
 ·subst h34;exact LC _ op t o kids j d hj0 hj1 hk hc ak
 by_cases h40:k=40
 ·subst h40;exact ayM _ op t o kids j d hj0 hj1 hk hc ak
 by_cases h41:k=41
 ·subst h41;exact ayM _ op t o kids j d hj0 hj1 hk hc ak
 by_cases h42:k=42
 ·subst h42;exact a0d op t o kids j d hj0 hj1 hk hc
 by_cases h43:k=43
 ·subst h43;exact a0e op t o kids j d hj0 hj1 hk hc
 by_cases h44:k=44
 ·subst h44;exact a0f op t o kids j d hj0 hj1 hk hc
 by_cases h45:k=45
 ·subst h45;exact a0g op t o kids j d hj0 hj1 hk hc
 have e1:(k==1)=false:=by simpa using h1
 have e2:(k==2)=false:=by simpa using h2
 have e3:(k==3)=false:=by simpa using h3
 have e4:(k==4)=false:=by simpa using h4
 have e5:(k==5)=false:=by simpa using h5
 have e6:(k==6)=false:=by simpa using h6
 have e7:(k==7)=false:=by simpa using h7
 have e8:(k==8)=false:=by simpa using h8
 have e9:(k==9)=false:=by simpa using h9
 have e10:(k==10)=false:=by simpa using h10
 have e11:(k==11)=false:=by simpa using h11
 have e12:(k==12)=false:=by simpa using h12
 have e13:(k==13)=false:=by simpa using h13
 have e14:(k==14)=false:=by simpa using h14
 have e15:(k==15)=false:=by simpa using h15
 have e16:(k==16)=false:=by simpa using h16
 have e20:(k==20)=false:=by simpa using h20
 have e21:(k==21)=false:=by simpa using h21
 have e22:(k==22)=false:=by simpa using h22
 have e23:(k==23)=false:=by simpa using h23
 have e24:(k==24)=false:=by simpa using h24
 have e25:(k==25)=false:=by simpa using h25
 have e26:(k==26)=false:=by simpa using h26
 have e27:(k==27)=false:=by simpa using h27
 have e28:(k==28)=false:=by simpa using h28
 have e29:(k==29)=false:=by simpa using h29
 have e30:(k==30)=false:=by simpa using h30
 have e31:(k==31)=false:=by simpa using h31
 have e32:(k==32)=false:=by simpa using h32
 have e33:(k==33)=false:=by simpa using h33
 have e34:(k==34)=false:=by simpa using h34
 have e40:(k==40)=false:=by simpa using h40
 have e41:(k==41)=false:=by simpa using h41
 have e42:(k==42)=false:=by simpa using h42
 have e43:(k==43)=false:=by simpa using h43
 have e44:(k==44)=false:=by simpa using h44
 have e45:(k==45)=false:=by simpa using h45
 simp only[XZ,M.bI,M.cO,M.fQ,M.eY,iF,iG,iH,eu,e1,e2,e3,e4,e5,e6,e7,e8,e9,e10,e11,e12,e13,e14,e15,e16,e20,e21,e22,e23,e24,e25,e26,e27,e28,e29,e30,e31,e32,e33,e34,e40,e41,e42,e43,e44,e45,aS,ah];exact⟨_,rfl,rfl⟩
end Go.Proofs.YtbgadfelmhoheaaGreatDoor
namespace Go.Proofs.YtbgadfelmhoheaaGreatDoor
set_option linter.unusedVariables false
set_option linter.unusedSimpArgs false
open Go Go.Vm
open Go.IntKind (i64)
open Int (reduceLE reduceLT reduceSub reduceAdd)
def wN(n:Nd):Nat:=n.text.length+n.other.length+n.kids.length
def wNs:List Nd->Nat
 |[]=>0
 |n::l=>wN n+wNs l
def auC(k:List Int)(L:Int)(h0:0<=L)(h1:L<=1048576)(hk:k.length<=maxLen):M.EZ (encI k) L=some (if(k.length:Int)<=L then L - k.length else -1):=by
 unfold maxLen at hk;simp only[M.EZ,M.RU,aU];rw[aC ak ak]
 by_cases h:(k.length:Int)<=L
 ·rw[nZ ak,if_pos h];rfl
 ·rw[zdt ak,if_neg h];rfl
def auD(n:Nd)(o:Bool)(L:Int)(h0:0<=L)(h1:L<=1048576)(ht:n.text.length<=maxLen)(ho:n.other.length<=maxLen)(hk:n.kids.length<=maxLen):
  M.E5 n.kind n.op n.text n.other (encI n.kids) L=some (if(wN n:Int)<=L then L - wN n else -1):=by
 have ht':=ht;have ho':=ho;have hk':=hk;unfold maxLen at ht' ho' hk';have hwn:wN n=n.text.length+n.other.length+n.kids.length:=rfl;simp only[M.E5,M.RV];rw[aC (n:=L - n.text.length) ak ak]
 by_cases c1:(n.text.length:Int)<=L
 ·rw[nZ ak,aS,aC ak ak]
  by_cases c2:(n.other.length:Int)<=L - n.text.length
  ·rw[nZ ak,aS,auC _ _ ak ak hk,ah]
   by_cases c3:(n.kids.length:Int)<=L - n.text.length - n.other.length
   ·rw[if_pos c3,nZ ak,aS,if_pos ak];congr 1;omega
   ·rw[if_neg c3,zdt ak,aI,if_neg ak]
  ·rw[zdt ak,aI,if_neg ak]
 ·rw[zdt ak,aI,if_neg ak]
def ayN(l:List Nd)(len:Nat):∀w:Int,0<=w->ahp (fun(w:Int) (n:Nd)=>(if(wN n:Int)<=w then .inl (w - wN n) else .inr (.inl ()):Int⊕(Unit⊕(Int×Int)))) (λw=> .inr (w,(len:Int))) l w=
  if(wNs l:Int)<=w then .inr (w - wNs l,(len:Int)) else .inl ():=by
 induction l with
 |nil=>intro w h;simp[ahp,wNs,h]
 |cons n l ih=>
  intro w h;have hw:wNs (n::l)=wN n+wNs l:=rfl;simp only[ahp]
  by_cases c:(wN n:Int)<=w
  ·rw[if_pos c];simp only;rw[ih (w - wN n) ak]
   by_cases c2:(wNs l:Int)<=w - wN n
   ·rw[if_pos c2,if_pos ak];congr 2;omega
   ·rw[if_neg c2,if_neg ak]
  ·rw[if_neg c,if_neg ak]
def arG(l:List Nd)(o:Bool)(L:Int)(h0:0<=L)(h1:L<=1048576)(hl:l.length<=maxLen)(hf:∀n,n∈l->Fit n):
  M.AP (aT o l) L=some (if(l.length+wNs l:Int)<=L then L - l.length - wNs l else -1):=by
 unfold maxLen at hl;simp only[M.AP,M.O9,dW];rw[aC ak ak]
 by_cases c:(l.length:Int)<=L
 ·rw[nZ ak,aS];have hloop:=aru (M.Ie (aT o l)) l (λi (w:Int)=>(w,(i:Int)))
   (fun(w:Int) (n:Nd)=>(if(wN n:Int)<=w then .inl (w - wN n) else .inr (.inl ()):Int⊕(Unit⊕(Int×Int)))) (λw=> .inr (w,(l.length:Int))) (λ_ w=>0<=w∧w<=1048576)
   (by
    intro i n w hi hw;have hlt:=(Md.1 hi).1;have hfn:=hf n (zZ hi);simp only[iY,M.Ie,M.Bo,dW,aW,kZ,hi,Jb,ah,Ji,Me,LV,MB,GI];rw[zdt ak,aI,auD n o w hw.1 hw.2 hfn.text hfn.other hfn.kids,ah]
    by_cases c2:(wN n:Int)<=w
    ·rw[if_pos c2,nZ ak,aS,if_pos c2,aC ak ak];simp
    ·rw[if_neg c2,zdt ak,aI,if_neg c2])
   (by
    intro i n w w' hi hw he
    by_cases c2:(wN n:Int)<=w
    ·simp only[c2,if_true,Sum.inl.injEq] at he;omega
    ·simp[c2] at he)
   (by intro w hw;simp only[iY,M.Ie,M.Bo,dW];rw[nZ ak,aS])
   (L - l.length) ak
  have h0':((0:Nat):Int)=0:=rfl;simp only[h0'] at hloop;rw[M.MO,hloop,ah,ayN l l.length _ ak]
  by_cases c2:(wNs l:Int)<=L - l.length
  ·rw[if_pos c2,if_pos ak];rfl
  ·rw[if_neg c2,if_neg ak];rfl
 ·rw[zdt ak,aI,if_neg ak]
def as8{l:List Nd}{n:Nd}(h:n∈l):wN n<=wNs l:=by
 induction l with
 |nil=>simp at h
 |cons m l ih=>
  have hw:wNs (m::l)=wN m+wNs l:=rfl;rcases List.mem_cons.1 h with rfl|h
  ·omega
  ·have:=ih h;omega
def ajM{α:Type}(a:List α)(b:List α)(x y:α):(a++x::b).set a.length y=a++y::b:=by
 induction a with
 |nil=>rfl
 |cons z a ih=>simp[ih]
def filled{α β:Type}(f:α->β)(z:β)(l:List α)(i:Nat):List β:=(l.take i).map f++List.replicate (l.length - i) z
def ae8{α β:Type}(f:α->β)(z:β)(l:List α):filled f z l 0=List.replicate l.length z:=by simp[filled]
def aic{α β:Type}(f:α->β)(z:β)(l:List α):filled f z l l.length=l.map f:=by simp[filled]
def aie{α β:Type}(f:α->β)(z:β)(l:List α){i:Nat}(h:i<l.length):(filled f z l i)[i]? =some z:=by unfold filled;rw[List.getElem?_append_right (by simp;omega)];simp[List.getElem?_replicate];omega
def aif{α β:Type}(f:α->β)(z:β)(l:List α){i:Nat}{x:α}(h:l[i]? =some x):(filled f z l i).set i (f x)=filled f z l (i+1):=by
 have hlt:=(Md.1 h).1;unfold filled;have hn:l.length - i=(l.length - (i+1))+1:=ak;rw[hn,List.replicate_succ];have hl:((l.take i).map f).length=i:=by simp;omega
 have:=ajM ((l.take i).map f) (List.replicate (l.length - (i+1)) z) z (f x);rw[hl] at this;rw[this,List.take_add_one,h];simp
def auE(k:List Int)(hk:k.length<=1048576):M.E8 (encI k)=some (encI k):=by
 simp only[M.E8,M.RX,aU];rw[zdt ak,zdt ak,zdt ak,zdt ak];simp only[Bool.and_true,aI,U0];have hloop:=fJ (b:=M.J8 (encI k)) (t:=((k.length:Int),encI k)) (λi=>((i:Int),filled (λx=>[D.int .i64 x]) [D.int .i64 0] k i)) k.length
  (by
   intro i hi;obtain⟨x,hx⟩:∃x,k[i]? =some x:=⟨k[i],by simp[hi]⟩
   simp only[M.J8,M.Ec,aU,aW,lG,hx,Jb,ah,Lu,U0,aie _ _ k hi];rw[zdt ak,aI,aC ak ak];have hs:splice [D.int IntKind.i64 0] 0 [D.int IntKind.i64 x]=[D.int IntKind.i64 x]:=rfl;rw[hs,aif (λx=>[D.int .i64 x]) _ k hx];simp)
  (by simp only[M.J8,M.Ec,aU];rw[nZ ak,aS,aic];rfl) 0 (Nat.zero_le _)
 rw[M.Pg];simp only[ae8] at hloop;have h0':((0:Nat):Int)=0:=rfl;rw[h0'] at hloop;rw[hloop,ah];simp
def auF(n:Nd)(hk:n.kids.length<=1048576):M.Fa n.kind n.op n.text n.other (encI n.kids)=some (n.kind,n.op,n.text,n.other,encI n.kids):=by simp only[M.Fa,M.RY];rw[auE _ hk,ah];simp
def arH(l:List Nd)(o:Bool)(hl:l.length<=1048576)(hk:∀n,n∈l->n.kids.length<=1048576):M.vF (aT o l)=some (aT true l):=by
 simp only[M.vF,M.Ph,dW];rw[zdt ak,zdt ak,zdt ak,zdt ak];simp only[Bool.and_true,aI,U0];have hloop:=fJ (b:=M.Ig (aT o l)) (t:=((l.length:Int),aT true l)) (λi=>((i:Int),filled (TK true) [D.int IntKind.i64 0,D.int IntKind.i64 0,D.str [],D.str [],D.sl true 1 []] l i)) l.length
  (by
   intro i hi;obtain⟨x,hx⟩:∃x,l[i]? =some x:=⟨l[i],by simp[hi]⟩
   have hkx:=hk x (zZ hx);simp only[iY,M.Ig,M.Bq,dW,aW,kZ,hx,Jb,ah,Ji,Me,LV,MB,GI,auF x hkx,U0,aie _ _ l hi,Ea,aI];rw[zdt ak,aI,aC ak ak];have hs:splice [D.int IntKind.i64 0,D.int IntKind.i64 0,D.str [],D.str [],D.sl true 1 []] 0 [D.int IntKind.i64 x.kind,D.int IntKind.i64 x.op,D.str x.text,D.str x.other,D.sl true 1 (encI x.kids)]=TK true x:=rfl;rw[hs,aif (TK true) _ l hx];simp)
  (by simp only[iY,M.Ig,M.Bq,dW];rw[nZ ak,aS,aic];rfl) 0 (Nat.zero_le _)
 rw[M.MP];simp only[ae8] at hloop;have h0':((0:Nat):Int)=0:=rfl;rw[h0'] at hloop;rw[hloop,ah]
def ap0(k:List Int)(hk:k.length<=maxLen):M.Fj (encI k) (encI k)=some true:=by
 unfold maxLen at hk;simp only[M.Fj,M.Tz,bne_self_eq_false,aS];have hloop:=fJ (b:=M.Lm (encI k) (encI k)) (t:=.inr ((k.length:Int))) (λi=>(i:Int)) k.length
  (by
   intro i hi;obtain⟨x,hx⟩:∃x,k[i]? =some x:=⟨k[i],by simp[hi]⟩
   simp only[M.Lm,M.ER,aU,aW,lG,hx,Jb,ah,Lu,bne_self_eq_false,aS];rw[zdt ak,aI,aC ak ak];simp)
  (by simp only[M.Lm,M.ER,aU];rw[nZ ak,aS]) 0 (Nat.zero_le _)
 have h0':((0:Nat):Int)=0:=rfl;rw[h0'] at hloop;rw[M.QF,hloop,ah];rfl
def ap1(n:Nd)(hk:n.kids.length<=maxLen):M.Fp n.kind n.op n.text n.other (encI n.kids) n.kind n.op n.text n.other (encI n.kids)=some true:=by simp only[M.Fp,M.TA,bne_self_eq_false,aS,beq_self_eq_true,Bool.not_true];rw[ap0 _ hk];rfl
def amC(l:List Nd)(o o':Bool)(hl:l.length<=maxLen)(hk:∀n,n∈l->n.kids.length<=maxLen):M.Bl (aT o l) (aT o' l)=some true:=by
 unfold maxLen at hl;simp only[M.Bl,M.QG,dW,bne_self_eq_false,aS];have hloop:=fJ (b:=M.I8 (aT o l) (aT o' l)) (t:=.inr ((l.length:Int))) (λi=>(i:Int)) l.length
  (by
   intro i hi;obtain⟨x,hx⟩:∃x,l[i]? =some x:=⟨l[i],by simp[hi]⟩
   simp only[iY,M.I8,M.CV,dW,aW,kZ,hx,Jb,ah,Ji,Me,LV,MB,GI,ap1 x (hk x (zZ hx)),Bool.not_true,aS];rw[zdt ak,aI,aC ak ak];simp)
  (by simp only[iY,M.I8,M.CV,dW];rw[nZ ak,aS]) 0 (Nat.zero_le _)
 have h0':((0:Nat):Int)=0:=rfl;rw[h0'] at hloop;rw[M.Oh,hloop,ah];rfl
def QJ(x lo hi:Int):M.bF x lo hi=some (decide (lo<=x) && decide (x<=hi)):=by
 simp only[M.bF,M.Bv]
 by_cases h:lo<=x
 ·rw[zdt (show x>=lo from h)];rfl
 ·rw[nZ (show¬x>=lo from h)];rfl
def QK(x lo hi:Int):M.bD x lo hi=some (decide (lo<=x) && decide (x<=hi)):=by
 simp only[M.bD,M.yS]
 by_cases h:lo<=x
 ·rw[zdt (show x>=lo from h)];rfl
 ·rw[nZ (show¬x>=lo from h)];rfl
def ap2:∀k:List Int,amb (encI k)=some k
 |[]=>rfl
 |x::k=>by have:encI (x::k)=[D.int .i64 x]::encI k:=rfl;rw[this];simp only[amb,ap2 k,Jb]
def nk(n:Nd):Nk:=⟨n.kind,n.op,⟨⟨n.text⟩⟩,⟨⟨n.other⟩⟩,n.kids⟩
def akR(o:Bool):∀l:List Nd,(∀n,n∈l->n.kids.length<=1048576)->YZ (aT o l)=some (l.map nk)
 |[],_=>rfl
 |n::l,h=>by
  have:aT o (n::l)=TK o n::aT o l:=rfl;rw[this,YZ];have hk:arA (TK o n)=some (nk n):=by simp only[TK,arA,ap2,ah];rw[if_pos (h n ZK)];rfl
  rw[hk,ah,akR o l (λm hm=>h m (Yw _ hm))];rfl
def a0h(l:List Nd):(l.map nk).map (·.kids)=ks l:=by simp[ks,nk]
def afW(l:List Nd)(o:Bool)(hl:l.length<=1048576)(hk:∀n,n∈l->n.kids.length<=1048576):M.Bd (aT o l)=some (Jj l):=by
 simp only[M.Bd,M.Qg,M.kU,akR o l hk,ah,a0h,List.length_map];rw[if_pos hl,Jj];cases qY (ks l) with
 |none=>rfl
 |some st=>rfl
def acT(l:List Nd)(o:Bool){i:Nat}{n:Nd}{st:List Int}(hi:l[i]? =some n)(hl:l.length<=1048576)(hkl:n.kids.length<=1048576)(hst:Yt st)(hs:st.length=i):
  ∀(j:Nat) (a:Int),j<=n.kids.length->0<=a->a<=i->M.uS (aT o l) (i:Int) (encI st) (a,(j:Int) - 1)=some (match dU st (n.kids.take j).reverse (a - 1) with
   |none=> .inl ()
   |some r=> .inr (r+1, -1))
 |0,a,hj,h0,h1=>by rw[M.uS];apply bn;simp only[M.FM,M.zk];rw[nZ ak,aS,List.take_zero,List.reverse_nil,dU];simp
 |j+1,a,hj,h0,h1=>by
  have hlt:i<l.length:=(Md.1 hi).1;obtain⟨k,hk⟩:∃k,n.kids[j]? =some k:=⟨n.kids[j]'ak,by simp⟩
  have ht:(n.kids.take (j+1)).reverse=k::(n.kids.take j).reverse:=by rw[List.take_add_one,hk,Option.toList_some,List.reverse_append];rfl
  rw[ht,dU];have e1:(((j+1:Nat):Int) - 1)=(j:Int):=ak;rw[e1];have hstep:M.FM (aT o l) (i:Int) (encI st) (a,(j:Int))=if a - 1<0∨k≠a - 1 then some (.inr (.inl ())) else some (.inl (st[k.toNat]?.getD 0,(j:Int) - 1)):=by
   simp only[M.FM,M.zk,aW,kZ,hi,Jb,ah,GI,lG,hk,Lu];rw[zdt ak,aI,aC (n:=a - 1) ak ak]
   by_cases h2:k=a - 1
   ·have:(k !=a - 1)=false:=by simp[h2]
    rw[this,aS]
    by_cases h3:a=0
    ·have:(a==0)=true:=by simp[h3]
     rw[this,aI,if_pos (.inl ak)]
    ·have:(a==0)=false:=by simp[h3]
     rw[this,aS,if_neg ak];obtain⟨d,hd⟩:∃d:Nat,a - 1=(d:Int):=⟨(a - 1).toNat,ak⟩
     have hdl:d<st.length:=ak;rw[h2,hd];simp only[ahn,aW,lG,U0];rw[List.getElem?_eq_getElem hdl];simp only[Jb,ah,Lu,Option.getD_some];rw[aC ak ak]
   ·have:(k !=a - 1)=true:=by simp[h2]
    rw[this,aI,if_pos (.inr h2)]
  by_cases hc:a - 1<0∨k≠a - 1
  ·rw[if_pos hc];rw[if_pos hc] at hstep;exact bn hstep
  ·rw[if_neg hc];rw[if_neg hc] at hstep;rw[M.uS,bW hstep];have hz:=O8 hst k.toNat;have:=acT l o hi hl hkl hst hs j (st[k.toNat]?.getD 0) ak hz.1 ak;rw[M.uS] at this;exact this
def aaI(l:List Nd)(o:Bool)(hl:l.length<=1048576)(hk:∀n,n∈l->n.kids.length<=1048576):∀(rest:List Nd) (i:Nat) (st:List Int),l.drop i=rest->st.length=i->i<=l.length->Yt st->
  M.uT (aT o l) ((i:Int),encI st)=some (match fM st (ks rest) with
   |none=> .inl ()
   |some r=> .inr ((l.length:Int),encI r))
 |[],i,st,hd,hs,hi,hst=>by have:l.length<=i:=List.drop_eq_nil_iff.1 hd;rw[M.uT];apply bn;simp only[iY,M.FN,M.zl,dW];rw[nZ ak,aS];have:i=l.length:=ak;subst this;rfl
 |n::rest,i,st,hd,hs,hi,hst=>by
  have hn:l[i]? =some n:=by
   have:(l.drop i)[0]? =some n:=by rw[hd];rfl
   simpa using this
  have hlt:i<l.length:=(Md.1 hn).1;have hd':l.drop (i+1)=rest:=by rw[<-List.drop_drop,hd];rfl
  have hkn:=hk n (zZ hn);have hin:=acT l o hn hl hkn hst hs n.kids.length (i:Int) (Nat.le_refl _) ak ak;rw[List.take_length] at hin;have hks:ks (n::rest)=n.kids::ks rest:=rfl;rw[hks,fM,hs];have hstep:M.FN (aT o l) ((i:Int),encI st)=some (match dU st n.kids.reverse ((i:Int) - 1) with
    |none=> .inr (.inl ())
    |some a=> .inl (((i+1:Nat):Int),encI (st++[a+1]))):=by
   simp only[iY,M.FN,M.zl,dW,aW,kZ,hn,Jb,ah,GI,aU];rw[zdt ak,aI,aC (n:=(n.kids.length:Int) - 1) ak ak,hin];cases hw:dU st n.kids.reverse ((i:Int) - 1) with
   |none=>rfl
   |some a=>simp only[ah,o8,letE,J3];rw[aJ ak,aI,aJ ak,aI,aC ak ak];simp[encI]
  cases hw:dU st n.kids.reverse ((i:Int) - 1) with
  |none=>rw[hw] at hstep;exact bn hstep
  |some a=>rw[hw] at hstep;rw[M.uT,bW hstep];have hr:=Dk hst _ _ _ ak ak hw;have:=aaI l o hl hk rest (i+1) (st++[a+1]) hd' (by simp[hs]) hlt (UY hst hr.1 hr.2);rw[M.uT] at this;exact this
def Yl(l:List Nd)(o:Bool)(hl:l.length<=1048576)(hk:∀n,n∈l->n.kids.length<=1048576):M.vG (aT o l)=some (Jj l):=by
 simp only[M.vG,M.Pj,QJ,ah,dW]
 by_cases h1:1<=l.length∧l.length<=400
 ·have hb:(decide ((1:Int)<=(l.length:Int)) && decide ((l.length:Int)<=400))=true:=by simp;omega
  rw[hb,Bool.not_true,aS];have h:=aaI l o hl hk l 0 [] rfl rfl (Nat.zero_le _) Vd;have e0:((0:Nat):Int)=0:=rfl;rw[e0] at h;simp only[M.Dl,M.MQ];rw[show([]:aA)=encI [] from rfl,h,Jj,qY,if_pos (by rw[Rt];exact h1)];cases hs:fM [] (ks l) with
  |none=>rfl
  |some r=>
   have hrl:r.length=l.length:=by have:=XK _ _ _ hs;rw[Rt] at this;simpa using this
   simp only[ah,o8,letE,Ea,aI];rw[aC ak ak,show(l.length:Int) - 1=((l.length - 1:Nat):Int) by omega];simp only[ahn,aW,lG,U0];rw[List.getElem?_eq_getElem ak];simp only[Jb,ah,Lu,Option.getD_some]
 ·have hb:(decide ((1:Int)<=(l.length:Int)) && decide ((l.length:Int)<=400))=false:=by
   cases hq:(decide ((1:Int)<=(l.length:Int)) && decide ((l.length:Int)<=400)) with
   |false=>rfl
   |true=>simp at hq;omega
  rw[hb,Bool.not_false,aI,Jj,qY,if_neg (by rw[Rt];exact h1)]
def akS{st:List Int}(h:Yt st):∀(l:List Int) (a r:Int),a<st.length->dU st l a=some r->∀k,k∈l->0<=k∧k<st.length
 |[],a,r,h1,e,k,hk=>absurd hk List.not_mem_nil
 |x::l,a,r,h1,e,k,hk=>by
  rw[dU] at e;split at e
  ·cases e
  ·rename_i hc;have hz:=O8 h x.toNat;rcases List.mem_cons.1 hk with rfl|hk
   ·omega
   ·exact akS h l _ r ak e k hk
def ae9:∀(l:List (List Int)) (st r:List Int),Yt st->fM st l=some r->∀(i:Nat) n,l[i]? =some n->∀k,k∈n->0<=k∧k<st.length+i
 |[],st,r,h0,h,i,n,hn=>by simp at hn
 |m::l,st,r,h0,h,i,n,hn=>by
  rw[fM] at h;split at h
  ·cases h
  ·rename_i a ha;have hr:=Dk h0 _ _ _ ak ak ha;cases i with
   |zero=>simp only[List.getElem?_cons_zero,iI] at hn;subst hn;intro k hk;have:=akS h0 _ _ _ ak ha k (List.mem_reverse.2 hk);omega
   |succ i=>simp only[List.getElem?_cons_succ] at hn;intro k hk;have:=ae9 l _ r (UY h0 hr.1 hr.2) h i n hn k hk;simp at this;omega
def akT{l:List Nd}(h:Jj l=true):1<=l.length∧l.length<=400:=by
 unfold Jj at h;cases hs:qY (ks l) with
 |none=>rw[hs] at h;cases h
 |some r=>
  unfold qY at hs;split at hs
  ·rename_i hq;rw[Rt] at hq;exact hq
  ·cases hs
def aaJ:∀(l:List (List Int)) (st r:List Int),fM st l=some r->∃t,r=st++t
 |[],st,r,h=>by rw[fM] at h;cases h;exact⟨[],by simp⟩
 |n::l,st,r,h=>by
  rw[fM] at h;split at h
  ·cases h
  ·obtain⟨t,ht⟩:=aaJ l _ r h;exact⟨_,by rw[ht,Ad]⟩
def ap3{st t:List Int}(h:Yt st):∀(ks:List Int) (a:Int),a<st.length->dU (st++t) ks a=dU st ks a
 |[],a,_=>rfl
 |k::ks,a,ha=>by
  rw[dU,dU];split
  ·rfl
  ·rename_i hc;have hk:k.toNat<st.length:=ak;have e:(st++t)[k.toNat]? =st[k.toNat]? :=List.getElem?_append_left hk;rw[e];have hz:=O8 h k.toNat;exact ap3 h ks _ ak
def akU:∀(l:List (List Int)) (st r:List Int),Yt st->fM st l=some r->∀(i:Nat) n,l[i]? =some n->∃a,dU r n.reverse ((st.length:Int)+i - 1)=some a∧r[st.length+i]? =some (a+1)
 |[],st,r,h0,h,i,n,hn=>by simp at hn
 |m::l,st,r,h0,h,i,n,hn=>by
  rw[fM] at h;split at h
  ·cases h
  ·rename_i a ha;have hr:=Dk h0 _ _ _ ak ak ha;obtain⟨t,ht⟩:=aaJ l _ r h;cases i with
   |zero=>
    simp only[List.getElem?_cons_zero,iI] at hn;subst hn;refine⟨a, ?_, ?_⟩
    ·rw[ht,Ad,ap3 h0 _ _ (by simp;omega)];simpa using ha
    ·rw[ht];simp
   |succ i=>
    simp only[List.getElem?_cons_succ] at hn;obtain⟨b,h1,h2⟩:=akU l _ r (UY h0 hr.1 hr.2) h i n hn;refine⟨b, ?_, ?_⟩
    ·rw[<-h1];congr 1;simp;omega
    ·rw[<-h2];congr 1;simp;omega
def Zk:List Int->Int
 |[]=>0
 |x::l=>x+Zk l
def afa:∀(a b:List Int),Zk (a++b)=Zk a+Zk b
 |[],b=>by simp[Zk]
 |x::a,b=>by rw[VE,Zk,Zk,afa a b];omega
def acU:∀l:List Int,Zk l.reverse=Zk l
 |[]=>rfl
 |x::l=>by rw[List.reverse_cons,afa,acU l];simp[Zk];omega
def sz(r:List Int)(k:Int):Int:=k - (r[k.toNat]?.getD 0)+1
def ap4(r:List Int):∀(ks:List Int) (a b:Int),dU r ks a=some b->Zk (ks.map (sz r))=a - b
 |[],a,b,h=>by rw[dU] at h;cases h;simp[Zk]
 |k::ks,a,b,h=>by
  rw[dU] at h;split at h
  ·cases h
  ·rename_i hc;have:=ap4 r ks _ b h;rw[Rh,Zk,this,sz];omega
structure Val(l:List Nd)(r:List Int):Prop where
 st:fM [] (ks l)=some r
 pos:1<=l.length
 le:l.length<=400
def amD{l:List Nd}(h:Jj l=true):∃r,Val l r:=by
 have hl:=akT h;unfold Jj at h;cases hs:qY (ks l) with
 |none=>rw[hs] at h;cases h
 |some r=>
  unfold qY at hs;split at hs
  ·exact⟨r,hs,hl.1,hl.2⟩
  ·cases hs
section
variable {l:List Nd} {r:List Int}
def Val.len(h:Val l r):r.length=l.length:=by have:=XK _ _ _ h.st;rw[Rt] at this;simpa using this
def Val.ok(h:Val l r):Yt r:=adI _ _ _ Vd h.st
def Val.kids(h:Val l r){i:Nat}{n:Nd}(hn:l[i]? =some n):∀k,k∈n.kids->0<=k∧k<i:=by have:=ae9 _ _ _ Vd h.st i n.kids (by simp[ks,hn]);simpa using this
def Val.sum(h:Val l r){i:Nat}{n:Nd}(hn:l[i]? =some n):Zk (n.kids.map (sz r))+1=sz r i:=by obtain⟨a,h1,h2⟩:=akU _ _ _ Vd h.st i n.kids (by simp[ks,hn]);have:=ap4 r _ _ _ h1;rw[List.map_reverse,acU] at this;simp at h2;rw[this,sz,U0,h2];simp;omega
def Val.ayO(h:Val l r){k:Int}(h0:0<=k):1<=sz r k∧sz r k<=k+1:=by have:=O8 h.ok k.toNat;rw[sz];omega
end
def aii(l:List Nd)(i:Nat):List Int:=match l[i]? with|some n=>n.kids|none=>[]
def RG{l:List Nd}{i:Nat}{n:Nd}(h:l[i]? =some n):aii l i=n.kids:=by rw[aii,h]
end Go.Proofs.YtbgadfelmhoheaaGreatDoor
