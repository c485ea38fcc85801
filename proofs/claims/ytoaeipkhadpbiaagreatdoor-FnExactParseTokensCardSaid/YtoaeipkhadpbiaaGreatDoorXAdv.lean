import Derived.Test.YtoaeipkhadpbiaaGreatDoorPForms5
import Derived.Test.YtoaeipkhadpbiaaGreatDoorVm4
import Derived.Lib.IndexLaws
set_option linter.defProp false
namespace Go.Proofs.YtoaeipkhadpbiaaGreatDoor
set_option linter.unusedVariables false
set_option linter.unusedSimpArgs false
set_option linter.unusedSectionVars false
open Go Go.Vm
open Go.IntKind (i64)
def aS7:(∀a b:Int,(a>=b)=(b<=a))/\(∀a b:Int,(a>b)=(b<a))/\(∀h:Decidable True,@decide True h=true)/\(∀h:Decidable False,@decide False h=false)/\(∀(α:Type) (a b:α),cond true a b=a)/\(∀(α:Type) (a b:α),cond false a b=b)/\(∀b:Bool,(b && true)=b)/\(∀b:Bool,(b && false)=false)/\(∀b:Bool,(true && b)=b)/\(∀b:Bool,(false && b)=false)/\((!true)=false)/\((!false)=true):=
 ⟨λ_ _=>rfl,λ_ _=>rfl,λh=>@decide_eq_true True h trivial,λh=>@decide_eq_false False h id,λ_ _ _=>rfl,λ_ _ _=>rfl,λb=>by cases b<;>rfl,λb=>by cases b<;>rfl,λ_=>rfl,λ_=>rfl,rfl,rfl⟩
def bK{m n:Nat}(h:m<=n):m.ble n=true:=Nat.ble_eq_true_of_le h
def aj{α β:Type}(a:α)(f:α->Option β):(some a).bind f=f a:=rfl
def Zf:((0:Nat):Int)=0:=rfl
def QG(s:aP)(a:Int):Int:=if 0<=a then(match s[a.toNat]? with|some c=>(c.toNat:Int)|none=> -1) else -1
def isD(b:Int):Bool:=decide (b>=48) && decide (b<=57)
def LM(s:aP)(a:Int):Int:=if 0<=a then a+(((s.drop a.toNat).takeWhile λc=>isD (c.toNat:Int)).length:Nat) else a
def as2(c:UInt8):c.toNat<256:=c.toNat_lt
def SK(s:aP)(i:Nat):QG s (i:Int)=(match s[i]? with|some c=>(c.toNat:Int)|none=> -1):=by rw[QG,if_pos aB,ztn]
section
variable {s:aP} (h:s.length<=1048576)
include h
theorem NJ(a:Int):M.fM s a=some (QG s a):=by
 simp only[M.fM,M.OI]
 by_cases h0:a<0
 ·rw[zdt h0,aI,QG,if_neg aB]
 ·rw[Bq h0,bH];obtain⟨i,rfl⟩:∃i:Nat,a=i:=⟨a.toNat,aB⟩
  rw[SK]
  by_cases h1:(i:Int)>=(s.length:Int)
  ·rw[zdt h1,aI,List.getElem?_eq_none aB]
  ·obtain⟨c,hc⟩:∃c,s[i]? =some c:=⟨s[i]'aB,by simp⟩
   have:=as2 c;rw[Bq h1,bH,dM,hc,aj,bT aB aB]
theorem NK(a:Int):M.jX s a=some (QG s a):=by
 simp only[M.jX,M.OW,M.jI,M.Dp];rw[bT aB aB]
 by_cases h0:a<0
 ·rw[Bq aB,bH,aj,Bool.not_false,aI,QG,if_neg aB]
 ·rw[zdt aB,aI,aj];obtain⟨i,rfl⟩:∃i:Nat,a=i:=⟨a.toNat,aB⟩
  rw[SK]
  by_cases h1:(i:Int)>=(s.length:Int)
  ·rw[Bq aB,Bool.not_false,aI,List.getElem?_eq_none aB]
  ·obtain⟨c,hc⟩:∃c,s[i]? =some c:=⟨s[i]'aB,by simp⟩
   have:=as2 c;rw[zdt aB,zaM,bH,dM,hc,aj,bT aB aB]
end
def apn(b:Int):M.wU b=some (isD b):=by simp only[M.wU,M.Mc,M.jW,M.Ci,isD];cases decide (b>=48)<;>rfl
def apo(b:Int):M.xg b=some (isD b):=by simp only[M.xg,M.Nj,isD];cases decide (b>=48)<;>rfl
def aDl{s:aP}{b:Int->Option (Int⊕Int)}(hb:∀a,0<=a->a<=2000000->b a=some (bif isD (QG s a) then .inl (a+1) else .inr a))(h:s.length<=1048576):
  ∀(rest pre:aP),s=pre++rest->gV b (pre.length:Int)=some ((pre.length:Int)+((rest.takeWhile λc=>isD (c.toNat:Int)).length:Nat))
 |[],pre,e=>by
  have hl:pre.length=s.length:=by rw[e];simp
  refine aO ?_;rw[hb _ aB aB,SK,List.getElem?_eq_none aB];simp[isD]
 |c::rest,pre,e=>by
  have hl:s.length=pre.length+(rest.length+1):=by rw[e];simp
  have hget:s[pre.length]? =some c:=by rw[e,List.getElem?_append_right (zaN _),Nat.sub_self];rfl
  have hs:=hb (pre.length:Int) aB aB;rw[SK,hget] at hs;simp only at hs;cases hd:isD (c.toNat:Int) with
  |true=>have:=aDl hb h rest (pre++[c]) (by rw[e];simp);rw[zT,y7] at this;rw[hd,aI] at hs;rw[bD hs,List.takeWhile_cons,if_pos hd,show(pre.length:Int)+1=((pre.length+1:Nat):Int) by omega,this];simp;omega
  |false=>rw[hd,bH] at hs;rw[aO hs,List.takeWhile_cons,hd];simp
def azG{s:aP}{b:Int->Option (Int⊕Int)}(hb:∀a,0<=a->a<=2000000->b a=some (bif isD (QG s a) then .inl (a+1) else .inr a))(h:s.length<=1048576)(a:Int)(h0:0<=a)(h1:a<=2000000):gV b a=some (LM s a):=by
 obtain⟨i,rfl⟩:∃i:Nat,a=i:=⟨a.toNat,aB⟩
 rw[LM,if_pos h0,ztn]
 by_cases hi:i<=s.length
 ·have:=aDl hb h (s.drop i) (s.take i) (List.take_append_drop i s).symm;rw[zlt,Nat.min_eq_left hi] at this;exact this
 ·rw[List.drop_eq_nil_of_le aB];refine aO ?_;rw[hb _ h0 h1,SK,List.getElem?_eq_none aB];simp[isD]
def Vf{s:aP}(h:s.length<=1048576){a:Int}(h0:0<=a):a<=LM s a/\(LM s a<=a\/LM s a<=s.length):=by have h1:=(List.takeWhile_sublist (p:=λc:UInt8=>isD (c.toNat:Int)) (l:=s.drop a.toNat)).length_le;rw[List.length_drop] at h1;rw[LM,if_pos h0];omega
section
variable {s:aP} (h:s.length<=1048576)
include h
theorem Ef(a:Int)(h0:0<=a)(h1:a<=2000000):M.bn s a=some (LM s a):=by simp only[M.bn,M.Kt,M.IW];rw[azG (λa h0 h1=>by simp only[M.Rf,M.EZ,NJ h,apn,aj];rw[bT aB aB];cases isD (QG s a)<;>rfl) h a h0 h1,aj]
theorem CZ(a:Int)(h0:0<=a)(h1:a<=2000000):M.fA s a=some (LM s a):=by simp only[M.fA,M.Jb,M.GI];rw[azG (λa h0 h1=>by simp only[M.Qh,M.Dz,NK h,apo,aj];rw[bT aB aB];cases isD (QG s a)<;>rfl) h a h0 h1,aj]
end
def afA(s:aP)(r:Int):Int:=bif(QG s r==101)||(QG s r==69) then
  (bif(QG s (r+1)==43)||(QG s (r+1)==45) then(bif decide (LM s (r+1+1)>r+1+1) then LM s (r+1+1) else r) else(bif decide (LM s (r+1)>r+1) then LM s (r+1) else r)) else r
def aja(s:aP)(a:Int):Int:=if a<0\/(s.length:Int)<=a then -1 else
 bif QG s (LM s a)==46 then(bif(LM s a==a) &&(LM s (LM s a+1)==LM s a+1) then -1 else afA s (LM s (LM s a+1))) else(bif LM s a==a then -1 else afA s (LM s a))
section
variable {s:aP} (h:s.length<=1048576)
include h
set_option maxHeartbeats 2000000 in
theorem ajb(a:Int)(ha:a<=1048576):M.Ew s a=some (aja s a):=by
 simp only[M.Ew,M.OX,M.jI,M.Dp,aja];rw[bT aB aB]
 by_cases h0:a<0
 ·rw[Bq aB,bH,aj,Bool.not_false,aI,if_pos (.inl h0)]
 ·rw[zdt aB,aI,aj]
  by_cases h1:(s.length:Int)<=a
  ·rw[Bq aB,Bool.not_false,aI,if_pos (.inr h1)]
  ·rw[zdt aB,zaM,bH,if_neg aB,CZ h a aB aB,aj];have e1:=Vf h (a:=a) aB;generalize hE:LM s a=e at e1|-;simp only[NK h,aj];rw[bT (n:=e+1) aB aB,bT (n:=e - a) aB aB,CZ h (e+1) aB aB,aj];have e2:=Vf h (a:=e+1) aB;generalize hK:LM s (e+1)=k at e2|-;have hz:(i64.wrap (e - a+i64.wrap (i64.wrap (k - e) - 1))==0)=((e==a) &&(k==e+1)):=by rw[bT (n:=k - e) aB aB,bT (n:=k - e - 1) aB aB,bT aB aB,Bool.eq_iff_iff];simp only[Jw,beq_iff_eq];omega
   have hz2:(e - a==0)=(e==a):=by rw[Bool.eq_iff_iff];simp only[beq_iff_eq];omega
   rw[hz,hz2];have ex:∀r:Int,0<=r->r<=1048578->(bif QG s r==101 then
      ((some (QG s (i64.wrap (r+1)))).bind λaMp=>
      (bif aMp==43 then
       ((M.fA s (i64.wrap (i64.wrap (r+1)+1))).bind λaMq=>
       (bif decide (aMq>i64.wrap (i64.wrap (r+1)+1)) then(some aMq) else(some r))) else
       (bif aMp==45 then
       ((M.fA s (i64.wrap (i64.wrap (r+1)+1))).bind λaem=>(bif decide (aem>i64.wrap (i64.wrap (r+1)+1)) then(some aem) else(some r))) else
       ((M.fA s (i64.wrap (r+1))).bind λanR=>(bif decide (anR>i64.wrap (r+1)) then(some anR) else(some r)))))) else
      (bif QG s r==69 then
      ((some (QG s (i64.wrap (r+1)))).bind λafj=>
       (bif afj==43 then
       ((M.fA s (i64.wrap (i64.wrap (r+1)+1))).bind λanQ=>(bif decide (anQ>i64.wrap (i64.wrap (r+1)+1)) then(some anQ) else(some r))) else
       (bif afj==45 then
        ((M.fA s (i64.wrap (i64.wrap (r+1)+1))).bind λanP=>
        (bif decide (anP>i64.wrap (i64.wrap (r+1)+1)) then(some anP) else(some r))) else
        ((M.fA s (i64.wrap (r+1))).bind λJC=>(bif decide (JC>i64.wrap (r+1)) then(some JC) else(some r)))))) else(some r)))=some (afA s r):=by
    intro r h0 h1;rw[bT (n:=r+1) aB aB,bT (n:=r+1+1) aB aB,CZ h (r+1) aB aB,CZ h (r+1+1) aB aB,afA];simp only[aj];cases QG s r==101<;>cases QG s r==69<;>cases QG s (r+1)==43<;>cases QG s (r+1)==45<;>cases decide (LM s (r+1+1)>r+1+1)<;>cases decide (LM s (r+1)>r+1)<;>rfl
   simp only[aj] at ex;cases QG s e==46 with
   |true=>
    simp only[aI];cases(e==a) &&(k==e+1) with
    |true=>rfl
    |false=>simp only[bH];exact ex k aB aB
   |false=>
    simp only[bH];cases e==a with
    |true=>rfl
    |false=>simp only[bH];have h2:=ex e aB aB;rw[bT (n:=e+1) aB aB,CZ h (e+1) aB aB,hK] at h2;simp only[aj] at h2;exact h2
theorem ajc(a:Int)(ha:a<=1048576):M.Eo s a=some (aja s a):=by
 simp only[M.Eo,M.OJ,aja]
 by_cases h0:a<0
 ·rw[zdt h0,aI,if_pos (.inl h0)]
 ·rw[Bq h0,bH];have e1:=Vf h (a:=a) aB;rw[Ef h a aB aB,aj];simp only[NJ h,aj]
  by_cases h1:(s.length:Int)<=a
  ·have he:LM s a=a:=aB;obtain⟨i,rfl⟩:∃i:Nat,a=i:=⟨a.toNat,aB⟩
   have hb:QG s (i:Int)= -1:=by rw[SK,List.getElem?_eq_none aB]
   rw[he,hb,if_pos (.inr h1),show((-1:Int)==46)=false from rfl,bH,beq_self_eq_true,aI]
  ·rw[if_neg aB];generalize hE:LM s a=e at e1|-;have e2:=Vf h (a:=e+1) aB;rw[bT (n:=e+1) aB aB,Ef h (e+1) aB aB,aj];have ex:∀r:Int,0<=r->r<=1048578->(bif QG s r==101 then
      (bif QG s (i64.wrap (r+1))==43 then
       ((M.bn s (i64.wrap (i64.wrap (r+1)+1))).bind λaD3=>
        (bif decide (aD3>i64.wrap (i64.wrap (r+1)+1)) then
        ((M.bn s (i64.wrap (i64.wrap (r+1)+1))).bind λaD4=>(some aD4)) else(some r))) else
        (bif QG s (i64.wrap (r+1))==45 then
        ((M.bn s (i64.wrap (i64.wrap (r+1)+1))).bind λaD9=>
         (bif decide (aD9>i64.wrap (i64.wrap (r+1)+1)) then
         ((M.bn s (i64.wrap (i64.wrap (r+1)+1))).bind λaEa=>(some aEa)) else(some r))) else
        ((M.bn s (i64.wrap (r+1))).bind λaD5=>(bif decide (aD5>i64.wrap (r+1)) then((M.bn s (i64.wrap (r+1))).bind λaBf=>(some aBf)) else(some r))))) else
       (bif QG s r==69 then
        (bif QG s (i64.wrap (r+1))==43 then
        ((M.bn s (i64.wrap (i64.wrap (r+1)+1))).bind λaS8=>
         (bif decide (aS8>i64.wrap (i64.wrap (r+1)+1)) then
         ((M.bn s (i64.wrap (i64.wrap (r+1)+1))).bind λaD7=>(some aD7)) else(some r))) else
         (bif QG s (i64.wrap (r+1))==45 then
         ((M.bn s (i64.wrap (i64.wrap (r+1)+1))).bind λaS9=>
          (bif decide (aS9>i64.wrap (i64.wrap (r+1)+1)) then
          ((M.bn s (i64.wrap (i64.wrap (r+1)+1))).bind λaTa=>(some aTa)) else(some r))) else
         ((M.bn s (i64.wrap (r+1))).bind λaTb=>(bif decide (aTb>i64.wrap (r+1)) then((M.bn s (i64.wrap (r+1))).bind λaEb=>(some aEb)) else(some r))))) else(some r)))=some (afA s r):=by
    intro r h0 h1;rw[bT (n:=r+1) aB aB,bT (n:=r+1+1) aB aB,Ef h (r+1) aB aB,Ef h (r+1+1) aB aB,afA];simp only[aj];cases QG s r==101<;>cases QG s r==69<;>cases QG s (r+1)==43<;>cases QG s (r+1)==45<;>cases decide (LM s (r+1+1)>r+1+1)<;>cases decide (LM s (r+1)>r+1)<;>rfl
   generalize hK:LM s (e+1)=k at e2|-;have hka:(k==a)=false:=by rw[zbn];omega
   rw[hka];cases QG s e==46 with
   |true=>
    simp only[aI,bH];cases e==a with
    |true=>
     simp only[aI,Bool.true_and];cases k==e+1 with
     |true=>rfl
     |false=>simp only[bH];exact ex k aB aB
    |false=>simp only[bH,Bool.false_and];exact ex k aB aB
   |false=>
    simp only[bH];cases e==a with
    |true=>rfl
    |false=>simp only[bH];have h2:=ex e aB aB;rw[bT (n:=e+1) aB aB,Ef h (e+1) aB aB,hK] at h2;simp only[aj] at h2;exact h2
end
def aj7(q:Int):aP->Int->Int
 |[],_=> -1
 |c::l,i=>if(c.toNat:Int)=q then i+1 else if(c.toNat:Int)=10 then -1 else if(c.toNat:Int)=92 then(match l with
   |[]=> -1
   |d::l'=>if(d.toNat:Int)=10 then -1 else aj7 q l' (i+2)) else aj7 q l (i+1)
def alC(q:Int)(c:UInt8)(l:aP)(i:Int):aj7 q (c::l) i=if(c.toNat:Int)=q then i+1 else if(c.toNat:Int)=10 then -1 else if(c.toNat:Int)=92 then(match l with
   |[]=> -1
   |d::l'=>if(d.toNat:Int)=10 then -1 else aj7 q l' (i+2)) else aj7 q l (i+1):=by
 cases l with
 |nil=>simp[aj7]
 |cons d l=>simp[aj7]
def hdI:aP->Int
 |[]=> -1
 |d::_=>(d.toNat:Int)
def quoted(s:aP)(a q:Int):Int:=if QG s a=q then aj7 q (s.drop (a+1).toNat) (a+1) else -1
def azH{s:aP}(h:s.length<=1048576)(q:Int)(hq:q≠10):∀(n:Nat) (rest pre:aP),rest.length<=n->s=pre++rest->
  (∃r,M.vO s q (pre.length:Int)=some r/\(iD r some λu=>letE u λ_=>some (-1))=some (aj7 q rest (pre.length:Int)))/\
  (∃r,M.uo s q (pre.length:Int)=some r/\(iD r some λu=>letE u λ_=>some (-1))=some (aj7 q rest (pre.length:Int)))
 |n,[],pre,hn,e=>by
  have hl:pre.length=s.length:=by rw[e];simp
  constructor
  ·refine⟨.inr (pre.length:Int), ?_,rfl⟩;rw[M.vO];refine aO ?_;simp only[M.Aa,M.vN];rw[Bq aB,bH]
  ·refine⟨.inr (pre.length:Int), ?_,rfl⟩;rw[M.uo];refine aO ?_;simp only[M.yP,M.uJ];rw[Bq aB,bH]
 |0,c::rest,pre,hn,e=>by simp at hn
 |n+1,c::rest,pre,hn,e=>by
  simp only[zlc] at hn;have hl:s.length=pre.length+(rest.length+1):=by rw[e];simp
  have hget:s[pre.length]? =some c:=by rw[e,List.getElem?_append_right (zaN _),Nat.sub_self];rfl
  have hc:=as2 c;have hw:i64.wrap ((c.toNat:Nat):Int)=(c.toNat:Int):=bT aB aB;have hw1:i64.wrap ((pre.length:Int)+1)=((pre.length+1:Nat):Int):=by rw[bT aB aB];omega
  have hw2:i64.wrap (((pre.length+1:Nat):Int)+1)=((pre.length+2:Nat):Int):=by rw[bT aB aB];omega
  have hnext:QG s ((pre.length+1:Nat):Int)=hdI rest:=by rw[SK,e,List.getElem?_append_right aB,show pre.length+1 - pre.length=1 by omega];cases rest<;>rfl
  have hS:M.Aa s q (pre.length:Int)=some (if(c.toNat:Int)=q then .inr (.inl ((pre.length+1:Nat):Int)) else if(c.toNat:Int)=10 then .inr (.inl (-1)) else if(c.toNat:Int)=92 then
    (if QG s ((pre.length+1:Nat):Int)=10 then .inr (.inl (-1)) else .inl ((pre.length+2:Nat):Int)) else .inl ((pre.length+1:Nat):Int)):=by
   simp only[M.Aa,M.vN,dM,hget,aj,hw,hw1,hw2,NJ h];rw[zdt aB,aI]
   by_cases c1:(c.toNat:Int)=q
   ·rw[if_pos c1,show((c.toNat:Int)==q)=true by simpa using c1,aI]
   ·rw[if_neg c1,show((c.toNat:Int)==q)=false by simpa using c1,bH]
    by_cases c2:(c.toNat:Int)=10
    ·rw[if_pos c2,show((c.toNat:Int)==10)=true by simpa using c2,aI]
    ·rw[if_neg c2,show((c.toNat:Int)==10)=false by simpa using c2,bH]
     by_cases c3:(c.toNat:Int)=92
     ·rw[if_pos c3,show((c.toNat:Int)==92)=true by simpa using c3,aI]
      by_cases c4:QG s ((pre.length+1:Nat):Int)=10
      ·rw[if_pos c4,c4];rfl
      ·rw[if_neg c4,show(QG s ((pre.length+1:Nat):Int)==10)=false by simpa using c4,bH]
     ·rw[if_neg c3,show((c.toNat:Int)==92)=false by simpa using c3,bH]
  have hI:M.yP s q (pre.length:Int)=some (if(c.toNat:Int)=10 then .inr (.inr (pre.length:Int)) else if(c.toNat:Int)=q then .inr (.inl ((pre.length+1:Nat):Int)) else if(c.toNat:Int)=92 then
    (if QG s ((pre.length+1:Nat):Int)=10 then .inl ((pre.length+1:Nat):Int) else .inl ((pre.length+2:Nat):Int)) else .inl ((pre.length+1:Nat):Int)):=by
   simp only[M.yP,M.uJ,dM,hget,aj,hw,hw1,hw2,NK h];rw[zdt aB,aI]
   by_cases c2:(c.toNat:Int)=10
   ·rw[if_pos c2,show((c.toNat:Int) !=10)=false by simpa using c2,bH]
   ·rw[if_neg c2,show((c.toNat:Int) !=10)=true by simpa using c2,aI]
    by_cases c1:(c.toNat:Int)=q
    ·rw[if_pos c1,show((c.toNat:Int)==q)=true by simpa using c1,aI]
    ·rw[if_neg c1,show((c.toNat:Int)==q)=false by simpa using c1,bH]
     by_cases c3:(c.toNat:Int)=92
     ·rw[if_pos c3,show((c.toNat:Int)==92)=true by simpa using c3,aI]
      by_cases c4:QG s ((pre.length+1:Nat):Int)=10
      ·rw[if_pos c4,c4];rfl
      ·rw[if_neg c4,show(QG s ((pre.length+1:Nat):Int) !=10)=true by simpa using c4,aI]
     ·rw[if_neg c3,show((c.toNat:Int)==92)=false by simpa using c3,bH]
  have e1:s=(pre++[c])++rest:=by rw[e];simp
  have ih1:=azH h q hq n rest (pre++[c]) aB e1;rw[zT,y7] at ih1;rw[M.vO,M.uo] at ih1|-;rw[alC]
  by_cases c1:(c.toNat:Int)=q
  ·have c2:¬(c.toNat:Int)=10:=aB;rw[if_pos c1];rw[if_pos c1] at hS;rw[if_neg c2,if_pos c1] at hI;refine⟨⟨_,aO hS, ?_⟩,⟨_,aO hI, ?_⟩⟩<;>simp[iD]
  ·rw[if_neg c1];rw[if_neg c1] at hS
   by_cases c2:(c.toNat:Int)=10
   ·rw[if_pos c2];rw[if_pos c2] at hS hI;exact⟨⟨_,aO hS,rfl⟩,⟨_,aO hI,rfl⟩⟩
   ·rw[if_neg c2];rw[if_neg c2] at hS hI;rw[if_neg c1] at hI
    by_cases c3:(c.toNat:Int)=92
    ·rw[if_pos c3];rw[if_pos c3] at hS hI;cases rest with
     |nil=>
      rw[hnext,hdI] at hS hI;simp only[show¬((-1:Int)=10) by omega,if_false] at hS hI;have hend:∀(b:Int->Option (Int⊕(Int⊕Int))),True:=λ_=>trivial
      simp only[zln] at hl;refine⟨⟨.inr ((pre.length+2:Nat):Int), ?_,rfl⟩,⟨.inr ((pre.length+2:Nat):Int), ?_,rfl⟩⟩
      ·rw[bD hS];refine aO ?_;simp only[M.Aa,M.vN];rw[Bq aB,bH]
      ·rw[bD hI];refine aO ?_;simp only[M.yP,M.uJ];rw[Bq aB,bH]
     |cons d rest'=>
      simp only[hdI] at hnext|-;rw[hnext] at hS hI
      by_cases c4:(d.toNat:Int)=10
      ·rw[if_pos c4];rw[if_pos c4] at hS hI;refine⟨⟨_,aO hS,rfl⟩, ?_⟩;obtain⟨r,h1,h2⟩:=ih1.2;refine⟨r,by rw[bD hI];exact h1, ?_⟩;rw[h2,alC,if_neg aB,if_pos c4]
      ·rw[if_neg c4];rw[if_neg c4] at hS hI;have e2:s=(pre++[c,d])++rest':=by rw[e];simp
       simp only[zlc] at hn;have ih2:=azH h q hq n rest' (pre++[c,d]) aB e2;rw[zT,show[c,d].length=2 from rfl,M.vO,M.uo] at ih2;rw[bD hS,bD hI,show(pre.length:Int)+2=((pre.length+2:Nat):Int) by omega];exact ih2
    ·rw[if_neg c3];rw[if_neg c3] at hS hI;rw[bD hS,bD hI,show(pre.length:Int)+1=((pre.length+1:Nat):Int) by omega];exact ih1
section
variable {s:aP} (h:s.length<=1048576)
include h
theorem alD(a q:Int)(h0:0<=a)(h1:a<=1048576)(hq:0<=q)(hq2:q≠10):M.sO s a q=some (quoted s a q)/\M.qK s a q=some (quoted s a q):=by
 simp only[M.sO,M.Ku,M.qK,M.Jc,NJ h,NK h,aj,quoted]
 by_cases hb:QG s a=q
 ·rw[if_pos hb,show(QG s a !=q)=false by simpa using hb,bH,bH,bT aB aB];obtain⟨i,rfl⟩:∃i:Nat,a=i:=⟨a.toNat,aB⟩
  have hi:i<s.length:=by
   rcases Nat.lt_or_ge i s.length with hlt|hge
   ·exact hlt
   ·rw[SK,List.getElem?_eq_none hge] at hb;simp only at hb;omega
  obtain⟨⟨r,k1,k2⟩,⟨r',k3,k4⟩⟩:=azH h q hq2 _ (s.drop (i+1)) (s.take (i+1)) (zaN _) (List.take_append_drop _ s).symm;rw[zlt,Nat.min_eq_left aB] at k1 k2 k3 k4;rw[show(i:Int)+1=((i+1:Nat):Int) by omega,ztn,k1,k3,aj,aj];exact⟨k2,k4⟩
 ·rw[if_neg hb,show(QG s a !=q)=true by simpa using hb,aI,aI];exact⟨rfl,rfl⟩
theorem avC(a:Int)(h0:0<=a)(h1:a<=1048576):M.Ep s a=some (quoted s a 34)/\M.Ey s a=some (quoted s a 34):=by have:=alD h a 34 h0 h1 aB aB;simp only[M.Ep,M.OL,M.Ey,M.OY,this.1,this.2,aj];constructor<;>first|rfl|trivial
def ajd(s:aP)(a:Int):Int:=bif quoted s a 47==a+2 then -1 else quoted s a 47
theorem avD(a:Int)(h0:0<=a)(h1:a<=1048576):M.Es s a=some (ajd s a)/\M.Ez s a=some (ajd s a):=by have:=alD h a 47 h0 h1 aB aB;simp only[M.Es,M.OM,M.Ez,M.OZ,this.1,this.2,aj,ajd];rw[bT aB aB];cases quoted s a 47==a+2<;>simp
end
end Go.Proofs.YtoaeipkhadpbiaaGreatDoor
namespace Go.Proofs.YtoaeipkhadpbiaaGreatDoor
set_option linter.unusedVariables false
set_option linter.unusedSimpArgs false
set_option linter.unusedSectionVars false
open Go Go.Vm
open Go.IntKind (i64)
@[simp] theorem Zg(l:List (aP)):(encS l).length=l.length:=by simp[encS]
@[simp] theorem aeN(l:List (aP))(i:Nat):(encS l)[i]? =(l[i]?).map λs=>[D.str s]:=by simp[encS]
def cS0(s:aP):cStr [D.str s] 0=some s:=rfl
def strsOf:Row->List (aP)
 |[]=>[]
 | .str s::r=>s::strsOf r
 |_::r=>strsOf r
def Z4:List (aP):=strsOf En
def apq:List (aP):=strsOf Ug
def apr:List (aP):=strsOf LG
def SL(s:aP):List (aP)->Int->Int
 |[],_=> -1
 |x::l,i=>if x==s then i else SL s l (i+1)
def agA(s:aP):∀(l:List (aP)) (i:Int),0<=i-> -1<=SL s l i/\SL s l i<i+l.length
 |[],i,h=>by simp[SL];omega
 |x::l,i,h=>by
  rw[SL];split
  ·simp;omega
  ·have:=agA s l (i+1) aB;simp only[zlc];omega
def alE(s:aP)(l:List (aP))(hl:l.length<=1048576){b:Int->Option (Int⊕(Int⊕Int))}
  (hb:∀(i:Nat) x,l[i]? =some x->b (i:Int)=some (if x==s then .inr (.inl (i:Int)) else .inl ((i:Int)+1))) (he:b (l.length:Int)=some (.inr (.inr (l.length:Int)))):
  ∃r,gV b 0=some r/\(iD r some λu=>letE u λ_=>some (-1))=some (SL s l 0):=by
 have key:∀(t:List (aP)) (i:Nat),l.drop i=t->i<=l.length->∃r,gV b (i:Int)=some r/\(iD r some λu=>letE u λ_=>some (-1))=some (SL s t (i:Int)):=by
  intro t;induction t with
  |nil=>
   intro i hd hi;have:i=l.length:=by have:=congrArg List.length hd;simp at this;omega
   subst this;exact⟨_,aO he,rfl⟩
  |cons x t ih=>
   intro i hd hi;have hx:l[i]? =some x:=by
    have:(l.drop i)[0]? =some x:=by rw[hd];rfl
    simpa using this
   have hlt:i<l.length:=(Vo.1 hx).1;have hd':l.drop (i+1)=t:=by rw[<-List.drop_drop,hd];rfl
   have hs:=hb i x hx;rw[SL];cases hxs:x==s with
   |true=>rw[hxs] at hs;exact⟨_,aO hs,rfl⟩
   |false=>
    rw[hxs] at hs;obtain⟨r,h1,h2⟩:=ih (i+1) hd' hlt;refine⟨r, ?_, ?_⟩
    ·rw[bD hs,show(i:Int)+1=((i+1:Nat):Int) by omega];exact h1
    ·rw[h2];simp
 exact key l 0 rfl (Nat.zero_le _)
def alF(s:aP)(l:List (aP))(hl:l.length<=1048576):M.zy (encS l) s=some (SL s l 0):=by
 obtain⟨r,h1,h2⟩:=alE s l hl (b:=M.IY (encS l) s)
  (λi x hx=>by have hi:=(Vo.1 hx).1;simp only[M.IY,M.DT,Zg,dM,aeN,hx,Hg,aj,cS0];rw[zdt aB,aI,bT aB aB];cases x==s<;>rfl)
  (by simp only[M.IY,M.DT,Zg];rw[Bq aB,bH])
 simp only[M.zy,M.OO,M.Md];rw[h1,aj];exact h2
def aps(s:aP)(l:List (aP))(hl:l.length<=1048576):M.slices_Index (encS l) s=some (SL s l 0):=by
 obtain⟨r,h1,h2⟩:=alE s l hl (b:=M.GN (encS l) s (l.length:Int))
  (λi x hx=>by have hi:=(Vo.1 hx).1;simp only[M.GN,M.CP,dM,aeN,hx,Hg,aj,cS0];rw[zdt aB,aI,bT aB aB,show(s==x)=(x==s) by rw[Bool.eq_iff_iff,beq_iff_eq,beq_iff_eq];exact⟨Eq.symm,Eq.symm⟩];cases x==s<;>rfl)
  (by simp only[M.GN,M.CP];rw[Bq aB,bH])
 simp only[M.slices_Index,M.Nl,M.KI,Zg];rw[h1,aj];exact h2
def azI(s:aP):Int:=if SL s Z4 0<0 then 0 else 10+SL s Z4 0
def aje(s:aP):Bool:=decide (SL s apr 0>=0)
def apt:M.y8=some (encS Z4):=rfl
def apu:M.yB=some (encS apr):=rfl
def azJ:M.EO=some (encS apq):=rfl
def aE9:List.map (λx=>[x]) En=encS Z4:=rfl
def aB9:List.map (λx=>[x]) LG=encS apr:=rfl
def amG(s:aP):M.xC s=some (azI s)/\M.xH s=some (azI s):=by
 have hr:=agA s Z4 0 aB;have hl:Z4.length=17:=rfl;simp only[M.xC,M.IZ,M.xH,M.Je,apt,aE9,aj,alF s Z4 (by rw[hl];omega),aps s Z4 (by rw[hl];omega),azI]
 by_cases h:SL s Z4 0<0
 ·rw[zdt h,aI,if_pos h];exact⟨rfl,rfl⟩
 ·rw[Bq h,bH,if_neg h,bT aB aB];exact⟨rfl,rfl⟩
def aeO(s:aP):M.qH s=some (aje s)/\M.qL s=some (aje s):=by have hl:apr.length=21:=rfl;simp only[M.qH,M.I4,M.qL,M.Jf,M.slices_Contains,M.GR,apu,aB9,aj,alF s apr (by rw[hl];omega),aps s apr (by rw[hl];omega),aje];constructor<;>first|rfl|trivial
def isL(b:Int):Bool:=(decide (b>=97) && decide (b<=122))||((decide (b>=65) && decide (b<=90))||(b==95))
def isW(b:Int):Bool:=isL b||isD b
def agB(b:Int):M.sQ b=some (isL b)/\M.sU b=some (isL b):=by simp only[M.sQ,M.Kv,M.jW,M.Ci,M.sU,M.KH,isL];cases decide (b>=97)<;>cases decide (b<=122)<;>cases decide (b>=65)<;>cases decide (b<=90)<;>cases(b==95)<;>exact⟨rfl,rfl⟩
def acI(b:Int):M.uN b=some (isW b)/\M.uQ b=some (isW b):=by simp only[M.uN,M.Gv,M.uQ,M.GK,agB,apn,apo,aj,isW];cases isL b<;>cases isD b<;>exact⟨rfl,rfl⟩
def azK(s:aP):Bool:=s.all λc=>isW (c.toNat:Int)
def aTc:aP->Bool
 |[]=>false
 |c::_=>isL (c.toNat:Int)
def Uw(s:aP):Bool:=azK s &&((decide ((s.length:Int)>=1) && decide ((s.length:Int)<=12)) && aTc s)
def ajf(s:aP){b:Int->Option (Int⊕(Unit⊕Int))}
  (hb:∀(i:Nat) c,s[i]? =some c->b (i:Int)=some (bif isW (c.toNat:Int) then .inl ((i:Int)+1) else .inr (.inl ()))) (he:b (s.length:Int)=some (.inr (.inr (s.length:Int)))):
  gV b 0=some (bif azK s then .inr (s.length:Int) else .inl ()):=by
 have key:∀(t:aP) (i:Nat),s.drop i=t->i<=s.length->gV b (i:Int)=some (bif azK t then .inr (s.length:Int) else .inl ()):=by
  intro t;induction t with
  |nil=>
   intro i hd hi;have:i=s.length:=by have:=congrArg List.length hd;simp at this;omega
   subst this;exact aO he
  |cons x t ih=>
   intro i hd hi;have hx:s[i]? =some x:=by
    have:(s.drop i)[0]? =some x:=by rw[hd];rfl
    simpa using this
   have hlt:i<s.length:=(Vo.1 hx).1;have hd':s.drop (i+1)=t:=by rw[<-List.drop_drop,hd];rfl
   have hs:=hb i x hx;rw[azK,List.all_cons];cases hw:isW (x.toNat:Int) with
   |true=>rw[hw,aI] at hs;rw[bD hs,show(i:Int)+1=((i+1:Nat):Int) by omega,ih (i+1) hd' hlt,Bool.true_and];rfl
   |false=>rw[hw,bH] at hs;rw[aO hs];rfl
 exact key s 0 rfl (Nat.zero_le _)
def amH(s:aP)(h:s.length<=1048576):M.xB s=some (Uw s)/\M.xG s=some (Uw s):=by
 have hw:∀c:UInt8,i64.wrap ((c.toNat:Nat):Int)=(c.toNat:Int):=λc=>by have:=as2 c;exact bT aB aB
 have h1:=ajf s (b:=M.Dy s)
  (λi c hc=>by have hi:=(Vo.1 hc).1;simp only[M.Dy,M.yN,dM,hc,aj,hw,acI];rw[zdt aB,aI,bT aB aB];cases isW (c.toNat:Int)<;>rfl)
  (by simp only[M.Dy,M.yN];rw[Bq aB,bH])
 have h2:=ajf s (b:=M.DC s (s.length:Int))
  (λi c hc=>by have hi:=(Vo.1 hc).1;simp only[M.DC,M.yQ,dM,hc,aj,hw,acI];rw[zdt aB,aI,bT aB aB];cases isW (c.toNat:Int)<;>rfl)
  (by simp only[M.DC,M.yQ];rw[Bq aB,bH])
 simp only[M.xB,M.IX,M.xG,M.Jd,M.Gw,M.GL,M.jW,M.Ci,M.jI,M.Dp];rw[h1,h2,aj,aj,Uw];cases azK s with
 |false=>exact⟨rfl,rfl⟩
 |true=>
  simp only[aI,iD,letE,Bool.true_and];cases s with
  |nil=>exact⟨rfl,rfl⟩
  |cons c l=>have hi:idx (c::l) 0=some c:=rfl;simp only[hi,aj,hw,agB];cases decide (((c::l).length:Int)>=1)<;>cases decide (((c::l).length:Int)<=12)<;>exact⟨rfl,rfl⟩
def afB(s:aP):Bool:=Uw s &&((azI s==0) && !(aje s))
def avE(s:aP)(h:s.length<=1048576):M.BP s=some (afB s)/\M.BZ s=some (afB s):=by have h1:=amH s h;simp only[M.BP,M.OQ,M.BZ,M.O1,h1.1,h1.2,amG,aeO,aj,afB];cases Uw s<;>cases azI s==0<;>cases aje s<;>exact⟨rfl,rfl⟩
end Go.Proofs.YtoaeipkhadpbiaaGreatDoor
namespace Go.Proofs.YtoaeipkhadpbiaaGreatDoor
set_option linter.unusedVariables false
set_option linter.unusedSimpArgs false
set_option linter.unusedSectionVars false
open Go Go.Vm
open Go.IntKind (i64)
def aMr(c:UInt8)(n:Nat)(h:n<256):(((c.toNat:Nat):Int)==(n:Int))=(c==UInt8.ofNat n):=by
 rw[Bool.eq_iff_iff,beq_iff_eq,beq_iff_eq];constructor
 ·intro e;apply UInt8.toNat_inj.1;rw[UInt8.toNat_ofNat',Nat.mod_eq_of_lt h];omega
 ·rintro rfl;rw[UInt8.toNat_ofNat',Nat.mod_eq_of_lt h]
def hasB(c:UInt8)(s:aP):Bool:=s.any (· ==c)
def avF(s:aP)(c:UInt8):decide (0<=Lib.indexByte s c)=hasB c s:=by
 have hge:=Lib.indexByte_ge s c;rw[Bool.eq_iff_iff,decide_eq_true_eq,hasB,List.any_eq_true];constructor
 ·intro h;obtain⟨i,hi⟩:∃i:Nat,Lib.indexByte s c=i:=⟨(Lib.indexByte s c).toNat,aB⟩
  exact⟨c,zmg (Lib.indexByte_some hi).1,by simp⟩
 ·rintro⟨x,hx,hc⟩;have:=beq_iff_eq.1 hc;subst this;rcases Int.lt_or_le (Lib.indexByte s x) 0 with h|h
  ·obtain⟨i,hi⟩:=List.mem_iff_getElem?.1 hx;exact absurd hi (Lib.indexByte_none aB i)
  ·exact h
def azL(s:aP)(h:s.length<=1000000000):M.BO s=some (!(hasB 10 s)):=by
 have key:∀(t:aP) (i:Nat),s.drop i=t->i<=s.length->gV (M.Ce s) (i:Int)=some (bif hasB 10 t then .inl () else .inr (s.length:Int)):=by
  intro t;induction t with
  |nil=>
   intro i hd hi;have:i=s.length:=by have:=congrArg List.length hd;simp at this;omega
   subst this;refine aO ?_;simp only[M.Ce,M.Cc];rw[Bq aB,bH];rfl
  |cons x t ih=>
   intro i hd hi;have hx:s[i]? =some x:=by
    have:(s.drop i)[0]? =some x:=by rw[hd];rfl
    simpa using this
   have hlt:i<s.length:=(Vo.1 hx).1;have hd':s.drop (i+1)=t:=by rw[<-List.drop_drop,hd];rfl
   have hs:M.Ce s (i:Int)=some (bif x==10 then .inr (.inl ()) else .inl ((i:Int)+1)):=by simp only[M.Ce,M.Cc,dM,hx,aj];rw[zdt aB,aI,show(10:Int)=((10:Nat):Int) from rfl,aMr _ _ aB,bT aB aB,show(x==UInt8.ofNat 10)=(x==10) from rfl];cases x==10<;>rfl
   rw[hasB,List.any_cons];cases hc:x==10 with
   |true=>rw[hc,aI] at hs;rw[aO hs];rfl
   |false=>rw[hc,bH] at hs;rw[bD hs,show(i:Int)+1=((i+1:Nat):Int) by omega,ih (i+1) hd' hlt,Bool.false_or];rfl
 have:=key s 0 rfl (Nat.zero_le _);rw[Zf] at this;simp only[M.BO,M.L9,M.Kr];rw[this,aj];cases hasB 10 s<;>rfl
def aCa:∀i,i<17->cStr En i=Z4[i]? :=by decide+kernel
def aCb:∀i,i<39->cStr Ug i=apq[i]? :=by decide+kernel
def spell(k:Int):aP:=if k=1 then[10] else if 10<=k/\k<=26 then Z4[(k - 10).toNat]?.getD [] else if 30<=k/\k<=68 then apq[(k - 30).toNat]?.getD [] else[]
def ajg(k:Int)(hk:I64 k):M.mV k=some (spell k)/\M.Cb k=some (spell k):=by
 have l1:Z4.length=17:=rfl;have l2:apq.length=39:=rfl;simp only[M.mV,M.MB,M.Cb,M.Np,M.qV,M.CQ,M.yC,M.GU,M.jI,M.Dp,M.jW,M.Ci,apt,azJ,aj,spell]
 by_cases h1:k=1
 ·subst h1;exact⟨rfl,rfl⟩
 ·rw[show(k==1)=false by simpa using h1,bH,bH,if_neg h1]
  by_cases h2:10<=k/\k<=26
  ·obtain⟨i,hi⟩:∃i:Nat,k=10+i:=⟨(k - 10).toNat,aB⟩
   have hw:i64.wrap (k - 10)=(i:Int):=by rw[bT aB aB];omega
   obtain⟨x,hx⟩:∃x,Z4[i]? =some x:=⟨Z4[i]'aB,by simp⟩
   rw[if_pos h2,zdt (show k>=10 by omega),aI,zdt (show k<=26 by omega),hw,zdt (show(0:Int)<=(i:Int) by omega),zdt (show(i:Int)<17 by omega)];simp only[aj,aI,dM,ztn,aeN,hx,Hg,cS0,Bool.and_self,Nat.zero_add,Nat.mul_one,aCa i aB];rw[show(k - 10).toNat=i by omega,hx];exact⟨rfl,rfl⟩
  ·have hf:(bif decide (k>=10) then some (decide (k<=26)) else some false)=some false:=by
    by_cases h3:k>=10
    ·rw[zdt h3,aI,Bq aB]
    ·rw[Bq h3,bH]
   rw[if_neg h2,hf];simp only[aj,bH]
   by_cases h4:30<=k/\k<=68
   ·obtain⟨i,hi⟩:∃i:Nat,k=30+i:=⟨(k - 30).toNat,aB⟩
    have hw:i64.wrap (k - 30)=(i:Int):=by rw[bT aB aB];omega
    obtain⟨x,hx⟩:∃x,apq[i]? =some x:=⟨apq[i]'aB,by simp⟩
    rw[if_pos h4,zdt (show k>=30 by omega),aI,zdt (show k<=68 by omega),hw,zdt (show(0:Int)<=(i:Int) by omega),zdt (show(i:Int)<39 by omega)];simp only[aj,aI,dM,ztn,aeN,hx,Hg,cS0,Bool.and_self,Nat.zero_add,Nat.mul_one,aCb i aB];rw[show(k - 30).toNat=i by omega,hx];exact⟨rfl,rfl⟩
   ·have hf:(bif decide (k>=30) then some (decide (k<=68)) else some false)=some false:=by
     by_cases h3:k>=30
     ·rw[zdt h3,aI,Bq aB]
     ·rw[Bq h3,bH]
    rw[if_neg h4,hf];exact⟨rfl,rfl⟩
def NM(k:Int)(s:aP):Bool:=bif s==[] then false else
 bif k==2 then(QG s 0==35) && !(hasB 10 s) else bif k==3 then aja s 0==(s.length:Int) else bif k==4 then quoted s 0 34==(s.length:Int) else bif k==5 then ajd s 0==(s.length:Int) else
 bif k==6 then afB s else bif k==7 then afB s else bif k==8 then aje s else s==spell k
def ajh(k:Int)(s:aP)(a:Int)(h:s.length<=1048576)(hk:I64 k):M.y9 k s a=some (NM k s)/\M.zi k s a=some (NM k s):=by
 have hn:=avE s h;have hb:=aeO s;have hst:=avC h 0 aB aB;have her:=avD h 0 aB aB;have hsp:=ajg k hk;have hct:M.strings_Contains s [10]=some (hasB 10 s):=by rw[M.strings_Contains,avF]
 simp only[M.y9,M.MC,M.zi,M.Nq,hn.1,hn.2,hb.1,hb.2,hst.1,hst.2,her.1,her.2,hsp.1,hsp.2,hct,azL s aB,ajc h 0 aB,ajb h 0 aB,aj,NM];cases s with
 |nil=>refine⟨?_,rfl⟩;have q1:afB []=false:=rfl;have q2:aje []=false:=rfl;have q3:(quoted [] 0 34==(([]:aP).length:Int))=false:=rfl;have q4:(ajd [] 0==(([]:aP).length:Int))=false:=rfl;rw[q1,q2,q3,q4];cases k==2<;>cases k==3<;>cases k==4<;>cases k==5<;>cases k==6<;>cases k==7<;>cases k==8<;>rfl
 |cons c l=>
  have hi:idx (c::l) 0=some c:=rfl;have hb0:QG (c::l) 0=(c.toNat:Int):=rfl;have hne:((c::l:aP)==[])=false:=rfl;have hgt:decide (((c::l).length:Int)>0)=true:=by simp
  have hsw:(spell k==c::l)=(c::l==spell k):=by rw[Bool.eq_iff_iff,beq_iff_eq,beq_iff_eq];exact⟨Eq.symm,Eq.symm⟩
  rw[hi,hb0,hne,hgt,hsw];simp only[aj,aI,bH,Bool.not_false];cases k==2<;>cases k==3<;>cases k==4<;>cases k==5<;>cases k==6<;>cases k==7<;>cases k==8<;>cases(c.toNat:Int)==35<;>exact⟨rfl,rfl⟩
end Go.Proofs.YtoaeipkhadpbiaaGreatDoor
namespace Go.Proofs.YtoaeipkhadpbiaaGreatDoor
set_option linter.unusedVariables false
set_option linter.unusedSimpArgs false
set_option linter.unusedSectionVars false
open Go Go.Vm
open Go.IntKind (i64)
def as3(x a b:Int):M.jW x a b=some (decide (x>=a) && decide (x<=b)):=by simp only[M.jW,M.Ci];cases decide (x>=a)<;>rfl
def avG(x a b:Int):M.jI x a b=some (decide (x>=a) && decide (x<=b)):=as3 x a b
def aji(op:Int):Bool:=op==54||(decide (op>=38) && decide (op<=43))
def agC(op:Int):M.uO op=some (aji op)/\M.zF op=some (aji op):=by simp only[M.uO,M.Gx,M.zF,M.KL,as3,avG,aj,aji];cases op==54<;>exact⟨rfl,rfl⟩
end Go.Proofs.YtoaeipkhadpbiaaGreatDoor
namespace Go.Proofs.YtoaeipkhadpbiaaGreatDoor
set_option linter.unusedVariables false
set_option linter.unusedSimpArgs false
set_option linter.unusedSectionVars false
open Go Go.Vm
open Go.IntKind (i64)
structure Cons(k op:Int)(n:Nat):Prop where
 two:k=29\/k=30->n=2
 four:k=31->n=4
 rule:k=42->(op=1/\n=1)\/(op=2/\n=1)\/(op=3/\n=2)
 range:k=43->(op=1/\n=2)\/(op=3/\n=3)
def arE(k:Int):Bool:=k==1||(k==5||k==6)
end Go.Proofs.YtoaeipkhadpbiaaGreatDoor
namespace Go.Proofs.YtoaeipkhadpbiaaGreatDoor
set_option linter.unusedVariables false
set_option linter.unusedSimpArgs false
open Go Go.Vm
open Go.IntKind (i64)
def TA{α:Type}(a:List α)(b:List α)(x y:α):(a++x::b).set a.length y=a++y::b:=by
 induction a with
 |nil=>rfl
 |cons z a ih=>simp[ih]
def filled{α β:Type}(f:α->β)(z:β)(l:List α)(i:Nat):List β:=(l.take i).map f++List.replicate (l.length - i) z
def apv{α β:Type}(f:α->β)(z:β)(l:List α):filled f z l 0=List.replicate l.length z:=by simp[filled]
def arF{α β:Type}(f:α->β)(z:β)(l:List α):filled f z l l.length=l.map f:=by simp[filled]
def arG{α β:Type}(f:α->β)(z:β)(l:List α){i:Nat}(h:i<l.length):(filled f z l i)[i]? =some z:=by unfold filled;rw[List.getElem?_append_right (by simp;omega)];simp[List.getElem?_replicate];omega
def arH{α β:Type}(f:α->β)(z:β)(l:List α){i:Nat}{x:α}(h:l[i]? =some x):(filled f z l i).set i (f x)=filled f z l (i+1):=by
 have hlt:=(Vo.1 h).1;unfold filled;have hn:l.length - i=(l.length - (i+1))+1:=aB;rw[hn,List.replicate_succ];have hl:((l.take i).map f).length=i:=by simp;omega
 have:=TA ((l.take i).map f) (List.replicate (l.length - (i+1)) z) z (f x);rw[hl] at this;rw[this,List.take_add_one,h];simp
def apw(k:List Int)(hk:k.length<=maxLen):M.ED (encI k) (encI k)=some true:=by
 unfold maxLen at hk;simp only[M.ED,M.O6,bne_self_eq_false,bH];have hloop:=og (b:=M.Jk (encI k) (encI k)) (t:=.inr ((k.length:Int))) (λi=>(i:Int)) k.length
  (by
   intro i hi;obtain⟨x,hx⟩:∃x,k[i]? =some x:=⟨k[i],by simp[hi]⟩
   simp only[M.Jk,M.Ee,mg,dM,JU,hx,Hg,aj,cI0,bne_self_eq_false,bH];rw[zdt aB,aI,bT aB aB];simp)
  (by simp only[M.Jk,M.Ee,mg];rw[Bq aB,bH]) 0 (Nat.zero_le _)
 have h0':((0:Nat):Int)=0:=rfl;rw[h0'] at hloop;rw[M.ND,hloop,aj];rfl
def apx(n:Nd)(hk:n.kids.length<=maxLen):M.EF n.kind n.op n.text n.other (encI n.kids) n.kind n.op n.text n.other (encI n.kids)=some true:=by simp only[M.EF,M.O7,bne_self_eq_false,bH,beq_self_eq_true,zaM];rw[apw _ hk];rfl
def amI(l:List Nd)(o o':Bool)(hl:l.length<=maxLen)(hk:∀n,n∈l->n.kids.length<=maxLen):M.xk (aV o l) (aV o' l)=some true:=by
 unfold maxLen at hl;simp only[M.xk,M.NG,gG,bne_self_eq_false,bH];have hloop:=og (b:=M.G7 (aV o l) (aV o' l)) (t:=.inr ((l.length:Int))) (λi=>(i:Int)) l.length
  (by
   intro i hi;obtain⟨x,hx⟩:∃x,l[i]? =some x:=⟨l[i],by simp[hi]⟩
   simp only[Em,M.G7,M.CY,gG,dM,zM,hx,Hg,aj,cN0,cN1,cN2,cN3,cN4,apx x (hk x (zmg hx)),zaM,bH];rw[zdt aB,aI,bT aB aB];simp)
  (by simp only[Em,M.G7,M.CY,gG];rw[Bq aB,bH]) 0 (Nat.zero_le _)
 have h0':((0:Nat):Int)=0:=rfl;rw[h0'] at hloop;rw[M.KO,hloop,aj];rfl
def amJ(x lo hi:Int):M.jW x lo hi=some (decide (lo<=x) && decide (x<=hi)):=by
 simp only[M.jW,M.Ci]
 by_cases h:lo<=x
 ·rw[zdt (show x>=lo from h)];rfl
 ·rw[Bq (show¬x>=lo from h)];rfl
def aeP(l:List Nd)(o:Bool){i:Nat}{n:Nd}{st:List Int}(hi:l[i]? =some n)(hl:l.length<=1048576)(hkl:n.kids.length<=1048576)(hst:aeh st)(hs:st.length=i):
  ∀(j:Nat) (a:Int),j<=n.kids.length->0<=a->a<=i->M.vZ (aV o l) (i:Int) (encI st) (a,(j:Int) - 1)=some (match lM st (n.kids.take j).reverse (a - 1) with
   |none=> .inl ()
   |some r=> .inr (r+1, -1))
 |0,a,hj,h0,h1=>by rw[M.vZ];apply aO;simp only[M.Fe,M.Ar];rw[Bq aB,bH,List.take_zero,List.reverse_nil,lM];simp
 |j+1,a,hj,h0,h1=>by
  have hlt:i<l.length:=(Vo.1 hi).1;obtain⟨k,hk⟩:∃k,n.kids[j]? =some k:=⟨n.kids[j]'aB,by simp⟩
  have ht:(n.kids.take (j+1)).reverse=k::(n.kids.take j).reverse:=by rw[List.take_add_one,hk,Option.toList_some,List.reverse_append];rfl
  rw[ht,lM];have e1:(((j+1:Nat):Int) - 1)=(j:Int):=aB;rw[e1];have hstep:M.Fe (aV o l) (i:Int) (encI st) (a,(j:Int))=if a - 1<0\/k≠a - 1 then some (.inr (.inl ())) else some (.inl (st[k.toNat]?.getD 0,(j:Int) - 1)):=by
   simp only[M.Fe,M.Ar,dM,zM,hi,Hg,aj,cN4,JU,hk,cI0];rw[zdt aB,aI,bT (n:=a - 1) aB aB]
   by_cases h2:k=a - 1
   ·have:(k !=a - 1)=false:=by simp[h2]
    rw[this,bH]
    by_cases h3:a=0
    ·have:(a==0)=true:=by simp[h3]
     rw[this,aI,if_pos (.inl aB)]
    ·have:(a==0)=false:=by simp[h3]
     rw[this,bH,if_neg aB];obtain⟨d,hd⟩:∃d:Nat,a - 1=(d:Int):=⟨(a - 1).toNat,aB⟩
     have hdl:d<st.length:=aB;rw[h2,hd];simp only[anK,dM,JU,ztn];rw[List.getElem?_eq_getElem hdl];simp only[Hg,aj,cI0,Option.getD_some];rw[bT aB aB]
   ·have:(k !=a - 1)=true:=by simp[h2]
    rw[this,aI,if_pos (.inr h2)]
  by_cases hc:a - 1<0\/k≠a - 1
  ·rw[if_pos hc];rw[if_pos hc] at hstep;exact aO hstep
  ·rw[if_neg hc];rw[if_neg hc] at hstep;rw[M.vZ,bD hstep];have hz:=aei hst k.toNat;have:=aeP l o hi hl hkl hst hs j (st[k.toNat]?.getD 0) aB hz.1 aB;rw[M.vZ] at this;exact this
def acJ(l:List Nd)(o:Bool)(hl:l.length<=1048576)(hk:∀n,n∈l->n.kids.length<=1048576):∀(rest:List Nd) (i:Nat) (st:List Int),l.drop i=rest->st.length=i->i<=l.length->aeh st->
  M.wo (aV o l) ((i:Int),encI st)=some (match kH st (ks rest) with
   |none=> .inl ()
   |some r=> .inr ((l.length:Int),encI r))
 |[],i,st,hd,hs,hi,hst=>by have:l.length<=i:=List.drop_eq_nil_iff.1 hd;rw[M.wo];apply aO;simp only[Em,M.Fg,M.Au,gG];rw[Bq aB,bH];have:i=l.length:=aB;subst this;rfl
 |n::rest,i,st,hd,hs,hi,hst=>by
  have hn:l[i]? =some n:=by
   have:(l.drop i)[0]? =some n:=by rw[hd];rfl
   simpa using this
  have hlt:i<l.length:=(Vo.1 hn).1;have hd':l.drop (i+1)=rest:=by rw[<-List.drop_drop,hd];rfl
  have hkn:=hk n (zmg hn);have hin:=aeP l o hn hl hkn hst hs n.kids.length (i:Int) (zaN _) aB aB;rw[List.take_length] at hin;have hks:ks (n::rest)=n.kids::ks rest:=rfl;rw[hks,kH,hs];have hstep:M.Fg (aV o l) ((i:Int),encI st)=some (match lM st n.kids.reverse ((i:Int) - 1) with
    |none=> .inr (.inl ())
    |some a=> .inl (((i+1:Nat):Int),encI (st++[a+1]))):=by
   simp only[Em,M.Fg,M.Au,gG,dM,zM,hn,Hg,aj,cN4,mg];rw[zdt aB,aI,bT (n:=(n.kids.length:Int) - 1) aB aB,hin];cases hw:lM st n.kids.reverse ((i:Int) - 1) with
   |none=>rfl
   |some a=>simp only[aj,iD,letE,y7];rw[bK aB,aI,bK aB,aI,bT aB aB];simp[encI]
  cases hw:lM st n.kids.reverse ((i:Int) - 1) with
  |none=>rw[hw] at hstep;exact aO hstep
  |some a=>rw[hw] at hstep;rw[M.wo,bD hstep];have hr:=Q8 hst _ _ _ aB aB hw;have:=acJ l o hl hk rest (i+1) (st++[a+1]) hd' (by simp[hs]) hlt (ZE hst hr.1 hr.2);rw[M.wo] at this;exact this
def ag0(l:List Nd)(o:Bool)(hl:l.length<=1048576)(hk:∀n,n∈l->n.kids.length<=1048576):M.BU (aV o l)=some (Q7 l):=by
 simp only[M.BU,M.MX,amJ,aj,gG]
 by_cases h1:1<=l.length/\l.length<=400
 ·have hb:(decide ((1:Int)<=(l.length:Int)) && decide ((l.length:Int)<=400))=true:=by simp;omega
  rw[hb,zaM,bH];have h:=acJ l o hl hk l 0 [] rfl rfl (Nat.zero_le _) aej;have e0:((0:Nat):Int)=0:=rfl;rw[e0] at h;simp only[M.Dk,M.KF];rw[show([]:aA)=encI [] from rfl,h,Q7,Hy,if_pos (by rw[Om];exact h1)];cases hs:kH [] (ks l) with
  |none=>rfl
  |some r=>
   have hrl:r.length=l.length:=by have:=adp _ _ _ hs;rw[Om] at this;simpa using this
   simp only[aj,iD,letE,Ol,aI];rw[bT aB aB,show(l.length:Int) - 1=((l.length - 1:Nat):Int) by omega];simp only[anK,dM,JU,ztn];rw[List.getElem?_eq_getElem aB];simp only[Hg,aj,cI0,Option.getD_some]
 ·have hb:(decide ((1:Int)<=(l.length:Int)) && decide ((l.length:Int)<=400))=false:=by
   cases hq:(decide ((1:Int)<=(l.length:Int)) && decide ((l.length:Int)<=400)) with
   |false=>rfl
   |true=>simp at hq;omega
  rw[hb,Bool.not_false,aI,Q7,Hy,if_neg (by rw[Om];exact h1)]
def alG{st:List Int}(h:aeh st):∀(l:List Int) (a r:Int),a<st.length->lM st l a=some r->∀k,k∈l->0<=k/\k<st.length
 |[],a,r,h1,e,k,hk=>absurd hk List.not_mem_nil
 |x::l,a,r,h1,e,k,hk=>by
  rw[lM] at e;split at e
  ·cases e
  ·rename_i hc;have hz:=aei h x.toNat;rcases List.mem_cons.1 hk with rfl|hk
   ·omega
   ·exact alG h l _ r aB e k hk
def agD:∀(l:List (List Int)) (st r:List Int),aeh st->kH st l=some r->∀(i:Nat) n,l[i]? =some n->∀k,k∈n->0<=k/\k<st.length+i
 |[],st,r,h0,h,i,n,hn=>by simp at hn
 |m::l,st,r,h0,h,i,n,hn=>by
  rw[kH] at h;split at h
  ·cases h
  ·rename_i a ha;have hr:=Q8 h0 _ _ _ aB aB ha;cases i with
   |zero=>simp only[List.getElem?_cons_zero,iI] at hn;subst hn;intro k hk;have:=alG h0 _ _ _ aB ha k (List.mem_reverse.2 hk);omega
   |succ i=>simp only[List.getElem?_cons_succ] at hn;intro k hk;have:=agD l _ r (ZE h0 hr.1 hr.2) h i n hn k hk;simp at this;omega
def avH{l:List Nd}(h:Q7 l=true):1<=l.length/\l.length<=400:=by
 unfold Q7 at h;cases hs:Hy (ks l) with
 |none=>rw[hs] at h;cases h
 |some r=>
  unfold Hy at hs;split at hs
  ·rename_i hq;rw[Om] at hq;exact hq
  ·cases hs
def acK:∀(l:List (List Int)) (st r:List Int),kH st l=some r->∃t,r=st++t
 |[],st,r,h=>by rw[kH] at h;cases h;exact⟨[],by simp⟩
 |n::l,st,r,h=>by
  rw[kH] at h;split at h
  ·cases h
  ·obtain⟨t,ht⟩:=acK l _ r h;exact⟨_,by rw[ht,KW]⟩
def apy{st t:List Int}(h:aeh st):∀(ks:List Int) (a:Int),a<st.length->lM (st++t) ks a=lM st ks a
 |[],a,_=>rfl
 |k::ks,a,ha=>by
  rw[lM,lM];split
  ·rfl
  ·rename_i hc;have hk:k.toNat<st.length:=aB;have e:(st++t)[k.toNat]? =st[k.toNat]? :=List.getElem?_append_left hk;rw[e];have hz:=aei h k.toNat;exact apy h ks _ aB
def alH:∀(l:List (List Int)) (st r:List Int),aeh st->kH st l=some r->∀(i:Nat) n,l[i]? =some n->∃a,lM r n.reverse ((st.length:Int)+i - 1)=some a/\r[st.length+i]? =some (a+1)
 |[],st,r,h0,h,i,n,hn=>by simp at hn
 |m::l,st,r,h0,h,i,n,hn=>by
  rw[kH] at h;split at h
  ·cases h
  ·rename_i a ha;have hr:=Q8 h0 _ _ _ aB aB ha;obtain⟨t,ht⟩:=acK l _ r h;cases i with
   |zero=>
    simp only[List.getElem?_cons_zero,iI] at hn;subst hn;refine⟨a, ?_, ?_⟩
    ·rw[ht,KW,apy h0 _ _ (by simp;omega)];simpa using ha
    ·rw[ht];simp
   |succ i=>
    simp only[List.getElem?_cons_succ] at hn;obtain⟨b,h1,h2⟩:=alH l _ r (ZE h0 hr.1 hr.2) h i n hn;refine⟨b, ?_, ?_⟩
    ·rw[<-h1];congr 1;simp;omega
    ·rw[<-h2];congr 1;simp;omega
def aeQ:List Int->Int
 |[]=>0
 |x::l=>x+aeQ l
def agE:∀(a b:List Int),aeQ (a++b)=aeQ a+aeQ b
 |[],b=>by simp[aeQ]
 |x::a,b=>by rw[zca,aeQ,aeQ,agE a b];omega
def aeR:∀l:List Int,aeQ l.reverse=aeQ l
 |[]=>rfl
 |x::l=>by rw[List.reverse_cons,agE,aeR l];simp[aeQ];omega
def sz(r:List Int)(k:Int):Int:=k - (r[k.toNat]?.getD 0)+1
def apz(r:List Int):∀(ks:List Int) (a b:Int),lM r ks a=some b->aeQ (ks.map (sz r))=a - b
 |[],a,b,h=>by rw[lM] at h;cases h;simp[aeQ]
 |k::ks,a,b,h=>by
  rw[lM] at h;split at h
  ·cases h
  ·rename_i hc;have:=apz r ks _ b h;rw[zmc,aeQ,this,sz];omega
structure Val(l:List Nd)(r:List Int):Prop where
 st:kH [] (ks l)=some r
 pos:1<=l.length
 le:l.length<=400
def aFa{l:List Nd}(h:Q7 l=true):∃r,Val l r:=by
 have hl:=avH h;unfold Q7 at h;cases hs:Hy (ks l) with
 |none=>rw[hs] at h;cases h
 |some r=>
  unfold Hy at hs;split at hs
  ·exact⟨r,hs,hl.1,hl.2⟩
  ·cases hs
section
variable {l:List Nd} {r:List Int}
def Val.len(h:Val l r):r.length=l.length:=by have:=adp _ _ _ h.st;rw[Om] at this;simpa using this
def Val.ok(h:Val l r):aeh r:=akQ _ _ _ aej h.st
def Val.kids(h:Val l r){i:Nat}{n:Nd}(hn:l[i]? =some n):∀k,k∈n.kids->0<=k/\k<i:=by have:=agD _ _ _ aej h.st i n.kids (by simp[ks,hn]);simpa using this
def Val.sum(h:Val l r){i:Nat}{n:Nd}(hn:l[i]? =some n):aeQ (n.kids.map (sz r))+1=sz r i:=by obtain⟨a,h1,h2⟩:=alH _ _ _ aej h.st i n.kids (by simp[ks,hn]);have:=apz r _ _ _ h1;rw[List.map_reverse,aeR] at this;simp at h2;rw[this,sz,ztn,h2];simp;omega
end
def amK(l:List Nd)(i:Nat):List Int:=match l[i]? with|some n=>n.kids|none=>[]
def afC{l:List Nd}{i:Nat}{n:Nd}(h:l[i]? =some n):amK l i=n.kids:=by rw[amK,h]
def mx:Int->List Int->Int
 |a,[]=>a
 |a,x::l=>mx (bif decide (a<x) then x else a) l
def aeS(B:Int):∀(l:List Int) (a:Int),a<=B->(∀x,x∈l->x<=B)->a<=mx a l/\mx a l<=B
 |[],a,h,_=>⟨Int.le_refl _,h⟩
 |x::l,a,h,hl=>by
  have hx:=hl x List.mem_cons_self;rw[mx]
  by_cases c:a<x
  ·rw[zdt c,aI];have:=aeS B l x hx λy hy=>hl y (zmm _ hy)
   omega
  ·rw[Bq c,bH];exact aeS B l a h λy hy=>hl y (zmm _ hy)
def amL:∀(l:List Int) (a x:Int),mx a (l++[x])=(bif decide (mx a l<x) then x else mx a l)
 |[],a,x=>rfl
 |y::l,a,x=>by rw[zca,mx,mx,amL l]
def azM:∀(l:List Int) (a:Int),mx (1+a) (l.map λd=>1+d)=1+mx a l
 |[],a=>rfl
 |x::l,a=>by
  rw[zmc,mx,mx,<-azM l]
  by_cases c:a<x
  ·rw[zdt c,aI,zdt aB,aI]
  ·rw[Bq c,bH,Bq aB,bH]
def dep(l:List Nd):Nat->Nat->Int
 |0,_=>0
 |f+1,i=>mx 0 ((amK l i).map λk=>dep l f k.toNat)+1
def alI(l:List Nd):∀f i,0<=dep l f i/\dep l f i<=f
 |0,i=>by simp[dep]
 |f+1,i=>by have:=aeS (f:Int) ((amK l i).map λk=>dep l f k.toNat) 0 aB (λx hx=>by obtain⟨k,_,rfl⟩:=List.mem_map.1 hx;exact(alI l f k.toNat).2);rw[dep];omega
section
variable {l:List Nd} {r:List Int} {o:Bool}
def apA(h:Val l r):∀(f f' i:Nat),i<f->i<f'->i<l.length->dep l f i=dep l f' i
 |0,_,i,h1,_,_=>absurd h1 (Nat.not_lt_zero _)
 |f+1,0,i,_,h2,_=>absurd h2 (Nat.not_lt_zero _)
 |f+1,f'+1,i,h1,h2,h3=>by
  obtain⟨n,hn⟩:∃n,l[i]? =some n:=⟨l[i],by simp⟩
  rw[dep,dep,afC hn];congr 2;refine List.map_congr_left λk hk=> ?_
  have hkr:=h.kids hn k hk;exact apA h f f' k.toNat aB aB aB
def ajj(l:List Nd)(i:Nat):List Int:=(List.range i).map λj=>dep l (j+1) j
def azN(l:List Nd)(i:Nat):(ajj l i).length=i:=by simp[ajj]
def apB(l:List Nd){i j:Nat}(h:j<i):(ajj l i)[j]? =some (dep l (j+1) j):=by simp[ajj,List.getElem?_range h]
def avI(l:List Nd)(i:Nat):ajj l (i+1)=ajj l i++[dep l (i+1) i]:=by simp[ajj,List.range_succ]
def apC(h:Val l r){i:Nat}{n:Nd}(hn:l[i]? =some n)(hk:n.kids.length<=1048576):M.Gi (aV o l) (i:Int) (encI (ajj l i)) (1,0)=some (dep l (i+1) i,(n.kids.length:Int)):=by
 have hil:=(Vo.1 hn).1;have hle:=h.le;have hdk:∀k,k∈n.kids->dep l i k.toNat=dep l (k.toNat+1) k.toNat:=λk hkm=>by have:=h.kids hn k hkm;exact apA h _ _ _ aB aB aB
 have hval:∀(j:Nat),(1:Int)+mx 0 ((n.kids.take j).map λk=>dep l i k.toNat)=mx 1 ((n.kids.take j).map λk=>1+dep l i k.toNat):=λj=>by have:=azM ((n.kids.take j).map λk=>dep l i k.toNat) 0;rw[List.map_map] at this;exact this.symm
 have hloop:=og (b:=M.Gz (aV o l) (i:Int) (encI (ajj l i))) (t:=(dep l (i+1) i,(n.kids.length:Int))) (λj=>(mx 1 ((n.kids.take j).map λk=>1+dep l i k.toNat),(j:Int))) n.kids.length
  (by
   intro j hj;obtain⟨k,hkj⟩:∃k,n.kids[j]? =some k:=⟨n.kids[j],by simp⟩
   have hkm:=zmg hkj;have hkr:=h.kids hn k hkm;obtain⟨q,hq⟩:∃q:Nat,k=q:=⟨k.toNat,aB⟩
   have hd:=hdk k hkm;have hr:=alI l (q+1) q;subst hq;rw[ztn] at hd;simp only[M.Gz,M.CJ,dM,zM,hn,Hg,aj,cN4,mg,JU,hkj,cI0,ztn,apB l (show q<i by omega)];rw[zdt aB,aI,bT (n:=(j:Int)+1) aB aB,bT (n:=1+dep l (q+1) q) aB aB,List.take_add_one,hkj,Option.toList_some,List.map_append,zmc,List.map_nil,amL,ztn,hd];rfl)
  (by simp only[M.Gz,M.CJ,dM,zM,hn,Hg,aj,cN4,mg];rw[Bq aB,bH,<-hval,List.take_length,dep,afC hn,Int.add_comm]) 0 (Nat.zero_le _)
 rw[M.Gi];exact hloop
def depth(l:List Nd):Int:=if Q7 l then dep l l.length (l.length - 1) else 0
def ag1(l:List Nd)(o:Bool)(hl:l.length<=1048576)(hk:∀n,n∈l->n.kids.length<=1048576):M.BX (aV o l)=some (depth l):=by
 simp only[M.BX,M.MZ,ag0 l o hl hk,aj,gG,depth];cases hs:Q7 l with
 |false=>rfl
 |true=>
  obtain⟨r,h⟩:=aFa hs;have h1:=h.pos;have h2:=h.le;have hloop:=og (b:=M.GH (aV o l)) (t:=((l.length:Int),encI (ajj l l.length))) (λi=>((i:Int),encI (ajj l i))) l.length
   (by
    intro i hi;obtain⟨n,hn⟩:∃n,l[i]? =some n:=⟨l[i],by simp⟩
    have hin:=apC (o:=o) h hn (hk n (zmg hn));simp only[Em,M.GH,M.CO,gG,hin,aj,mg,azN,y7];rw[zdt aB,aI,bK aB,aI,bK aB,aI,bT aB aB,avI];simp[encI])
   (by simp only[Em,M.GH,M.CO,gG];rw[Bq aB,bH]) 0 (Nat.zero_le _)
  have Lp:M.KG (aV o l) (0,[])=_:=hloop;rw[zaM,bH,Lp,aj,bT aB aB,show(l.length:Int) - 1=((l.length - 1:Nat):Int) by omega,if_pos rfl];simp only[dM,ztn,JU,apB l (show l.length - 1<l.length by omega),Hg,aj,cI0];rw[show l.length - 1+1=l.length by omega]
def ajk:∀rows:aA,ak rows=rows.map Hl
 |[]=>rfl
 |x::rows=>by rw[ak,ajk rows,zmc]
end
structure Small(n:Nd):Prop where
 text:n.text.length<=1048576
 other:n.other.length<=1048576
section
variable {l:List Nd} {r:List Int} {o:Bool}
end
section
variable (l:List Nd) (o:Bool) (hl:l.length<=1048576) (hk:∀n,n∈l->n.kids.length<=1048576) (hsm:∀n,n∈l->Small n)
include hl hk hsm
end
def Eh(k:Int):Nat->List Int
 |0=>[]
 |n+1=>k::Eh (k+1) n
def Jr(k:Int)(n:Nat):(Eh k n).length=n:=by
 induction n generalizing k with
 |zero=>rfl
 |succ n ih=>simp[Eh,ih]
def avJ(k:Int)(n i:Nat)(h:i<n):(Eh k n)[i]? =some (k+i):=by
 induction n generalizing k i with
 |zero=>omega
 |succ n ih=>
  cases i with
  |zero=>simp[Eh]
  |succ i=>simp only[Eh,List.getElem?_cons_succ];rw[ih (k+1) i aB];congr 1;omega
def markT(k:Int)(l:List Int)(i:Nat):List Int:=Eh k i++l.drop i
def avK{k:Int}{l:List Int}{i:Nat}(h:i<l.length):(markT k l i)[i]? =l[i]? :=by unfold markT;rw[List.getElem?_append_right (by simp[Jr])];simp[Jr]
def arI(k:Int)(n:Nat):Eh k (n+1)=Eh k n++[k+n]:=by
 induction n generalizing k with
 |zero=>simp[Eh]
 |succ n ih=>rw[Eh,ih (k+1),Eh];simp;omega
def avL{k:Int}{l:List Int}{i:Nat}(h:i<l.length):(markT k l i).set i (k+i)=markT k l (i+1):=by
 unfold markT;obtain⟨x,hx⟩:∃x,l[i]? =some x:=⟨l[i],by simp[h]⟩
 have hd:l.drop i=x::l.drop (i+1):=by rw[List.drop_eq_getElem_cons h];rw[List.getElem?_eq_getElem h] at hx;rw[Option.some.inj hx]
 rw[hd];have:=TA (Eh k i) (l.drop (i+1)) x (k+i);rw[Jr] at this;rw[this,arI];simp
def aeT(k:Int)(l:List Int){i:Nat}(h:i<=l.length):(markT k l i).length=l.length:=by simp[markT,Jr];omega
def apD(k:Int)(l:List Int)(h0:0<=k)(h1:k<=1000000000)(hl:l.length<=1000000000):M.zH k (encI l)=some (k+l.length,encI (Eh k l.length)):=by
 simp only[M.zH,M.KR];have hloop:=og (b:=M.FP) (t:=(k+l.length,(l.length:Int),encI (Eh k l.length))) (λi=>(k+i,(i:Int),encI (markT k l i))) l.length
  (by
   intro i hi;obtain⟨x,hx⟩:∃x,l[i]? =some x:=⟨l[i],by simp[hi]⟩
   simp only[M.FP,M.Bd,mg,aeT k l (Nat.le_of_lt hi),dM,JU,avK hi,hx,Hg,aj,ztn];rw[zdt aB,aI,bT aB aB,bT aB aB];have hs:splice [D.int IntKind.i64 x] 0 [D.int IntKind.i64 (k+i)]=[D.int IntKind.i64 (k+i)]:=rfl;rw[hs,aw8,avL hi];congr 3;omega)
  (by simp only[M.FP,M.Bd,mg,aeT k l (zaN _)];rw[Bq aB,bH];simp[markT]) 0 (Nat.zero_le _)
 simp only[Zf,Int.add_zero,markT,Eh,List.drop_zero,List.nil_append] at hloop;rw[M.Jm,hloop,aj]
def apE(k:Int)(n:Nat)(h0:0<=k)(h1:k<=1000000000)(hl:n<=1000000000):M.zI (encI (Eh k n)) k=some (k+n):=by
 simp only[M.zI,M.KT];have hloop:=og (b:=M.FQ (encI (Eh k n))) (t:=.inr (k+n,(n:Int))) (λi=>(k+i,(i:Int))) n
  (by intro i hi;simp only[M.FQ,M.Bf,mg,Jr,dM,JU,avJ k n i hi,Hg,aj,cI0,bne_self_eq_false,bH];rw[zdt aB,aI,bT aB aB,bT aB aB];congr 3;omega)
  (by simp only[M.FQ,M.Bf,mg,Jr];rw[Bq aB,bH]) 0 (Nat.zero_le _)
 simp only[Zf,Int.add_zero] at hloop;rw[M.Jp,hloop,aj];rfl
@[simp] theorem avM(l:List Int):Ho (encI l)=true:=by
 induction l with
 |nil=>rfl
 |cons x l ih=>simp only[encI,zmc] at ih|-;simp[Ho,wP,D.pure,ih]
@[simp] theorem aF3(l:List Int):[[D.sl true 1 (encI l)]].all wP=true:=by simp[wP,D.pure]
def acL:∀(m:Nat) (k:Int) (s:aP),0<=k->k.toNat<=m->s.length+k.toNat<=4000000000000000000->∃k' s',M.zS (k,s)=some (k',s')/\s'.length<=4000000000000000000
 |m,k,s,h0,h1,hs=>by
  by_cases hk:0<k
  ·cases m with
   |zero=>omega
   |succ m=>
    have hd:k.tdiv 10=k / 10:=Int.tdiv_eq_ediv_of_nonneg h0;obtain⟨y,hy⟩:∃y,y=UInt8.ofNat (IntKind.u8.wrap (i64.wrap (48+k.tmod 10))).toNat:=⟨_,rfl⟩
    have hstep:M.FM (k,s)=some (.inl (k / 10,[y]++s)):=by
     simp only[M.FM,M.Bc];rw[<-hy,zdt (show k>0 from hk),aI];have:([y].length+s.length).ble 9223372036854775807=true:=by apply Nat.ble_eq_true_of_le;simp;omega
     rw[this,aI,hd,bT aB aB]
    obtain⟨k',s',h2,h3⟩:=acL m (k / 10) ([y]++s) aB aB (by simp;omega);refine⟨k',s', ?_,h3⟩;rw[M.zS,bD hstep];exact h2
  ·refine⟨k,s, ?_,aB⟩;rw[M.zS];apply aO;simp only[M.FM,M.Bc];rw[Bq (show¬k>0 from hk),bH]
noncomputable def mk(k:Int):aP:=(M.jJ k).getD []
def PU(k:Int)(h:k<=4000000000000000000):M.jJ k=some (mk k):=by
 have:∃s,M.jJ k=some s:=by
  simp only[M.jJ,M.KQ]
  by_cases hk:k<=0
  ·rw[zdt hk];exact⟨_,rfl⟩
  ·rw[Bq hk,bH];obtain⟨k',s',h2,h3⟩:=acL k.toNat k [] aB (zaN _) (by simp;omega);rw[h2,aj];have:(1+s'.length).ble 9223372036854775807=true:=by apply Nat.ble_eq_true_of_le;omega
   rw[this];exact⟨_,rfl⟩
 obtain⟨s,hs⟩:=this;rw[mk,hs];rfl
def aFb{α:Type}(a:List α)(x:α)(b:List α){i:Nat}(h:a.length=i):idx (a++x::b) (i:Int)=some x:=by rw[dM,List.getElem?_append_right aB];simp[h]
def aFc{α:Type}(a:List α)(x:α)(b:List α){i:Nat}(h:a.length=i):(a++x::b)[i]? =some x:=by rw[List.getElem?_append_right aB];simp[h]
def at_set{α:Type}(a:List α)(x y:α)(b:List α){i:Nat}(h:a.length=i):(a++x::b).set i y=a++y::b:=by subst h;exact TA a b x y
def zo(o:Bool)(a b:List Nd):aV o (a++b)=aV o a++aV o b:=by simp[aV]
def arJ(w:Bool):∀t:Tn,t.row w=[.int .i64 t.kind,.int .i64 t.op,.str t.text,.str t.other,.sl w 5 (dO w t.kids)]
 | .mk k o x y ks=>rfl
def zq(w:Bool)(a b:List Tn):dO w (a++b)=dO w a++dO w b:=by simp[Uf]
def dI(w:Bool)(a:List Tn):(dO w a).length=a.length:=by simp[Uf]
def sV{α:Type}{l:List α}{j:Nat}{t:α}(h:l[j]? =some t):l.take (j+1)=l.take j++[t]:=by rw[List.take_add_one,h];rfl
def apF{α:Type}{l:List α}{j:Nat}{t:α}(h:l[j]? =some t):l=l.take j++t::l.drop (j+1):=by obtain⟨hj,rfl⟩:=Vo.1 h;rw[<-List.drop_eq_getElem_cons hj,List.take_append_drop]
def RG{ks:List Tn}{j:Nat}{t:Tn}(h:ks[j]? =some t):sizes (ks.take j)+t.size<=sizes ks:=by have:=congrArg sizes (apF h);rw[mQ,sizes] at this;omega
section
variable {l:List Nd} {b:Nat} {k op:Int} {x y:aP} {ks:List Tn}
def Lies.aFd(h:Lies l b (.mk k op x y ks)){j:Nat}{t:Tn}(hj:ks[j]? =some t):Lies l (b+sizes (ks.take j)) t:=by have e:=apF hj;rw[e] at h;exact h.kid
def aCc{j:Nat}{t:Tn}(hj:ks[j]? =some t):(ends ks b)[j]? =some ((b+sizes (ks.take j)+sizes t.kids:Nat):Int):=by have hlt:=(Vo.1 hj).1;have hs:=t.aff;rw[axb hlt,sV hj,mQ,sizes,sizes];congr 1;omega
def Lies.root'{t:Tn}(h:Lies l b t):l[b+sizes t.kids]? =some ⟨t.kind,t.op,t.text,t.other,ends t.kids b⟩:=by cases t;exact h.root
def alJ{j:Nat}{t:Tn}(hj:ks[j]? =some t):ends (ks.take (j+1)) b=ends (ks.take j) b++[((b+sizes (ks.take j)+t.size:Nat):Int) - 1]:=by rw[sV hj,Wn,ends,ends];congr 2<;>omega
def ajl{j:Nat}{t:Tn}(hj:ks[j]? =some t):rP (ks.take (j+1)) b=rP (ks.take j) b++t.flat (b+sizes (ks.take j)):=by rw[sV hj,U4,rP,rP,List.append_nil]
def ends_range:∀(ks:List Tn) (b:Nat),∀e,e∈ends ks b->(b:Int)<=e/\e<b+sizes ks
 |[],b,e,h=>by simp[ends] at h
 |t::ts,b,e,h=>by
  have hp:=t.size_pos;rw[ends] at h;have hs:(sizes (t::ts):Int)=t.size+sizes ts:=by rw[sizes];omega
  rcases List.mem_cons.1 h with rfl|h
  ·omega
  ·have:=ends_range ts _ e h;omega
end
mutual
def QK:∀(t:Tn) (b:Nat),∀n,n∈t.flat b->n.kids.length<=t.size/\∀e,e∈n.kids->(0:Int)<=e/\e<b+t.size
 | .mk k o x y ks,b,n,h=>by
  rw[Tn.flat] at h;rw[Tn.size];rcases List.mem_append.1 h with h|h
  ·have:=ajm ks b n h;exact⟨aB,λe he=>by have:=this.2 e he;omega⟩
  ·simp only[List.mem_singleton] at h;subst h;refine⟨by simp only[Pn];have:=zV ks;omega,λe he=> ?_⟩;have:=ends_range ks b e he;omega
def ajm:∀(ks:List Tn) (b:Nat),∀n,n∈rP ks b->n.kids.length<=sizes ks/\∀e,e∈n.kids->(0:Int)<=e/\e<b+sizes ks
 |[],b,n,h=>by simp[rP] at h
 |t::ts,b,n,h=>by
  rw[rP] at h;rw[sizes];rcases List.mem_append.1 h with h|h
  ·have:=QK t b n h;exact⟨aB,λe he=>by have:=this.2 e he;omega⟩
  ·have:=ajm ts _ n h;exact⟨aB,λe he=>by have:=this.2 e he;omega⟩
end
def aFe(t:Tn):∀(f:Nat) (w:Bool) (p:List Nd),t.size<=f->p.length+t.size<=1048576->
  M.jM f t.kind t.op t.text t.other (dO w t.kids) (aV true p)=some (aV true (p++t.flat p.length)):=by
 refine Tn.ind (P:=λt=>∀(f:Nat) (w:Bool) (p:List Nd),t.size<=f->p.length+t.size<=1048576->M.jM f t.kind t.op t.text t.other (dO w t.kids) (aV true p)=some (aV true (p++t.flat p.length))) ?_ t;intro k op x y ks ih f w p hf hp;cases f with
 |zero=>rw[Tn.size] at hf;omega
 |succ f=>
  rw[Tn.size] at hf hp;have hkl:=zV ks;simp only[Em,M.jM,M.Gl,Tn.kids,Tn.kind,Tn.op,Tn.text,Tn.other,dI];have hrec:∀j t,ks[j]? =some t->M.jM f t.kind t.op t.text t.other (dO w t.kids) (aV true (p++rP (ks.take j) p.length))=some (aV true (p++rP (ks.take (j+1)) p.length)):=by
   intro j t hj;have hst:=RG hj;have hfl:(p++rP (ks.take j) p.length).length=p.length+sizes (ks.take j):=by rw[zT,wS]
   have:=ih t (zmg hj) f w (p++rP (ks.take j) p.length) aB (by rw[hfl];omega);rw[this,hfl,ajl hj,KW]
  have hloop:=og (b:=M.wJ (M.jM f))
   (t:=if ks=[] then .inl (dO w ks,(ks.length:Int),0,aV true p,k,op,x,y) else .inr (dO w ks,(ks.length:Int),(ks.length:Int),aV true (p++rP ks p.length),k,op,x,y,encI (ends ks p.length)))
   (λj=>if j=0 then .inl (dO w ks,(ks.length:Int),0,aV true p,k,op,x,y) else .inr (dO w ks,(ks.length:Int),(j:Int),aV true (p++rP (ks.take j) p.length),k,op,x,y,encI (ends (ks.take j) p.length))) ks.length
   (by
    intro j hj;obtain⟨t,ht⟩:∃t,ks[j]? =some t:=⟨ks[j],by simp⟩
    have hr:=hrec j t ht;have hst:=RG ht;have hp1:=t.size_pos;have hg:(dO w ks)[j]? =some (t.row w):=by rw[Uf];simp[ht]
    have hc0:kJ .i64 (t.row w) 0=some t.kind:=by cases t;rfl
    have hc1:kJ .i64 (t.row w) 1=some t.op:=by cases t;rfl
    have hc2:cStr (t.row w) 2=some t.text:=by cases t;rfl
    have hc3:cStr (t.row w) 3=some t.other:=by cases t;rfl
    have hc4:cSl 5 (t.row w) 4=some (dO w t.kids):=by cases t;rfl
    have hfl:(aV true (p++rP (ks.take (j+1)) p.length)).length=p.length+sizes (ks.take j)+t.size:=by rw[gG,zT,wS,sV ht,mQ,sizes,sizes];omega
    rw[if_neg (show¬j+1=0 by omega),alJ ht]
    by_cases h0:j=0
    ·subst h0;rw[if_pos rfl];have hi:idx (dO w ks) 0=some (t.row w):=by have:=dM (dO w ks) 0;rw[Zf] at this;rw[this,hg]
     have hr0:M.jM f t.kind t.op t.text t.other (dO w t.kids) (aV true p)=some (aV true (p++rP (ks.take (0+1)) p.length)):=by rw[<-hr];simp[rP]
     simp only[Em,M.wJ,M.rO,hi,aj,hc0,hc1,hc2,hc3,hc4,hr0,hfl];rw[zdt aB,aI,bT aB aB,bT aB aB];rfl
    ·rw[if_neg h0];simp only[Em,M.wJ,M.rO,dM,hg,aj,hc0,hc1,hc2,hc3,hc4,hr,hfl,mg,Pn,zlt,y7];rw[zdt aB,aI,bK aB,aI,bK aB,aI,bT aB aB,bT aB aB];simp[encI])
   (by
    by_cases h0:ks.length=0
    ·have he:ks=[]:=List.length_eq_zero_iff.1 h0;rw[if_pos h0,if_pos he];simp only[Em,M.wJ,M.rO];rw[Bq aB,bH]
    ·have he:¬ks=[]:=λe=>h0 (by rw[e];rfl)
     rw[if_neg h0,if_neg he,List.take_length];simp only[Em,M.wJ,M.rO];rw[Bq aB,bH]) 0 (Nat.zero_le _)
  rw[if_pos rfl] at hloop;rw[M.Ji,hloop,aj]
  by_cases he:ks=[]
  ·rw[if_pos he];subst he;simp only[iD,gG,y7];rw[bK aB,aI,bK aB,aI,zo];rfl
  ·rw[if_neg he];simp only[iD,letE,gG,zT,wS,y7,Ol,aI];rw[bK aB,aI,bK aB,aI,Tn.flat,<-KW];simp only[zo];rfl
def aCd{t:Tn}{w:Bool}(h:t.size<=1048576):M.oH t.kind t.op t.text t.other (dO w t.kids)=some (aV true (t.flat 0)):=by have:=M.afz (aFe t t.size w [] (zaN _) (by simpa using h));simp only[M.oH,M.Jj];have e:aV true ([]:List Nd)=[]:=rfl;rw[e] at this;rw[this,aj];simp
noncomputable def mkNode(k:Int)(n:Nd):Nd:=⟨k,k+1,mk (k+2),mk (k+3),Eh (k+4) n.kids.length⟩
def wK:List Nd->Nat
 |[]=>0
 |n::l=>4+n.kids.length+wK l
def afD:∀a b:List Nd,wK (a++b)=wK a+wK b
 |[],b=>by simp[wK]
 |n::a,b=>by rw[zca,wK,wK,afD a b];omega
noncomputable def nZ(k:Int):List Nd->List Nd
 |[]=>[]
 |n::l=>mkNode k n::nZ (k+4+n.kids.length) l
def Iz(k:Int)(l:List Nd):(nZ k l).length=l.length:=by
 induction l generalizing k with
 |nil=>rfl
 |cons n l ih=>rw[nZ,zlc,ih,zlc]
def Zh(k:Int)(a b:List Nd):nZ k (a++b)=nZ k a++nZ (k+wK a) b:=by
 induction a generalizing k with
 |nil=>simp[nZ,wK]
 |cons n a ih=>
  have e:k+4+(n.kids.length:Int)+(wK a:Int)=k+(wK (n::a):Int):=by rw[wK];omega
  rw[zca,nZ,nZ,ih,e,zca]
def apG(k:Int){l:List Nd}{i:Nat}{n:Nd}(h:l[i]? =some n):(nZ k l)[i]? =some (mkNode (k+wK (l.take i)) n):=by
 obtain⟨hi,rfl⟩:=Vo.1 h;have e:l=l.take i++l[i]::l.drop (i+1):=by rw[<-List.drop_eq_getElem_cons hi,List.take_append_drop]
 have hl:(nZ k (l.take i)).length=i:=by rw[Iz,zlt];omega
 have h2:nZ k l=nZ k (l.take i)++nZ (k+wK (l.take i)) (l[i]::l.drop (i+1)):=by rw[<-Zh,<-e]
 rw[h2,List.getElem?_append_right aB,hl,Nat.sub_self,nZ];rfl
def ajn{l:List Nd}{i:Nat}{n:Nd}(h:l[i]? =some n):wK (l.take i)+4+n.kids.length<=wK l:=by
 obtain⟨hi,rfl⟩:=Vo.1 h;have e:l=l.take i++l[i]::l.drop (i+1):=by rw[<-List.drop_eq_getElem_cons hi,List.take_append_drop]
 have:=congrArg wK e;rw[afD,wK] at this;omega
def arK:∀l:List Nd,l.length<=wK l
 |[]=>zaN _
 |n::l=>by have:=arK l;rw[wK,zlc];omega
def as4{l:List Nd}{i:Nat}{n:Nd}(h:l[i]? =some n):wK (l.take (i+1))=wK (l.take i)+(4+n.kids.length):=by rw[List.take_add_one,h,afD];rfl
def amM(k:Int)(l:List Nd)(h0:0<=k)(h1:k+wK l<=900000000):M.xI k (aV true l)=some (k+wK l,aV true (nZ k l)):=by
 simp only[M.xI,M.Jo];have hwl:=arK l;have hloop:=og (b:=M.DJ) (t:=(k+wK l,(l.length:Int),aV true (nZ k l))) (λi=>(k+wK (l.take i),(i:Int),aV true (nZ k (l.take i))++aV true (l.drop i))) l.length
  (by
   intro i hi;obtain⟨n,hn⟩:∃n,l[i]? =some n:=⟨l[i],by simp[hi]⟩
   have hd:l.drop i=n::l.drop (i+1):=by rw[List.drop_eq_getElem_cons hi];rw[List.getElem?_eq_getElem hi] at hn;rw[Option.some.inj hn]
   have hla:(aV true (nZ k (l.take i))).length=i:=by rw[gG,Iz,zlt];omega
   have hw:=ajn hn;generalize hK:k+(wK (l.take i):Int)=K;have w1:i64.wrap (K+1)=K+1:=bT aB aB;have w2:i64.wrap (K+1+1)=K+2:=(bT aB aB).trans aB;have w3:i64.wrap (K+2+1)=K+3:=(bT aB aB).trans aB;have w4:i64.wrap (K+3+1)=K+4:=(bT aB aB).trans aB;have hm:=apD (K+4) n.kids aB aB aB;have hlen:decide ((i:Int)<((aV true (nZ k (l.take i))++aef true n::aV true (l.drop (i+1))).length:Int))=true:=zdt (by rw[zT,hla,zlc];omega);have he:aV true (n::l.drop (i+1))=aef true n::aV true (l.drop (i+1)):=rfl;have s0:splice (aef true n) 0 [D.int .i64 K]=[.int .i64 K,.int .i64 n.op,.str n.text,.str n.other,.sl true 1 (encI n.kids)]:=rfl;have s1:splice [D.int .i64 K,.int .i64 n.op,.str n.text,.str n.other,.sl true 1 (encI n.kids)] 1 [D.int .i64 (K+1)]=[.int .i64 K,.int .i64 (K+1),.str n.text,.str n.other,.sl true 1 (encI n.kids)]:=rfl;have s2:splice [D.int .i64 K,.int .i64 (K+1),.str n.text,.str n.other,.sl true 1 (encI n.kids)] 2 [D.str (mk (K+2))]=[.int .i64 K,.int .i64 (K+1),.str (mk (K+2)),.str n.other,.sl true 1 (encI n.kids)]:=rfl;have s3:splice [D.int .i64 K,.int .i64 (K+1),.str (mk (K+2)),.str n.other,.sl true 1 (encI n.kids)] 3 [D.str (mk (K+3))]=[.int .i64 K,.int .i64 (K+1),.str (mk (K+2)),.str (mk (K+3)),.sl true 1 (encI n.kids)]:=rfl;have s4:∀r,splice [D.int .i64 K,.int .i64 (K+1),.str (mk (K+2)),.str (mk (K+3)),.sl true 1 (encI n.kids)] 4 [D.sl true 1 r]=[.int .i64 K,.int .i64 (K+1),.str (mk (K+2)),.str (mk (K+3)),.sl true 1 r]:=λ_=>rfl
   have c4:adL 1 [D.int .i64 K,.int .i64 (K+1),.str (mk (K+2)),.str (mk (K+3)),.sl true 1 (encI n.kids)] 4=some (encI n.kids):=rfl;have hb:(Nat.beq 1 1 &&(true==true &&(true && true)))=true:=rfl;simp only[hd,M.DJ,M.yY,hlen,aI,he,aFb _ _ _ hla,ztn,aFc _ _ _ hla,at_set _ _ _ _ hla,aj,s0,s1,s2,s3,s4,c4,w1,w2,w3,w4,PU (K+2) aB,PU (K+3) aB,Ol,avM,hm,hb];rw[bT aB aB,as4 hn,List.take_add_one,hn,Option.toList_some,Zh,zo];have e2:nZ (k+(wK (l.take i):Int)) [n]=[mkNode K n]:=by rw[hK];rfl
   have e3:aV true [mkNode K n]=[[D.int .i64 K,.int .i64 (K+1),.str (mk (K+2)),.str (mk (K+3)),.sl true 1 (encI (Eh (K+4) n.kids.length))]]:=rfl;rw[e2,e3,KW];congr 3;omega)
  (by simp only[M.DJ,M.yY,List.take_length,List.drop_length];have hlen:decide ((l.length:Int)<((aV true (nZ k l)++aV true []).length:Int))=false:=Bq (by rw[zT,gG,Iz];simp[aV]);rw[hlen,bH];simp[aV]) 0 (Nat.zero_le _)
 have e0:aV true (nZ k (l.take 0))++aV true (l.drop 0)=aV true l:=by simp[nZ,aV]
 have e1:k+(wK (l.take 0):Int)=k:=by simp[wK]
 rw[e0,e1,Zf] at hloop;rw[M.G9,hloop,aj]
def adH:∀l:List Nd,Ho (aV true l)=true
 |[]=>rfl
 |n::l=>by have:aV true (n::l)=aef true n::aV true l:=rfl;rw[this,Ho,adH l];simp[aef,wP,D.pure]
def avN(l:List Nd):[[D.sl true 5 (aV true l)]].all wP=true:=by simp[wP,D.pure,adH]
structure Ps where
 level:Int
 aFf:Bool
 aTd:Bool
 aTe:Bool
 aFg:Bool
 deriving DecidableEq,Inhabited
def Ps.zero:Ps:=⟨0,false,false,false,false⟩
def EH(op:Int):Int:=bif op==44 then 3 else bif op==45 then 4 else bif op==67||op==46 then 6 else
 bif op==63||(op==48||(op==47||(op==50||(op==62||op==49)))) then 7 else bif op==99 then 8 else bif op==55||op==56 then 9 else
 bif op==57||(op==58||op==59) then 10 else bif op==60 then 12 else 0
structure Cnt(k op:Int)(y:aP)(n:Nat):Prop where
 one:k=6\/k=9\/k=10\/k=11\/k=20\/k=32\/k=40\/k=41->n=1
 two:k=12\/k=15\/k=29\/k=30->n=2
 some_:k=5\/k=13\/k=44->1<=n
 three:k=14->n=3
 four:k=31->n=4
 cnd:k=28->n=2\/n=3
 prn:k=21->(op=0\/op=1)/\(y≠[]->1<=n)
 wrd:k=23\/k=24->n<=1
 non:k=1\/k=2\/k=3\/k=4\/k=16\/k=22\/k=25\/k=26\/k=34->n=0
 rule:k=42->(op=1/\n=1)\/(op=2/\n=1)\/(op=3/\n=2)
 range:k=43->(op=1/\n=2)\/(op=3/\n=3)
 few:k≠33->k≠45->n<=7
 bin:k=12->EH op≠0/\op≠61
 asg:k=15->op=54\/(38<=op/\op<=43)
 stp:k=9\/k=10->op=51\/op=52
 una:k=11->op=55\/op=56\/op=61
def cls(k op:Int)(n j:Nat):Nat:=
 if k=9\/k=10\/(k=15/\j=0) then 6 else if k=28\/k=29 then(if j=0 then 0 else 1) else if k=30 then(if j=0 then 1 else 0) else
 if k=31 then(if j<3 then 3 else 1) else if k=32\/k=40\/k=41 then 1 else if k=33 then 2 else if k=42 then(if op=2\/(op=3/\j+1=n) then 1 else 0) else
 if k=43 then(if j=2 then 1 else 0) else if k=44 then(if j+1=n then 1 else 4) else if k=45 then 5 else 0
def aMs(c:Nat)(d:Int):Prop:=match c with
 |0=>1<=d/\d<=15
 |1=>d=33
 |2=>20<=d/\d<=34
 |3=>d=16\/(1<=d/\d<=15)
 |4=>d=1
 |5=>(40<=d/\d<=44)\/d=34
 |_=>d=1\/d=5\/d=6
def aFh(k:Int):Prop:=(1<=k/\k<=16)\/(20<=k/\k<=34)\/(40<=k/\k<=45)
mutual
def okT:Tn->Prop
 | .mk k op x y ks=>aFh k/\Cnt k op y ks.length/\oks k op ks.length ks 0
def oks(k op:Int)(n:Nat):List Tn->Nat->Prop
 |[],_=>True
 |t::ts,j=>aMs (cls k op n j) t.kind/\(okT t)/\oks k op n ts (j+1)
end
inductive PR(α:Type) where
 |ok (a:α) (i:Nat) (nt:List (aP))
 |bad (i:Nat)
 |out
def PR.bind{α β:Type}(x:PR α)(f:α->Nat->List (aP)->PR β):PR β:=match x with
 | .ok a i nt=>f a i nt
 | .bad i=> .bad i
 | .out=> .out
abbrev iw:=List (aP)
def bC(l:List Tk)(i:Nat):Int:=match l[i]? with|some t=>t.kind|none=>0
def zK(l:List Tk)(i:Nat):aP:=match l[i]? with|some t=>t.text|none=>[]
def iV(l:List Tk)(k:Int)(i:Nat)(nt:iw):PR Unit:=bif bC l i==k then .ok () (i+1) nt else .bad i
def nameP(l:List Tk)(i:Nat)(nt:iw):PR (aP):=bif bC l i==6 then .ok (zK l i) (i+1) nt else .bad i
def nlR:List Tk->Nat->iw->Nat×iw
 |[],i,nt=>(i,nt)
 |t::r,i,nt=>bif t.kind==1 then nlR r (i+1) nt else bif t.kind==2 then nlR r (i+1) (nt++[t.text]) else(i,nt)
def nl(l:List Tk)(i:Nat)(nt:iw):Nat×iw:=nlR (l.drop i) i nt
def Z5:List Tk->Nat->iw->Nat×iw
 |[],i,nt=>(i,nt)
 |t::r,i,nt=>bif t.kind==1||t.kind==37 then Z5 r (i+1) nt else bif t.kind==2 then Z5 r (i+1) (nt++[t.text]) else(i,nt)
def sep(l:List Tk)(i:Nat)(nt:iw):Nat×iw:=Z5 (l.drop i) i nt
def Vg(k:Int):Bool:=k==32||(k==34||k==30)
def TB(k:Int):Bool:=k==33||(k==35||k==31)
def ahead:List Tk->Int->Bool
 |[],_=>false
 |t::r,d=>bif Vg t.kind then ahead r (d+1) else bif TB t.kind then(bif decide (d - 1<=0) then false else ahead r (d - 1)) else
   bif t.kind==36 && d==1 then true else bif decide (d<=0) then false else ahead r d
def isStep(k:Int):Bool:=k==51||k==52
def arL(k:Int):Bool:=k==3||(k==4||(k==6||(k==7||(k==8||(k==32||k==68)))))
abbrev Xp:=Tn×Bool
def tgt(x:Xp):Bool:= !x.2 && arE x.1.kind
def agF(k:Int)(l:List Tk)(i:Nat)(nt:iw):PR Xp:=.ok (.mk k 0 (zK l i) [] [],false) (i+1) nt
def Bg(lv:Nat)(b:Bool)(k:Int):Bool:=bif Nat.beq lv 8 then arL k else EH k==(lv:Int) && !(b && k==62)
mutual
def ex(l:List Tk):Nat->Nat->Bool->Bool->Nat->iw->PR Xp
 |0,_,_,_,_,_=> .out
 |n+1,lv,a,b,i,nt=>match lv with
  |1=>(ex l n 2 a b i nt).bind λx i nt=>bif tgt x && aji (bC l i) then(ex l n 1 a b (i+1) nt).bind λy j nt=> .ok (.mk 15 (bC l i) [] [] [x.1,y.1],false) j nt else .ok x i nt
  |2=>(ex l n 3 a b i nt).bind λx i nt=>bif bC l i==65 then(ex l n 2 a b (i+1) nt).bind λy i nt=>(iV l 66 i nt).bind λ_ i nt=>(ex l n 2 a b i nt).bind λz i nt=>.ok (.mk 14 0 [] [] [x.1,y.1,z.1],false) i nt else .ok x i nt
  |3=>(ex l n 4 a b i nt).bind λx i nt=>chP l n 3 a b x i nt
  |4=>(ex l n 5 a b i nt).bind λx i nt=>chP l n 4 a b x i nt
  |5=>bif(bC l i==32 && !a) && ahead (l.drop i) 0 then
    (PV l n 33 (i+1) nt).bind λL i nt=>(iV l 24 i nt).bind λ_ i nt=>(nameP l i nt).bind λs i nt=>inP l n a (.mk 13 0 s [] L,false) i nt
   else(ex l n 6 a b i nt).bind λx i nt=>inP l n a x i nt
  |6=>(ex l n 7 a b i nt).bind λx i nt=>bif bC l i==67||bC l i==46 then(ex l n 7 a b (i+1) nt).bind λy j nt=> .ok (.mk 12 (bC l i) [] [] [x.1,y.1],false) j nt else .ok x i nt
  |7=>(ex l n 8 a b i nt).bind λx i nt=>bif Bg 7 b (bC l i) then(ex l n 8 a b (i+1) nt).bind λy j nt=> .ok (.mk 12 (bC l i) [] [] [x.1,y.1],false) j nt else .ok x i nt
  |8=>(ex l n 9 a b i nt).bind λx i nt=>chP l n 8 a b x i nt
  |9=>(ex l n 10 a b i nt).bind λx i nt=>chP l n 9 a b x i nt
  |10=>(ex l n 11 a b i nt).bind λx i nt=>chP l n 10 a b x i nt
  |11=>bif bC l i==55||(bC l i==56||bC l i==61) then(ex l n 11 a b (i+1) nt).bind λx j nt=> .ok (.mk 11 (bC l i) [] [] [x.1],false) j nt
   else ex l n 12 a b i nt
  |12=>(ex l n 13 a b i nt).bind λx i nt=>bif bC l i==60 then(ex l n 11 a b (i+1) nt).bind λy j nt=> .ok (.mk 12 60 [] [] [x.1,y.1],false) j nt else .ok x i nt
  |13=>bif isStep (bC l i) then Zi l n i nt else(ex l n 14 a b i nt).bind λx i nt=>bif tgt x && isStep (bC l i) then .ok (.mk 10 (bC l i) [] [] [x.1],false) (i+1) nt else .ok x i nt
  |14=>bif bC l i==68 then
    (bif isStep (bC l (i+1)) then Zi l n (i+1) nt else ex l n 14 a b (i+1) nt).bind λx i nt=> .ok (.mk 6 0 [] [] [x.1],false) i nt
   else ex l n 15 a b i nt
  |_=>bif bC l i==3 then agF 2 l i nt else bif bC l i==4 then agF 3 l i nt else bif bC l i==5 then agF 4 l i nt else
   bif bC l i==6 then
    (bif bC l (i+1)==34 then(NQ l n false false [] (i+2) nt).bind λL j nt=>(iV l 35 j nt).bind λ_ j nt=> .ok (.mk 5 0 (zK l i) [] L,false) j nt
     else agF 1 l i nt) else
   bif bC l i==7||bC l i==8 then
    (bif bC l i==8 &&(zK l i==[108,101,110,103,116,104] && !(bC l (i+1)==32)) then agF 8 l i nt else
     (iV l 32 (i+1) nt).bind λ_ j nt=>(PV l n 33 j nt).bind λL j nt=> .ok (.mk (bC l i) 0 (zK l i) [] L,false) j nt) else
   bif bC l i==32 then(ex l n 1 false false (i+1) nt).bind λx i nt=>(iV l 33 i nt).bind λ_ i nt=> .ok (x.1,true) i nt else .bad i
def chP(l:List Tk):Nat->Nat->Bool->Bool->Xp->Nat->iw->PR Xp
 |0,_,_,_,_,_,_=> .out
 |n+1,lv,a,b,x,i,nt=>bif Bg lv (b && Nat.beq lv 7) (bC l i) then
   (let op:=bif Nat.beq lv 8 then 99 else bC l i
    let q:=bif Nat.beq lv 8 then(i,nt) else bif Nat.ble lv 4 then nl l (i+1) nt else(i+1,nt)
    (ex l n (lv+1) a b q.1 q.2).bind λy i nt=>chP l n lv a b (.mk 12 op [] [] [x.1,y.1],false) i nt)
  else .ok x i nt
def inP(l:List Tk):Nat->Bool->Xp->Nat->iw->PR Xp
 |0,_,_,_,_=> .out
 |n+1,a,x,i,nt=>bif bC l i==24 && !a then(nameP l (i+1) nt).bind λs i nt=>inP l n a (.mk 13 0 s [] [x.1],false) i nt else .ok x i nt
def Zi(l:List Tk):Nat->Nat->iw->PR Xp
 |0,_,_=> .out
 |n+1,i,nt=>bif bC l (i+1)==68||bC l (i+1)==6 then(ex l n 14 false false (i+1) nt).bind λx j nt=> .ok (.mk 9 (bC l i) [] [] [x.1],false) j nt else .bad (i+1)
def PV(l:List Tk):Nat->Int->Nat->iw->PR (List Tn)
 |0,_,_,_=> .out
 |n+1,e,i,nt=>bif bC l i==e then .ok [] (i+1) nt else(NQ l n false false [] i nt).bind λL i nt=>(iV l e i nt).bind λ_ i nt=> .ok L i nt
def NQ(l:List Tk):Nat->Bool->Bool->List Tn->Nat->iw->PR (List Tn)
 |0,_,_,_,_,_=> .out
 |n+1,a,b,L,i,nt=>(ex l n 1 a b i nt).bind λx i nt=>bif bC l i==36 then(bif Nat.beq (L.length+1) 6 then .bad i else NQ l n a b (L++[x.1]) (nl l (i+1) nt).1 (nl l (i+1) nt).2) else .ok (L++[x.1]) i nt
end
def Ei(k:Int):Bool:=k==0||(k==1||(k==2||(k==37||k==31)))
def wO(k:Int):Bool:=k==62||(k==53||k==64)
def Dq(nt:iw):List Tn:=nt.map λs=> .mk 34 0 s [] []
def endP{α:Type}(l:List Tk)(x:α)(i:Nat)(nt:iw):PR α:=bif Ei (bC l i) then .ok x i nt else .bad i
def SN(l:List Tk)(n i:Nat)(nt:iw):PR Tn:=(iV l 32 i nt).bind λ_ i nt=>(ex l n 1 false false i nt).bind λx i nt=>(iV l 33 i nt).bind λ_ i nt=> .ok x.1 i nt
def IB(l:List Tk)(n:Nat)(e:Int)(a:Bool)(i:Nat)(nt:iw):PR Tn:=bif bC l i==e then .ok (.mk 16 0 [] [] []) i nt else(ex l n 1 a false i nt).bind λx i nt=> .ok x.1 i nt
def ag2(l:List Tk)(n i:Nat)(nt:iw):PR Tn:=
 (bif bC l i==26|| !(Ei (bC l (i+1))||wO (bC l (i+1))) then NQ l n false true [] (i+1) nt else .ok [] (i+1) nt).bind λL j nt=>
  bif wO (bC l j) then(ex l n 9 false false (j+1) nt).bind λx k nt=> .ok (.mk 21 (bC l i - 25) [] (zK l j) (L++[x.1])) k nt
  else .ok (.mk 21 (bC l i - 25) [] [] L) j nt
def acM(l:List Tk)(n:Nat)(k:Int)(i:Nat)(nt:iw):PR Tn:=
 bif Ei (bC l (i+1)) then .ok (.mk k 0 [] [] []) (i+1) nt else(ex l n 1 false false (i+1) nt).bind λx i nt=> .ok (.mk k 0 [] [] [x.1]) i nt
def amN(l:List Tk)(n i:Nat)(nt:iw):PR Tn:=(nameP l (i+1) nt).bind λs i nt=>bif bC l i==34 then(NQ l n false false [] (i+1) nt).bind λL i nt=>(iV l 35 i nt).bind λ_ i nt=> .ok (.mk 27 0 s [] L) i nt else .ok (.mk 27 0 s [] []) i nt
def aj8(l:List Tk)(n i:Nat)(nt:iw):PR Tn:=
 bif bC l i==25||bC l i==26 then ag2 l n i nt else bif bC l i==20 then .ok (.mk 22 0 [] [] []) (i+1) nt else bif bC l i==18 then .ok (.mk 25 0 [] [] []) (i+1) nt else
 bif bC l i==19 then .ok (.mk 26 0 [] [] []) (i+1) nt else bif bC l i==21 then acM l n 23 i nt else bif bC l i==22 then acM l n 24 i nt else
 bif bC l i==23 then amN l n i nt else(ex l n 1 false false i nt).bind λx i nt=> .ok (.mk 20 0 [] [] [x.1]) i nt
mutual
def stP(l:List Tk):Nat->Nat->iw->PR Tn
 |0,_,_=> .out
 |n+1,i,nt=>
  bif bC l i==30 then JI l n i nt else
  bif bC l i==13 then(SN l n (i+1) nt).bind λx i nt=>(Bh l n i nt).bind λy i nt=>
   (let q:=sep l i nt
    bif bC l q.1==14 then(Bh l n (q.1+1) q.2).bind λz i nt=> .ok (.mk 28 0 [] [] [x,y,z]) i nt else .ok (.mk 28 0 [] [] [x,y]) i nt) else
  bif bC l i==15 then(SN l n (i+1) nt).bind λx i nt=>(Bh l n i nt).bind λy i nt=> .ok (.mk 29 0 [] [] [x,y]) i nt else
  bif bC l i==17 then(Bh l n (i+1) nt).bind λx i nt=>(iV l 15 (sep l i nt).1 (sep l i nt).2).bind λ_ i nt=>(SN l n i nt).bind λy i nt=>endP l (.mk 30 0 [] [] [x,y]) i nt else
  bif bC l i==16 then(iV l 32 (i+1) nt).bind λ_ i nt=>
   (bif bC l i==6 && bC l (i+1)==24 then(nameP l (i+2) nt).bind λs j nt=>(iV l 33 j nt).bind λ_ j nt=>(Bh l n j nt).bind λy j nt=> .ok (.mk 32 0 (zK l i) s [y]) j nt
    else(IB l n 37 true i nt).bind λx i nt=>(iV l 37 i nt).bind λ_ i nt=>(IB l n 37 false (nl l i nt).1 (nl l i nt).2).bind λy i nt=>
    (iV l 37 i nt).bind λ_ i nt=>(IB l n 33 false (nl l i nt).1 (nl l i nt).2).bind λz i nt=>(iV l 33 i nt).bind λ_ i nt=>
    (Bh l n i nt).bind λw i nt=> .ok (.mk 31 0 [] [] [x,y,z,w]) i nt) else
  (aj8 l n i nt).bind λx i nt=>endP l x i nt
def JI(l:List Tk):Nat->Nat->iw->PR Tn
 |0,_,_=> .out
 |n+1,i,nt=>(iV l 30 i nt).bind λ_ i nt=>(VH l n [] i nt).bind λL i nt=> .ok (.mk 33 0 [] [] L) i nt
def VH(l:List Tk):Nat->List Tn->Nat->iw->PR (List Tn)
 |0,_,_,_=> .out
 |n+1,L,i,nt=>
  (let q:=sep l i nt
   bif bC l q.1==31 then .ok (L++Dq q.2) (q.1+1) [] else bif bC l q.1==0 then .bad q.1 else
   (stP l n q.1 []).bind λs i nt=>VH l n ((L++Dq q.2)++[s]) i nt)
def Bh(l:List Tk):Nat->Nat->iw->PR Tn
 |0,_,_=> .out
 |n+1,i,nt=>
  (let q:=nl l i nt
   bif bC l q.1==30 then JI l n q.1 q.2 else bif bC l q.1==37 then .ok (.mk 33 0 [] [] (Dq q.2)) (q.1+1) [] else
   (stP l n q.1 []).bind λs i nt=> .ok (.mk 33 0 [] [] (Dq q.2++[s])) i nt)
end
def EI(l:List Tk):Nat->List Tn->Nat->iw->PR (List Tn)
 |0,_,_,_=> .out
 |n+1,L,i,nt=>(nameP l i nt).bind λs i nt=>bif bC l i==36 then(bif Nat.beq (L.length+1) 6 then .bad i else EI l n (L++[.mk 1 0 s [] []]) (nl l (i+1) nt).1 (nl l (i+1) nt).2) else .ok (L++[.mk 1 0 s [] []]) i nt
def amO(l:List Tk)(n i:Nat)(nt:iw):PR Tn:=
 bif bC l i==6||bC l i==7 then
  (iV l 32 (i+1) nt).bind λ_ j nt=>(bif bC l j==33 then .ok [] j nt else EI l n [] j nt).bind λL j nt=>(iV l 33 j nt).bind λ_ j nt=>(JI l n (nl l j nt).1 (nl l j nt).2).bind λb j nt=> .ok (.mk 44 0 (zK l i) [] (L++[b])) j nt
 else .bad i
def Ux(l:List Tk)(n i:Nat)(nt:iw):PR Tn:=
 bif bC l i==10 then(JI l n (i+1) nt).bind λb i nt=> .ok (.mk 40 0 [] [] [b]) i nt else
 bif bC l i==11 then(JI l n (i+1) nt).bind λb i nt=> .ok (.mk 41 0 [] [] [b]) i nt else
 bif bC l i==12 then amO l n (i+1) nt else
 bif bC l i==30 then(JI l n i nt).bind λb i nt=> .ok (.mk 42 2 [] [] [b]) i nt else
 (ex l n 1 false false i nt).bind λx i nt=>(bif bC l i==36 then(ex l n 1 false false (nl l (i+1) nt).1 (nl l (i+1) nt).2).bind λy i nt=> .ok (43,[x.1,y.1]) i nt else .ok (42,[x.1]) i nt:PR (Int×List Tn)).bind λq i nt=>bif bC l i==30 then(JI l n i nt).bind λb i nt=> .ok (.mk q.1 3 [] [] (q.2++[b])) i nt else endP l (.mk q.1 1 [] [] q.2) i nt
def SQ(l:List Tk):Nat->List Tn->Nat->iw->PR (List Tn)
 |0,_,_,_=> .out
 |n+1,L,i,nt=>
  (let q:=sep l i nt
   bif bC l q.1==0 then .ok (L++Dq q.2) q.1 [] else bif bC l q.1==31 then .bad q.1 else
   (Ux l n q.1 []).bind λs i nt=>SQ l n ((L++Dq q.2)++[s]) i nt)
def PR.sat{α:Type}(P:α->Nat->iw->Prop)(x:PR α):Prop:=match x with
 | .ok a i nt=>P a i nt
 |_=>True
def PR.tot{α:Type}(P:α->Nat->iw->Prop)(x:PR α):Prop:=match x with
 | .ok a i nt=>P a i nt
 | .bad _=>True
 | .out=>False
section
variable {α β:Type} {P Q:α->Nat->iw->Prop} {R:β->Nat->iw->Prop} {x y:PR α} {f:α->Nat->iw->PR β} {c:Bool}
def fU:(x.bind f).tot R↔x.tot λa i nt=>(f a i nt).tot R:=by cases x<;>exact Iff.rfl
def cu(h:x.tot P)(k:∀a i nt,P a i nt->Q a i nt):x.tot Q:=by
 cases x with
 |ok a i nt=>exact k a i nt h
 |bad _=>trivial
 |out=>exact h
def fF:(bif c then x else y).tot P↔(c=true->x.tot P)/\(c=false->y.tot P):=by cases c<;>simp
end
variable {l:List Tk}
def dX{i:Nat}(h:bC l i≠0):i<l.length:=by
 unfold bC at h;cases hq:l[i]? with
 |none=>rw[hq] at h;exact absurd rfl h
 |some t=>exact(Vo.1 hq).1
def C9{P:Unit->Nat->iw->Prop}{k:Int}{i:Nat}{nt:iw}:(iV l k i nt).tot P↔(bC l i=k->P () (i+1) nt):=by unfold iV;rw[fF];simp[PR.tot]
def Zj{P:aP->Nat->iw->Prop}{i:Nat}{nt:iw}:(nameP l i nt).tot P↔(bC l i=6->P (zK l i) (i+1) nt):=by unfold nameP;rw[fF];simp[PR.tot]
def amP:∀(r:List Tk) (i:Nat) (nt:iw),i<=(nlR r i nt).1
 |[],i,nt=>by rw[nlR];exact zaN _
 |t::r,i,nt=>by
  rw[nlR];cases t.kind==1<;>cases t.kind==2<;>simp only[aI,bH]
  ·exact zaN _
  ·have:=amP r (i+1) (nt++[t.text]);omega
  ·have:=amP r (i+1) nt;omega
  ·have:=amP r (i+1) nt;omega
def agG(i:Nat)(nt:iw):i<=(nl l i nt).1:=amP _ _ _
def ahp:∀(r:List Tk) (i:Nat) (nt:iw),i<=(Z5 r i nt).1
 |[],i,nt=>by rw[Z5];exact zaN _
 |t::r,i,nt=>by
  rw[Z5];cases(t.kind==1||t.kind==37)<;>cases t.kind==2<;>simp only[aI,bH]
  ·exact zaN _
  ·have:=ahp r (i+1) (nt++[t.text]);omega
  ·have:=ahp r (i+1) nt;omega
  ·have:=ahp r (i+1) nt;omega
def amQ(i:Nat)(nt:iw):i<=(sep l i nt).1:=ahp _ _ _
structure Ends(l:List Tk)(n:Nat):Prop where
 ex:∀lv a b i nt,1<=lv->lv<=15->40 * (l.length - i)+(2 * (16 - lv)+2)<=n->(ex l n lv a b i nt).tot λ_ j _=>i<j
 ch:∀lv a b x i nt,3<=lv->lv<=10->40 * (l.length - i)+(2 * (16 - lv)+1)<=n->(chP l n lv a b x i nt).tot λ_ j _=>i<=j
 inp:∀a x i nt,40 * (l.length - i)+1<=n->(inP l n a x i nt).tot λ_ j _=>i<=j
 pre:∀i nt,i<l.length->40 * (l.length - i)+1<=n->(Zi l n i nt).tot λ_ j _=>i<j
 lst:∀e i nt,e≠0->40 * (l.length - i)+36<=n->(PV l n e i nt).tot λ_ j _=>i<j
 it:∀a b L i nt,40 * (l.length - i)+35<=n->(NQ l n a b L i nt).tot λ_ j _=>i<j
def ajo{k:Int}(h:aji k=true):k≠0:=by rintro rfl;exact absurd h (by decide)
def Js{k:Int}(h:isStep k=true):k≠0:=by rintro rfl;exact absurd h (by decide)
def Jt{lv:Nat}{b:Bool}{k:Int}(h3:3<=lv)(h:Bg lv b k=true):k≠0:=by
 rintro rfl;unfold Bg at h;cases hb:Nat.beq lv 8 with
 |true=>rw[hb,aI] at h;exact absurd h (by decide)
 |false=>
  rw[hb,bH,Jw] at h;have h1:(0:Int)=(lv:Int):=by simpa[EH] using h.1
  omega
section
variable {n:Nat} (h:Ends l n)
include h
theorem aCe(lv:Nat)(a b:Bool)(i:Nat)(nt:iw)(h1:1<=lv)(h2:lv<=15)(hn:40 * (l.length - i)+(2 * (16 - lv)+2)<=n+1):(ex l (n+1) lv a b i nt).tot λ_ j _=>i<j:=by
 have hlt:∀{j:Nat} {k:Int},(bC l j==k)=true->k≠0->j<l.length:=λe hk=>dX (by rw[beq_iff_eq] at e;rw[e];exact hk)
 have hc:lv=1\/lv=2\/lv=3\/lv=4\/lv=5\/lv=6\/lv=7\/lv=8\/lv=9\/lv=10\/lv=11\/lv=12\/lv=13\/lv=14\/lv=15:=aB;rcases hc with rfl|rfl|rfl|rfl|rfl|rfl|rfl|rfl|rfl|rfl|rfl|rfl|rfl|rfl|rfl<;>simp only[ex,fU]
 ·refine cu (h.ex 2 a b i nt aB aB aB) λx j m hj=> ?_
  rw[fF];refine⟨λhc=> ?_,λ_=>hj⟩;rw[Jw] at hc;have:=dX (ajo hc.2);rw[fU];exact cu (h.ex 1 a b (j+1) m aB aB aB) λy j' m' hj'=>(show i<j' by omega)
 ·refine cu (h.ex 3 a b i nt aB aB aB) λx j m hj=> ?_
  rw[fF];refine⟨λhc=> ?_,λ_=>hj⟩;have:=hlt hc (by decide);simp only[fU,C9];refine cu (h.ex 2 a b (j+1) m aB aB aB) λy j2 m2 hj2=>λhk=> ?_
  exact cu (h.ex 2 a b (j2+1) m2 aB aB aB) λz j3 m3 hj3=>(show i<j3 by omega)
 ·refine cu (h.ex 4 a b i nt aB aB aB) λx j m hj=> ?_
  exact cu (h.ch 3 a b x j m aB aB aB) λy j' m' hj'=>(show i<j' by omega)
 ·refine cu (h.ex 5 a b i nt aB aB aB) λx j m hj=> ?_
  exact cu (h.ch 4 a b x j m aB aB aB) λy j' m' hj'=>(show i<j' by omega)
 ·rw[fF];refine⟨λhc=> ?_,λ_=> ?_⟩
  ·rw[Jw,Jw] at hc;have:=hlt hc.1.1 (by decide);simp only[fU,C9,Zj];refine cu (h.lst 33 (i+1) nt (by decide) aB) λL j m hj=>λh24 h6=> ?_
   have:=dX (l:=l) (i:=j) (by rw[h24];decide);exact cu (h.inp a _ (j+1+1) m aB) λy j' m' hj'=>(show i<j' by omega)
  ·rw[fU];refine cu (h.ex 6 a b i nt aB aB aB) λx j m hj=> ?_
   exact cu (h.inp a x j m aB) λy j' m' hj'=>(show i<j' by omega)
 ·refine cu (h.ex 7 a b i nt aB aB aB) λx j m hj=> ?_
  rw[fF];refine⟨λhc=> ?_,λ_=>hj⟩;have:j<l.length:=by rw[Bool.or_eq_true] at hc;rcases hc with hc|hc<;>exact hlt hc (by decide)
  rw[fU];exact cu (h.ex 7 a b (j+1) m aB aB aB) λy j' m' hj'=>(show i<j' by omega)
 ·refine cu (h.ex 8 a b i nt aB aB aB) λx j m hj=> ?_
  rw[fF];refine⟨λhc=> ?_,λ_=>hj⟩;have:=dX (Jt aB hc);rw[fU];exact cu (h.ex 8 a b (j+1) m aB aB aB) λy j' m' hj'=>(show i<j' by omega)
 ·refine cu (h.ex 9 a b i nt aB aB aB) λx j m hj=> ?_
  exact cu (h.ch 8 a b x j m aB aB aB) λy j' m' hj'=>(show i<j' by omega)
 ·refine cu (h.ex 10 a b i nt aB aB aB) λx j m hj=> ?_
  exact cu (h.ch 9 a b x j m aB aB aB) λy j' m' hj'=>(show i<j' by omega)
 ·refine cu (h.ex 11 a b i nt aB aB aB) λx j m hj=> ?_
  exact cu (h.ch 10 a b x j m aB aB aB) λy j' m' hj'=>(show i<j' by omega)
 ·rw[fF];refine⟨λhc=> ?_,λ_=>h.ex 12 a b i nt aB aB aB⟩;have:i<l.length:=by simp only[Bool.or_eq_true] at hc;rcases hc with hc|hc|hc<;>exact hlt hc (by decide)
  rw[fU];exact cu (h.ex 11 a b (i+1) nt aB aB aB) λy j' m' hj'=>(show i<j' by omega)
 ·refine cu (h.ex 13 a b i nt aB aB aB) λx j m hj=> ?_
  rw[fF];refine⟨λhc=> ?_,λ_=>hj⟩;have:=hlt hc (by decide);rw[fU];exact cu (h.ex 11 a b (j+1) m aB aB aB) λy j' m' hj'=>(show i<j' by omega)
 ·rw[fF];refine⟨λhc=> ?_,λ_=> ?_⟩
  ·have:=dX (Js hc);exact h.pre i nt this aB
  ·rw[fU];refine cu (h.ex 14 a b i nt aB aB aB) λx j m hj=> ?_
   rw[fF];exact⟨λ_=>(show i<j+1 by omega),λ_=>hj⟩
 ·rw[fF];refine⟨λhc=> ?_,λ_=>h.ex 15 a b i nt aB aB aB⟩;have:=hlt hc (by decide);rw[fU,fF];refine⟨λhs=> ?_,λ_=> ?_⟩
  ·have:=dX (Js hs);exact cu (h.pre (i+1) nt this aB) λx j m hj=>(show i<j by omega)
  ·exact cu (h.ex 14 a b (i+1) nt aB aB aB) λx j m hj=>(show i<j by omega)
 ·have Zk:∀k,(agF k l i nt).tot λ_ j _=>i<j:=λk=>(show i<i+1 by omega)
  rw[fF];refine⟨λ_=>Zk 2,λ_=> ?_⟩;rw[fF];refine⟨λ_=>Zk 3,λ_=> ?_⟩;rw[fF];refine⟨λ_=>Zk 4,λ_=> ?_⟩;rw[fF];refine⟨λhc=> ?_,λ_=> ?_⟩
  ·rw[fF];refine⟨λhd=> ?_,λ_=>Zk 1⟩;have:=hlt hd (by decide);simp only[fU,C9];exact cu (h.it false false [] (i+2) nt aB) λL j m hj=>λ_=>(show i<j+1 by omega)
  rw[fF];refine⟨λhc=> ?_,λ_=> ?_⟩
  ·have:i<l.length:=by rw[Bool.or_eq_true] at hc;rcases hc with hc|hc<;>exact hlt hc (by decide)
   rw[fF];refine⟨λ_=>Zk 8,λ_=> ?_⟩;simp only[fU,C9];intro h32;have:=dX (l:=l) (i:=i+1) (by rw[h32];decide);exact cu (h.lst 33 (i+1+1) nt (by decide) aB) λL j m hj=>(show i<j by omega)
  rw[fF];refine⟨λhc=> ?_,λ_=>trivial⟩;have:=hlt hc (by decide);simp only[fU,C9];exact cu (h.ex 1 false false (i+1) nt aB aB aB) λx j m hj=>λ_=>(show i<j+1 by omega)
theorem aCf(lv:Nat)(a b:Bool)(x:Xp)(i:Nat)(nt:iw)(h3:3<=lv)(h10:lv<=10)(hn:40 * (l.length - i)+(2 * (16 - lv)+1)<=n+1):(chP l (n+1) lv a b x i nt).tot λ_ j _=>i<=j:=by
 rw[chP,fF];refine⟨λhc=> ?_,λ_=>zaN i⟩;have hlt:=dX (Jt h3 hc);simp only;cases h8:Nat.beq lv 8 with
 |true=>
  have:=Bv h8;subst this;simp only[aI,fU];refine cu (h.ex 9 a b i nt aB aB aB) λy j m hj=> ?_
  exact cu (h.ch 8 a b _ j m aB aB aB) λy j' m' hj'=>(show i<=j' by omega)
 |false=>
  simp only[bH];cases h4:Nat.ble lv 4 with
  |true=>
   simp only[aI,fU];have hg:=agG (l:=l) (i+1) nt;refine cu (h.ex (lv+1) a b _ _ aB aB aB) λy j m hj=> ?_
   exact cu (h.ch lv a b _ j m aB aB aB) λy j' m' hj'=>(show i<=j' by omega)
  |false=>
   simp only[bH,fU];refine cu (h.ex (lv+1) a b (i+1) nt aB aB aB) λy j m hj=> ?_
   exact cu (h.ch lv a b _ j m aB aB aB) λy j' m' hj'=>(show i<=j' by omega)
theorem azO(a:Bool)(x:Xp)(i:Nat)(nt:iw)(hn:40 * (l.length - i)+1<=n+1):(inP l (n+1) a x i nt).tot λ_ j _=>i<=j:=by rw[inP,fF];refine⟨λhc=> ?_,λ_=>zaN i⟩;rw[Jw] at hc;have:i<l.length:=dX (by have:=hc.1;rw[beq_iff_eq] at this;rw[this];decide);rw[fU,Zj];intro h6;exact cu (h.inp a _ (i+1+1) nt aB) λy j' m' hj'=>(show i<=j' by omega)
theorem azP(i:Nat)(nt:iw)(hi:i<l.length)(hn:40 * (l.length - i)+1<=n+1):(Zi l (n+1) i nt).tot λ_ j _=>i<j:=by rw[Zi,fF];refine⟨λhc=> ?_,λ_=>trivial⟩;rw[fU];exact cu (h.ex 14 false false (i+1) nt aB aB aB) λy j' m' hj'=>(show i<j' by omega)
theorem azQ(e:Int)(i:Nat)(nt:iw)(he:e≠0)(hn:40 * (l.length - i)+36<=n+1):(PV l (n+1) e i nt).tot λ_ j _=>i<j:=by rw[PV,fF];refine⟨λhc=>(show i<i+1 by omega),λ_=> ?_⟩;simp only[fU,C9];exact cu (h.it false false [] i nt aB) λL j m hj=>λ_=>(show i<j+1 by omega)
theorem aCg(a b:Bool)(L:List Tn)(i:Nat)(nt:iw)(hn:40 * (l.length - i)+35<=n+1):(NQ l (n+1) a b L i nt).tot λ_ j _=>i<j:=by
 rw[NQ,fU];refine cu (h.ex 1 a b i nt aB aB aB) λx j m hj=> ?_
 rw[fF];refine⟨λhc=> ?_,λ_=>hj⟩;have:j<l.length:=dX (by rw[beq_iff_eq] at hc;rw[hc];decide);rw[fF];refine⟨λ_=>trivial,λ_=> ?_⟩;have hg:=agG (l:=l) (j+1) m;exact cu (h.it a b _ _ _ aB) λy j' m' hj'=>(show i<j' by omega)
end
def enE(l:List Tk):∀n,Ends l n
 |0=>⟨λlv a b i nt h1 h2 hn=>by omega,λlv a b x i nt h1 h2 hn=>by omega,λa x i nt hn=>by omega,λi nt h hn=>by omega,λe i nt he hn=>by omega,λa b L i nt hn=>by omega⟩
 |n+1=>have h:=enE l n
  ⟨aCe h,aCf h,azO h,azP h,azQ h,aCg h⟩
end Go.Proofs.YtoaeipkhadpbiaaGreatDoor
