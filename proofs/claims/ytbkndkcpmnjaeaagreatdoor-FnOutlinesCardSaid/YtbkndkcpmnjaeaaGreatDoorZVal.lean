import Derived.Test.YtbkndkcpmnjaeaaGreatDoorPForms3
import Derived.Test.YtbkndkcpmnjaeaaGreatDoorVm4
import Derived.Lib.IndexLaws
set_option linter.defProp false
namespace Go.Proofs.YtbkndkcpmnjaeaaGreatDoor
set_option linter.unusedVariables false
set_option linter.unusedSimpArgs false
set_option linter.unusedSectionVars false
open Go Go.Vm
open Go.IntKind (i64)
open Int (reduceLE reduceLT reduceSub reduceAdd)
def dh:(∀a b:Int,(a>=b)=(b<=a))∧(∀a b:Int,(a>b)=(b<a))∧(∀h:Decidable True,@decide True h=true)∧(∀h:Decidable False,@decide False h=false)∧(∀(α:Type) (a b:α),cond true a b=a)∧(∀(α:Type) (a b:α),cond false a b=b)∧(∀b:Bool,(b && true)=b)∧(∀b:Bool,(b && false)=false)∧(∀b:Bool,(true && b)=b)∧(∀b:Bool,(false && b)=false)∧((!true)=false)∧((!false)=true):=
 ⟨λ_ _=>rfl,λ_ _=>rfl,λh=>@decide_eq_true True h trivial,λh=>@decide_eq_false False h id,λ_ _ _=>rfl,λ_ _ _=>rfl,λb=>by cases b<;>rfl,λb=>by cases b<;>rfl,λ_=>rfl,λ_=>rfl,rfl,rfl⟩
def aX{m n:Nat}(h:m<=n):m.ble n=true:=Nat.ble_eq_true_of_le h
def ah{α β:Type}(a:α)(f:α->Option β):(some a).bind f=f a:=rfl
def vM:((0:Nat):Int)=0:=rfl
def JD(s:aF)(a:Int):Int:=if 0<=a then(match s[a.toNat]? with|some c=>(c.toNat:Int)|none=> -1) else -1
def isD(b:Int):Bool:=decide (b>=48) && decide (b<=57)
def vN(s:aF)(a:Int):Int:=if 0<=a then a+(((s.drop a.toNat).takeWhile λc=>isD (c.toNat:Int)).length:Nat) else a
def aks(c:UInt8):c.toNat<256:=c.toNat_lt
def NQ(s:aF)(i:Nat):JD s (i:Int)=(match s[i]? with|some c=>(c.toNat:Int)|none=> -1):=by rw[JD,if_pos au,RX]
section
variable {s:aF} (h:s.length<=1048576)
include h
theorem KU(a:Int):M.dX s a=some (JD s a):=by
 simp only[M.dX,M.Nv]
 by_cases h0:a<0
 ·rw[zdt h0,aU,JD,if_neg au]
 ·rw[uq h0,bZ];obtain⟨i,rfl⟩:∃i:Nat,a=i:=⟨a.toNat,au⟩
  rw[NQ]
  by_cases h1:(i:Int)>=(s.length:Int)
  ·rw[zdt h1,aU,List.getElem?_eq_none au]
  ·obtain⟨c,hc⟩:∃c,s[i]? =some c:=⟨s[i]'au,by simp⟩
   have:=aks c;rw[uq h1,bZ,bW,hc,ah,aC au au]
theorem KW(a:Int):M.jE s a=some (JD s a):=by
 simp only[M.jE,M.MR,M.bV,M.zA];rw[aC au au]
 by_cases h0:a<0
 ·rw[uq au,bZ,ah,Bool.not_false,aU,JD,if_neg au]
 ·rw[zdt au,aU,ah];obtain⟨i,rfl⟩:∃i:Nat,a=i:=⟨a.toNat,au⟩
  rw[NQ]
  by_cases h1:(i:Int)>=(s.length:Int)
  ·rw[uq au,Bool.not_false,aU,List.getElem?_eq_none au]
  ·obtain⟨c,hc⟩:∃c,s[i]? =some c:=⟨s[i]'au,by simp⟩
   have:=aks c;rw[zdt au,Bool.not_true,bZ,bW,hc,ah,aC au au]
end
def akt(b:Int):M.sK b=some (isD b):=by simp only[M.sK,M.KC,M.bf,M.yL,isD];cases decide (b>=48)<;>rfl
def aku(b:Int):M.sG b=some (isD b):=by simp only[M.sG,M.J7,isD];cases decide (b>=48)<;>rfl
def az3{s:aF}{b:Int->Option (Int⊕Int)}(hb:∀a,0<=a->a<=2000000->b a=some (bif isD (JD s a) then .inl (a+1) else .inr a))(h:s.length<=1048576):
  ∀(rest pre:aF),s=pre++rest->fM b (pre.length:Int)=some ((pre.length:Int)+((rest.takeWhile λc=>isD (c.toNat:Int)).length:Nat))
 |[],pre,e=>by
  have hl:pre.length=s.length:=by rw[e];simp
  refine dZ ?_;rw[hb _ au au,NQ,List.getElem?_eq_none au];simp[isD]
 |c::rest,pre,e=>by
  have hl:s.length=pre.length+(rest.length+1):=by rw[e];simp
  have hget:s[pre.length]? =some c:=by rw[e,List.getElem?_append_right (Nat.le_refl _),Nat.sub_self];rfl
  have hs:=hb (pre.length:Int) au au;rw[NQ,hget] at hs;simp only at hs;cases hd:isD (c.toNat:Int) with
  |true=>have:=az3 hb h rest (pre++[c]) (by rw[e];simp);rw[rX,Le] at this;rw[hd,aU] at hs;rw[iC hs,List.takeWhile_cons,if_pos hd,show(pre.length:Int)+1=((pre.length+1:Nat):Int) by omega,this];simp;omega
  |false=>rw[hd,bZ] at hs;rw[dZ hs,List.takeWhile_cons,hd];simp
def atJ{s:aF}{b:Int->Option (Int⊕Int)}(hb:∀a,0<=a->a<=2000000->b a=some (bif isD (JD s a) then .inl (a+1) else .inr a))(h:s.length<=1048576)(a:Int)(h0:0<=a)(h1:a<=2000000):fM b a=some (vN s a):=by
 obtain⟨i,rfl⟩:∃i:Nat,a=i:=⟨a.toNat,au⟩
 rw[vN,if_pos h0,RX]
 by_cases hi:i<=s.length
 ·have:=az3 hb h (s.drop i) (s.take i) (List.take_append_drop i s).symm;rw[RZ,Nat.min_eq_left hi] at this;exact this
 ·rw[List.drop_eq_nil_of_le au];refine dZ ?_;rw[hb _ h0 h1,NQ,List.getElem?_eq_none au];simp[isD]
def LX{s:aF}(h:s.length<=1048576){a:Int}(h0:0<=a):a<=vN s a∧(vN s a<=a∨vN s a<=s.length):=by have h1:=(List.takeWhile_sublist (p:=λc:UInt8=>isD (c.toNat:Int)) (l:=s.drop a.toNat)).length_le;rw[List.length_drop] at h1;rw[vN,if_pos h0];omega
section
variable {s:aF} (h:s.length<=1048576)
include h
theorem AZ(a:Int)(h0:0<=a)(h1:a<=2000000):M.aK s a=some (vN s a):=by simp only[M.aK,M.IL,M.GR];rw[atJ (λa h0 h1=>by simp only[M.Qm,M.Cj,KU h,akt,ah];rw[aC au au];cases isD (JD s a)<;>rfl) h a h0 h1,ah]
theorem yX(a:Int)(h0:0<=a)(h1:a<=2000000):M.dJ s a=some (vN s a):=by simp only[M.dJ,M.Gv,M.Eh];rw[atJ (λa h0 h1=>by simp only[M.OY,M.zQ,KW h,aku,ah];rw[aC au au];cases isD (JD s a)<;>rfl) h a h0 h1,ah]
end
def VA(s:aF)(r:Int):Int:=bif(JD s r==101)||(JD s r==69) then
  (bif(JD s (r+1)==43)||(JD s (r+1)==45) then(bif decide (vN s (r+1+1)>r+1+1) then vN s (r+1+1) else r) else(bif decide (vN s (r+1)>r+1) then vN s (r+1) else r)) else r
def VB(s:aF)(a:Int):Int:=if a<0∨(s.length:Int)<=a then -1 else
 bif JD s (vN s a)==46 then(bif(vN s a==a) &&(vN s (vN s a+1)==vN s a+1) then -1 else VA s (vN s (vN s a+1))) else(bif vN s a==a then -1 else VA s (vN s a))
section
variable {s:aF} (h:s.length<=1048576)
include h
set_option maxHeartbeats 2000000 in
theorem aen(a:Int)(ha:a<=1048576):M.Bv s a=some (VB s a):=by
 simp only[M.Bv,M.MS,M.bV,M.zA,VB];rw[aC au au]
 by_cases h0:a<0
 ·rw[uq au,bZ,ah,Bool.not_false,aU,if_pos (.inl h0)]
 ·rw[zdt au,aU,ah]
  by_cases h1:(s.length:Int)<=a
  ·rw[uq au,Bool.not_false,aU,if_pos (.inr h1)]
  ·rw[zdt au,Bool.not_true,bZ,if_neg au,yX h a au au,ah];have e1:=LX h (a:=a) au;generalize hE:vN s a=e at e1⊢;simp only[KW h,ah];rw[aC (n:=e+1) au au,aC (n:=e - a) au au,yX h (e+1) au au,ah];have e2:=LX h (a:=e+1) au;generalize hK:vN s (e+1)=k at e2⊢;have hz:(i64.wrap (e - a+i64.wrap (i64.wrap (k - e) - 1))==0)=((e==a) &&(k==e+1)):=by rw[aC (n:=k - e) au au,aC (n:=k - e - 1) au au,aC au au,Bool.eq_iff_iff];simp only[vF,beq_iff_eq];omega
   have hz2:(e - a==0)=(e==a):=by rw[Bool.eq_iff_iff];simp only[beq_iff_eq];omega
   rw[hz,hz2];have ex:∀r:Int,0<=r->r<=1048578->(bif JD s r==101 then
      ((some (JD s (i64.wrap (r+1)))).bind λawz=>
      (bif awz==43 then
       ((M.dJ s (i64.wrap (i64.wrap (r+1)+1))).bind λawu=>
       (bif decide (awu>i64.wrap (i64.wrap (r+1)+1)) then(some awu) else(some r))) else
       (bif awz==45 then
       ((M.dJ s (i64.wrap (i64.wrap (r+1)+1))).bind λawC=>(bif decide (awC>i64.wrap (i64.wrap (r+1)+1)) then(some awC) else(some r))) else
       ((M.dJ s (i64.wrap (r+1))).bind λaq5=>(bif decide (aq5>i64.wrap (r+1)) then(some aq5) else(some r)))))) else
      (bif JD s r==69 then
      ((some (JD s (i64.wrap (r+1)))).bind λaq6=>
       (bif aq6==43 then
       ((M.dJ s (i64.wrap (i64.wrap (r+1)+1))).bind λawv=>(bif decide (awv>i64.wrap (i64.wrap (r+1)+1)) then(some awv) else(some r))) else
       (bif aq6==45 then
        ((M.dJ s (i64.wrap (i64.wrap (r+1)+1))).bind λaww=>
        (bif decide (aww>i64.wrap (i64.wrap (r+1)+1)) then(some aww) else(some r))) else
        ((M.dJ s (i64.wrap (r+1))).bind λawx=>(bif decide (awx>i64.wrap (r+1)) then(some awx) else(some r)))))) else(some r)))=some (VA s r):=by
    intro r h0 h1;rw[aC (n:=r+1) au au,aC (n:=r+1+1) au au,yX h (r+1) au au,yX h (r+1+1) au au,VA];simp only[ah];cases JD s r==101<;>cases JD s r==69<;>cases JD s (r+1)==43<;>cases JD s (r+1)==45<;>cases decide (vN s (r+1+1)>r+1+1)<;>cases decide (vN s (r+1)>r+1)<;>rfl
   simp only[ah] at ex;cases JD s e==46 with
   |true=>
    simp only[aU];cases(e==a) &&(k==e+1) with
    |true=>rfl
    |false=>simp only[bZ];exact ex k au au
   |false=>
    simp only[bZ];cases e==a with
    |true=>rfl
    |false=>simp only[bZ];have h2:=ex e au au;rw[aC (n:=e+1) au au,yX h (e+1) au au,hK] at h2;simp only[ah] at h2;exact h2
theorem aeo(a:Int)(ha:a<=1048576):M.BI s a=some (VB s a):=by
 simp only[M.BI,M.Nw,VB]
 by_cases h0:a<0
 ·rw[zdt h0,aU,if_pos (.inl h0)]
 ·rw[uq h0,bZ];have e1:=LX h (a:=a) au;rw[AZ h a au au,ah];simp only[KU h,ah]
  by_cases h1:(s.length:Int)<=a
  ·have he:vN s a=a:=au;obtain⟨i,rfl⟩:∃i:Nat,a=i:=⟨a.toNat,au⟩
   have hb:JD s (i:Int)= -1:=by rw[NQ,List.getElem?_eq_none au]
   rw[he,hb,if_pos (.inr h1),show((-1:Int)==46)=false from rfl,bZ,beq_self_eq_true,aU]
  ·rw[if_neg au];generalize hE:vN s a=e at e1⊢;have e2:=LX h (a:=e+1) au;rw[aC (n:=e+1) au au,AZ h (e+1) au au,ah];have ex:∀r:Int,0<=r->r<=1048578->(bif JD s r==101 then
      (bif JD s (i64.wrap (r+1))==43 then
       ((M.aK s (i64.wrap (i64.wrap (r+1)+1))).bind λapc=>
        (bif decide (apc>i64.wrap (i64.wrap (r+1)+1)) then
        ((M.aK s (i64.wrap (i64.wrap (r+1)+1))).bind λavx=>(some avx)) else(some r))) else
        (bif JD s (i64.wrap (r+1))==45 then
        ((M.aK s (i64.wrap (i64.wrap (r+1)+1))).bind λahH=>
         (bif decide (ahH>i64.wrap (i64.wrap (r+1)+1)) then
         ((M.aK s (i64.wrap (i64.wrap (r+1)+1))).bind λapd=>(some apd)) else(some r))) else
        ((M.aK s (i64.wrap (r+1))).bind λOI=>(bif decide (OI>i64.wrap (r+1)) then((M.aK s (i64.wrap (r+1))).bind λape=>(some ape)) else(some r))))) else
       (bif JD s r==69 then
        (bif JD s (i64.wrap (r+1))==43 then
        ((M.aK s (i64.wrap (i64.wrap (r+1)+1))).bind λaVX=>
         (bif decide (aVX>i64.wrap (i64.wrap (r+1)+1)) then
         ((M.aK s (i64.wrap (i64.wrap (r+1)+1))).bind λavA=>(some avA)) else(some r))) else
         (bif JD s (i64.wrap (r+1))==45 then
         ((M.aK s (i64.wrap (i64.wrap (r+1)+1))).bind λavF=>
          (bif decide (avF>i64.wrap (i64.wrap (r+1)+1)) then
          ((M.aK s (i64.wrap (i64.wrap (r+1)+1))).bind λapf=>(some apf)) else(some r))) else
         ((M.aK s (i64.wrap (r+1))).bind λapg=>(bif decide (apg>i64.wrap (r+1)) then((M.aK s (i64.wrap (r+1))).bind λaph=>(some aph)) else(some r))))) else(some r)))=some (VA s r):=by
    intro r h0 h1;rw[aC (n:=r+1) au au,aC (n:=r+1+1) au au,AZ h (r+1) au au,AZ h (r+1+1) au au,VA];simp only[ah];cases JD s r==101<;>cases JD s r==69<;>cases JD s (r+1)==43<;>cases JD s (r+1)==45<;>cases decide (vN s (r+1+1)>r+1+1)<;>cases decide (vN s (r+1)>r+1)<;>rfl
   generalize hK:vN s (e+1)=k at e2⊢;have hka:(k==a)=false:=by rw[Lu];omega
   rw[hka];cases JD s e==46 with
   |true=>
    simp only[aU,bZ];cases e==a with
    |true=>
     simp only[aU,Bool.true_and];cases k==e+1 with
     |true=>rfl
     |false=>simp only[bZ];exact ex k au au
    |false=>simp only[bZ,Bool.false_and];exact ex k au au
   |false=>
    simp only[bZ];cases e==a with
    |true=>rfl
    |false=>simp only[bZ];have h2:=ex e au au;rw[aC (n:=e+1) au au,AZ h (e+1) au au,hK] at h2;simp only[ah] at h2;exact h2
end
def abY(q:Int):aF->Int->Int
 |[],_=> -1
 |c::l,i=>if(c.toNat:Int)=q then i+1 else if(c.toNat:Int)=10 then -1 else if(c.toNat:Int)=92 then(match l with
   |[]=> -1
   |d::l'=>if(d.toNat:Int)=10 then -1 else abY q l' (i+2)) else abY q l (i+1)
def aam(q:Int)(c:UInt8)(l:aF)(i:Int):abY q (c::l) i=if(c.toNat:Int)=q then i+1 else if(c.toNat:Int)=10 then -1 else if(c.toNat:Int)=92 then(match l with
   |[]=> -1
   |d::l'=>if(d.toNat:Int)=10 then -1 else abY q l' (i+2)) else abY q l (i+1):=by
 cases l with
 |nil=>simp[abY]
 |cons d l=>simp[abY]
def hdI:aF->Int
 |[]=> -1
 |d::_=>(d.toNat:Int)
def quoted(s:aF)(a q:Int):Int:=if JD s a=q then abY q (s.drop (a+1).toNat) (a+1) else -1
def atK{s:aF}(h:s.length<=1048576)(q:Int)(hq:q≠10):∀(n:Nat) (rest pre:aF),rest.length<=n->s=pre++rest->
  (∃r,M.rV s q (pre.length:Int)=some r∧(uw r some λu=>letE u λ_=>some (-1))=some (abY q rest (pre.length:Int)))∧
  (∃r,M.ql s q (pre.length:Int)=some r∧(uw r some λu=>letE u λ_=>some (-1))=some (abY q rest (pre.length:Int)))
 |n,[],pre,hn,e=>by
  have hl:pre.length=s.length:=by rw[e];simp
  constructor
  ·refine⟨.inr (pre.length:Int), ?_,rfl⟩;rw[M.rV];refine dZ ?_;simp only[M.wQ,M.rU];rw[uq au,bZ]
  ·refine⟨.inr (pre.length:Int), ?_,rfl⟩;rw[M.ql];refine dZ ?_;simp only[M.uV,M.qy];rw[uq au,bZ]
 |0,c::rest,pre,hn,e=>by simp at hn
 |n+1,c::rest,pre,hn,e=>by
  simp only[oh] at hn;have hl:s.length=pre.length+(rest.length+1):=by rw[e];simp
  have hget:s[pre.length]? =some c:=by rw[e,List.getElem?_append_right (Nat.le_refl _),Nat.sub_self];rfl
  have hc:=aks c;have hw:i64.wrap ((c.toNat:Nat):Int)=(c.toNat:Int):=aC au au;have hw1:i64.wrap ((pre.length:Int)+1)=((pre.length+1:Nat):Int):=by rw[aC au au];omega
  have hw2:i64.wrap (((pre.length+1:Nat):Int)+1)=((pre.length+2:Nat):Int):=by rw[aC au au];omega
  have hnext:JD s ((pre.length+1:Nat):Int)=hdI rest:=by rw[NQ,e,List.getElem?_append_right au,show pre.length+1 - pre.length=1 by omega];cases rest<;>rfl
  have hS:M.wQ s q (pre.length:Int)=some (if(c.toNat:Int)=q then .inr (.inl ((pre.length+1:Nat):Int)) else if(c.toNat:Int)=10 then .inr (.inl (-1)) else if(c.toNat:Int)=92 then
    (if JD s ((pre.length+1:Nat):Int)=10 then .inr (.inl (-1)) else .inl ((pre.length+2:Nat):Int)) else .inl ((pre.length+1:Nat):Int)):=by
   simp only[M.wQ,M.rU,bW,hget,ah,hw,hw1,hw2,KU h];rw[zdt au,aU]
   by_cases c1:(c.toNat:Int)=q
   ·rw[if_pos c1,show((c.toNat:Int)==q)=true by simpa using c1,aU]
   ·rw[if_neg c1,show((c.toNat:Int)==q)=false by simpa using c1,bZ]
    by_cases c2:(c.toNat:Int)=10
    ·rw[if_pos c2,show((c.toNat:Int)==10)=true by simpa using c2,aU]
    ·rw[if_neg c2,show((c.toNat:Int)==10)=false by simpa using c2,bZ]
     by_cases c3:(c.toNat:Int)=92
     ·rw[if_pos c3,show((c.toNat:Int)==92)=true by simpa using c3,aU]
      by_cases c4:JD s ((pre.length+1:Nat):Int)=10
      ·rw[if_pos c4,c4];rfl
      ·rw[if_neg c4,show(JD s ((pre.length+1:Nat):Int)==10)=false by simpa using c4,bZ]
     ·rw[if_neg c3,show((c.toNat:Int)==92)=false by simpa using c3,bZ]
  have hI:M.uV s q (pre.length:Int)=some (if(c.toNat:Int)=10 then .inr (.inr (pre.length:Int)) else if(c.toNat:Int)=q then .inr (.inl ((pre.length+1:Nat):Int)) else if(c.toNat:Int)=92 then
    (if JD s ((pre.length+1:Nat):Int)=10 then .inl ((pre.length+1:Nat):Int) else .inl ((pre.length+2:Nat):Int)) else .inl ((pre.length+1:Nat):Int)):=by
   simp only[M.uV,M.qy,bW,hget,ah,hw,hw1,hw2,KW h];rw[zdt au,aU]
   by_cases c2:(c.toNat:Int)=10
   ·rw[if_pos c2,show((c.toNat:Int) !=10)=false by simpa using c2,bZ]
   ·rw[if_neg c2,show((c.toNat:Int) !=10)=true by simpa using c2,aU]
    by_cases c1:(c.toNat:Int)=q
    ·rw[if_pos c1,show((c.toNat:Int)==q)=true by simpa using c1,aU]
    ·rw[if_neg c1,show((c.toNat:Int)==q)=false by simpa using c1,bZ]
     by_cases c3:(c.toNat:Int)=92
     ·rw[if_pos c3,show((c.toNat:Int)==92)=true by simpa using c3,aU]
      by_cases c4:JD s ((pre.length+1:Nat):Int)=10
      ·rw[if_pos c4,c4];rfl
      ·rw[if_neg c4,show(JD s ((pre.length+1:Nat):Int) !=10)=true by simpa using c4,aU]
     ·rw[if_neg c3,show((c.toNat:Int)==92)=false by simpa using c3,bZ]
  have e1:s=(pre++[c])++rest:=by rw[e];simp
  have ih1:=atK h q hq n rest (pre++[c]) au e1;rw[rX,Le] at ih1;rw[M.rV,M.ql] at ih1⊢;rw[aam]
  by_cases c1:(c.toNat:Int)=q
  ·have c2:¬(c.toNat:Int)=10:=au;rw[if_pos c1];rw[if_pos c1] at hS;rw[if_neg c2,if_pos c1] at hI;refine⟨⟨_,dZ hS, ?_⟩,⟨_,dZ hI, ?_⟩⟩<;>simp[uw]
  ·rw[if_neg c1];rw[if_neg c1] at hS
   by_cases c2:(c.toNat:Int)=10
   ·rw[if_pos c2];rw[if_pos c2] at hS hI;exact⟨⟨_,dZ hS,rfl⟩,⟨_,dZ hI,rfl⟩⟩
   ·rw[if_neg c2];rw[if_neg c2] at hS hI;rw[if_neg c1] at hI
    by_cases c3:(c.toNat:Int)=92
    ·rw[if_pos c3];rw[if_pos c3] at hS hI;cases rest with
     |nil=>
      rw[hnext,hdI] at hS hI;simp only[show¬((-1:Int)=10) by omega,if_false] at hS hI;have hend:∀(b:Int->Option (Int⊕(Int⊕Int))),True:=λ_=>trivial
      simp only[zM] at hl;refine⟨⟨.inr ((pre.length+2:Nat):Int), ?_,rfl⟩,⟨.inr ((pre.length+2:Nat):Int), ?_,rfl⟩⟩
      ·rw[iC hS];refine dZ ?_;simp only[M.wQ,M.rU];rw[uq au,bZ]
      ·rw[iC hI];refine dZ ?_;simp only[M.uV,M.qy];rw[uq au,bZ]
     |cons d rest'=>
      simp only[hdI] at hnext⊢;rw[hnext] at hS hI
      by_cases c4:(d.toNat:Int)=10
      ·rw[if_pos c4];rw[if_pos c4] at hS hI;refine⟨⟨_,dZ hS,rfl⟩, ?_⟩;obtain⟨r,h1,h2⟩:=ih1.2;refine⟨r,by rw[iC hI];exact h1, ?_⟩;rw[h2,aam,if_neg au,if_pos c4]
      ·rw[if_neg c4];rw[if_neg c4] at hS hI;have e2:s=(pre++[c,d])++rest':=by rw[e];simp
       simp only[oh] at hn;have ih2:=atK h q hq n rest' (pre++[c,d]) au e2;rw[rX,show[c,d].length=2 from rfl,M.rV,M.ql] at ih2;rw[iC hS,iC hI,show(pre.length:Int)+2=((pre.length+2:Nat):Int) by omega];exact ih2
    ·rw[if_neg c3];rw[if_neg c3] at hS hI;rw[iC hS,iC hI,show(pre.length:Int)+1=((pre.length+1:Nat):Int) by omega];exact ih1
section
variable {s:aF} (h:s.length<=1048576)
include h
theorem ags(a q:Int)(h0:0<=a)(h1:a<=1048576)(hq:0<=q)(hq2:q≠10):M.pG s a q=some (quoted s a q)∧M.nV s a q=some (quoted s a q):=by
 simp only[M.pG,M.IQ,M.nV,M.Gw,KU h,KW h,ah,quoted]
 by_cases hb:JD s a=q
 ·rw[if_pos hb,show(JD s a !=q)=false by simpa using hb,bZ,bZ,aC au au];obtain⟨i,rfl⟩:∃i:Nat,a=i:=⟨a.toNat,au⟩
  have hi:i<s.length:=by
   rcases Nat.lt_or_ge i s.length with hlt|hge
   ·exact hlt
   ·rw[NQ,List.getElem?_eq_none hge] at hb;simp only at hb;omega
  obtain⟨⟨r,k1,k2⟩,⟨r',k3,k4⟩⟩:=atK h q hq2 _ (s.drop (i+1)) (s.take (i+1)) (Nat.le_refl _) (List.take_append_drop _ s).symm;rw[RZ,Nat.min_eq_left au] at k1 k2 k3 k4;rw[show(i:Int)+1=((i+1:Nat):Int) by omega,RX,k1,k3,ah,ah];exact⟨k2,k4⟩
 ·rw[if_neg hb,show(JD s a !=q)=true by simpa using hb,aU,aU];exact⟨rfl,rfl⟩
theorem apm(a:Int)(h0:0<=a)(h1:a<=1048576):M.BJ s a=some (quoted s a 34)∧M.Bz s a=some (quoted s a 34):=by have:=ags h a 34 h0 h1 au au;simp only[M.BJ,M.Ny,M.Bz,M.MV,this.1,this.2,ah];constructor<;>first|rfl|trivial
def X7(s:aF)(a:Int):Int:=bif quoted s a 47==a+2 then -1 else quoted s a 47
theorem apn(a:Int)(h0:0<=a)(h1:a<=1048576):M.BK s a=some (X7 s a)∧M.BA s a=some (X7 s a):=by have:=ags h a 47 h0 h1 au au;simp only[M.BK,M.Nz,M.BA,M.MW,this.1,this.2,ah,X7];rw[aC au au];cases quoted s a 47==a+2<;>simp
end
end Go.Proofs.YtbkndkcpmnjaeaaGreatDoor
namespace Go.Proofs.YtbkndkcpmnjaeaaGreatDoor
set_option linter.unusedVariables false
set_option linter.unusedSimpArgs false
set_option linter.unusedSectionVars false
open Go Go.Vm
open Go.IntKind (i64)
open Int (reduceLE reduceLT reduceSub reduceAdd)
@[simp] theorem oV(l:List (aF)):(encS l).length=l.length:=by simp[encS]
@[simp] theorem Ol(l:List (aF))(i:Nat):(encS l)[i]? =(l[i]?).map λs=>[D.str s]:=by simp[encS]
def cS0(s:aF):cStr [D.str s] 0=some s:=rfl
def strsOf:Row->List (aF)
 |[]=>[]
 | .str s::r=>s::strsOf r
 |_::r=>strsOf r
def UR:List (aF):=strsOf Bl
def RN:List (aF):=strsOf Qe
def ahN:List (aF):=strsOf Jq
def Jv(s:aF):List (aF)->Int->Int
 |[],_=> -1
 |x::l,i=>if x==s then i else Jv s l (i+1)
def abf(s:aF):∀(l:List (aF)) (i:Int),0<=i-> -1<=Jv s l i∧Jv s l i<i+l.length
 |[],i,h=>by simp[Jv];omega
 |x::l,i,h=>by
  rw[Jv];split
  ·simp;omega
  ·have:=abf s l (i+1) au;simp only[oh];omega
def agt(s:aF)(l:List (aF))(hl:l.length<=1048576){b:Int->Option (Int⊕(Int⊕Int))}
  (hb:∀(i:Nat) x,l[i]? =some x->b (i:Int)=some (if x==s then .inr (.inl (i:Int)) else .inl ((i:Int)+1))) (he:b (l.length:Int)=some (.inr (.inr (l.length:Int)))):
  ∃r,fM b 0=some r∧(uw r some λu=>letE u λ_=>some (-1))=some (Jv s l 0):=by
 have key:∀(t:List (aF)) (i:Nat),l.drop i=t->i<=l.length->∃r,fM b (i:Int)=some r∧(uw r some λu=>letE u λ_=>some (-1))=some (Jv s t (i:Int)):=by
  intro t;induction t with
  |nil=>
   intro i hd hi;have:i=l.length:=by have:=congrArg List.length hd;simp at this;omega
   subst this;exact⟨_,dZ he,rfl⟩
  |cons x t ih=>
   intro i hd hi;have hx:l[i]? =some x:=by
    have:(l.drop i)[0]? =some x:=by rw[hd];rfl
    simpa using this
   have hlt:i<l.length:=(Jm.1 hx).1;have hd':l.drop (i+1)=t:=by rw[<-List.drop_drop,hd];rfl
   have hs:=hb i x hx;rw[Jv];cases hxs:x==s with
   |true=>rw[hxs] at hs;exact⟨_,dZ hs,rfl⟩
   |false=>
    rw[hxs] at hs;obtain⟨r,h1,h2⟩:=ih (i+1) hd' hlt;refine⟨r, ?_, ?_⟩
    ·rw[iC hs,show(i:Int)+1=((i+1:Nat):Int) by omega];exact h1
    ·rw[h2];simp
 exact key l 0 rfl (Nat.zero_le _)
def agu(s:aF)(l:List (aF))(hl:l.length<=1048576):M.vY (encS l) s=some (Jv s l 0):=by
 obtain⟨r,h1,h2⟩:=agt s l hl (b:=M.GK (encS l) s)
  (λi x hx=>by have hi:=(Jm.1 hx).1;simp only[M.GK,M.Au,oV,bW,Ol,hx,Ic,ah,cS0];rw[zdt au,aU,aC au au];cases x==s<;>rfl)
  (by simp only[M.GK,M.Au,oV];rw[uq au,bZ])
 simp only[M.vY,M.Ns,M.KD];rw[h1,ah];exact h2
def aep(s:aF)(l:List (aF))(hl:l.length<=1048576):M.slices_Index (encS l) s=some (Jv s l 0):=by
 obtain⟨r,h1,h2⟩:=agt s l hl (b:=M.Ef (encS l) s (l.length:Int))
  (λi x hx=>by have hi:=(Jm.1 hx).1;simp only[M.Ef,M.yA,bW,Ol,hx,Ic,ah,cS0];rw[zdt au,aU,aC au au,show(s==x)=(x==s) by rw[Bool.eq_iff_iff,beq_iff_eq,beq_iff_eq];exact⟨Eq.symm,Eq.symm⟩];cases x==s<;>rfl)
  (by simp only[M.Ef,M.yA];rw[uq au,bZ])
 simp only[M.slices_Index,M.J8,M.Iq,oV];rw[h1,ah];exact h2
def atL(s:aF):Int:=if Jv s UR 0<0 then 0 else 10+Jv s UR 0
def Xa(s:aF):Bool:=decide (Jv s ahN 0>=0)
def akv:M.vI=some (encS UR):=rfl
def akw:M.uN=some (encS ahN):=rfl
def akx:M.vJ=some (encS RN):=rfl
def aCi:List.map (λx=>[x]) Bl=encS UR:=rfl
def ayk:List.map (λx=>[x]) Jq=encS ahN:=rfl
def ahO(s:aF):M.tZ s=some (atL s)∧M.tN s=some (atL s):=by
 have hr:=abf s UR 0 au;have hl:UR.length=17:=rfl;simp only[M.tZ,M.GL,M.tN,M.Gt,akv,aCi,ah,agu s UR (by rw[hl];omega),aep s UR (by rw[hl];omega),atL]
 by_cases h:Jv s UR 0<0
 ·rw[zdt h,aU,if_pos h];exact⟨rfl,rfl⟩
 ·rw[uq h,bZ,if_neg h,aC au au];exact⟨rfl,rfl⟩
def PG(s:aF):M.kK s=some (Xa s)∧M.lI s=some (Xa s):=by have hl:ahN.length=21:=rfl;simp only[M.kK,M.GN,M.lI,M.Gu,M.slices_Contains,M.yB,akw,ayk,ah,agu s ahN (by rw[hl];omega),aep s ahN (by rw[hl];omega),Xa];constructor<;>first|rfl|trivial
def isL(b:Int):Bool:=(decide (b>=97) && decide (b<=122))||((decide (b>=65) && decide (b<=90))||(b==95))
def isW(b:Int):Bool:=isL b||isD b
def abg(b:Int):M.pF b=some (isL b)∧M.o9 b=some (isL b):=by simp only[M.pF,M.IJ,M.bf,M.yL,M.o9,M.Ip,isL];cases decide (b>=97)<;>cases decide (b<=122)<;>cases decide (b>=65)<;>cases decide (b<=90)<;>cases(b==95)<;>exact⟨rfl,rfl⟩
def NR(b:Int):M.jM b=some (isW b)∧M.jL b=some (isW b):=by simp only[M.jM,M.Eu,M.jL,M.Ed,abg,akt,aku,ah,isW];cases isL b<;>cases isD b<;>exact⟨rfl,rfl⟩
def amB(s:aF):Bool:=s.all λc=>isW (c.toNat:Int)
def aVY:aF->Bool
 |[]=>false
 |c::_=>isL (c.toNat:Int)
def PU(s:aF):Bool:=amB s &&((decide ((s.length:Int)>=1) && decide ((s.length:Int)<=12)) && aVY s)
def aer(s:aF){b:Int->Option (Int⊕(Unit⊕Int))}
  (hb:∀(i:Nat) c,s[i]? =some c->b (i:Int)=some (bif isW (c.toNat:Int) then .inl ((i:Int)+1) else .inr (.inl ()))) (he:b (s.length:Int)=some (.inr (.inr (s.length:Int)))):
  fM b 0=some (bif amB s then .inr (s.length:Int) else .inl ()):=by
 have key:∀(t:aF) (i:Nat),s.drop i=t->i<=s.length->fM b (i:Int)=some (bif amB t then .inr (s.length:Int) else .inl ()):=by
  intro t;induction t with
  |nil=>
   intro i hd hi;have:i=s.length:=by have:=congrArg List.length hd;simp at this;omega
   subst this;exact dZ he
  |cons x t ih=>
   intro i hd hi;have hx:s[i]? =some x:=by
    have:(s.drop i)[0]? =some x:=by rw[hd];rfl
    simpa using this
   have hlt:i<s.length:=(Jm.1 hx).1;have hd':s.drop (i+1)=t:=by rw[<-List.drop_drop,hd];rfl
   have hs:=hb i x hx;rw[amB,List.all_cons];cases hw:isW (x.toNat:Int) with
   |true=>rw[hw,aU] at hs;rw[iC hs,show(i:Int)+1=((i+1:Nat):Int) by omega,ih (i+1) hd' hlt,Bool.true_and];rfl
   |false=>rw[hw,bZ] at hs;rw[dZ hs];rfl
 exact key s 0 rfl (Nat.zero_le _)
def ahP(s:aF)(h:s.length<=1048576):M.tY s=some (PU s)∧M.tJ s=some (PU s):=by
 have hw:∀c:UInt8,i64.wrap ((c.toNat:Nat):Int)=(c.toNat:Int):=λc=>by have:=aks c;exact aC au au
 have h1:=aer s (b:=M.zT s)
  (λi c hc=>by have hi:=(Jm.1 hc).1;simp only[M.zT,M.uY,bW,hc,ah,hw,NR];rw[zdt au,aU,aC au au];cases isW (c.toNat:Int)<;>rfl)
  (by simp only[M.zT,M.uY];rw[uq au,bZ])
 have h2:=aer s (b:=M.zO s (s.length:Int))
  (λi c hc=>by have hi:=(Jm.1 hc).1;simp only[M.zO,M.uU,bW,hc,ah,hw,NR];rw[zdt au,aU,aC au au];cases isW (c.toNat:Int)<;>rfl)
  (by simp only[M.zO,M.uU];rw[uq au,bZ])
 simp only[M.tY,M.GI,M.tJ,M.Gs,M.Ew,M.Ee,M.bf,M.yL,M.bV,M.zA];rw[h1,h2,ah,ah,PU];cases amB s with
 |false=>exact⟨rfl,rfl⟩
 |true=>
  simp only[aU,uw,letE,Bool.true_and];cases s with
  |nil=>exact⟨rfl,rfl⟩
  |cons c l=>have hi:idx (c::l) 0=some c:=rfl;simp only[hi,ah,hw,abg];cases decide (((c::l).length:Int)>=1)<;>cases decide (((c::l).length:Int)<=12)<;>exact⟨rfl,rfl⟩
def Hy(s:aF):Bool:=PU s &&((atL s==0) && !(Xa s))
def Wh(s:aF)(h:s.length<=1048576):M.ji s=some (Hy s)∧M.jD s=some (Hy s):=by have h1:=ahP s h;simp only[M.ji,M.Nu,M.jD,M.MQ,h1.1,h1.2,ahO,PG,ah,Hy];cases PU s<;>cases atL s==0<;>cases Xa s<;>exact⟨rfl,rfl⟩
end Go.Proofs.YtbkndkcpmnjaeaaGreatDoor
namespace Go.Proofs.YtbkndkcpmnjaeaaGreatDoor
set_option linter.unusedVariables false
set_option linter.unusedSimpArgs false
set_option linter.unusedSectionVars false
open Go Go.Vm
open Go.IntKind (i64)
open Int (reduceLE reduceLT reduceSub reduceAdd)
def aLr(c:UInt8)(n:Nat)(h:n<256):(((c.toNat:Nat):Int)==(n:Int))=(c==UInt8.ofNat n):=by
 rw[Bool.eq_iff_iff,beq_iff_eq,beq_iff_eq];constructor
 ·intro e;apply UInt8.toNat_inj.1;rw[UInt8.toNat_ofNat',Nat.mod_eq_of_lt h];omega
 ·rintro rfl;rw[UInt8.toNat_ofNat',Nat.mod_eq_of_lt h]
def hasB(c:UInt8)(s:aF):Bool:=s.any (· ==c)
def apo(s:aF)(c:UInt8):decide (0<=Lib.indexByte s c)=hasB c s:=by
 have hge:=Lib.indexByte_ge s c;rw[Bool.eq_iff_iff,decide_eq_true_eq,hasB,List.any_eq_true];constructor
 ·intro h;obtain⟨i,hi⟩:∃i:Nat,Lib.indexByte s c=i:=⟨(Lib.indexByte s c).toNat,au⟩
  exact⟨c,Ib (Lib.indexByte_some hi).1,by simp⟩
 ·rintro⟨x,hx,hc⟩;have:=beq_iff_eq.1 hc;subst this;rcases Int.lt_or_le (Lib.indexByte s x) 0 with h|h
  ·obtain⟨i,hi⟩:=List.mem_iff_getElem?.1 hx;exact absurd hi (Lib.indexByte_none au i)
  ·exact h
def aky(s:aF)(h:s.length<=1000000000):M.ni s=some (!(hasB 10 s)):=by
 have key:∀(t:aF) (i:Nat),s.drop i=t->i<=s.length->fM (M.yP s) (i:Int)=some (bif hasB 10 t then .inl () else .inr (s.length:Int)):=by
  intro t;induction t with
  |nil=>
   intro i hd hi;have:i=s.length:=by have:=congrArg List.length hd;simp at this;omega
   subst this;refine dZ ?_;simp only[M.yP,M.yO];rw[uq au,bZ];rfl
  |cons x t ih=>
   intro i hd hi;have hx:s[i]? =some x:=by
    have:(s.drop i)[0]? =some x:=by rw[hd];rfl
    simpa using this
   have hlt:i<s.length:=(Jm.1 hx).1;have hd':s.drop (i+1)=t:=by rw[<-List.drop_drop,hd];rfl
   have hs:M.yP s (i:Int)=some (bif x==10 then .inr (.inl ()) else .inl ((i:Int)+1)):=by simp only[M.yP,M.yO,bW,hx,ah];rw[zdt au,aU,show(10:Int)=((10:Nat):Int) from rfl,aLr _ _ au,aC au au,show(x==UInt8.ofNat 10)=(x==10) from rfl];cases x==10<;>rfl
   rw[hasB,List.any_cons];cases hc:x==10 with
   |true=>rw[hc,aU] at hs;rw[dZ hs];rfl
   |false=>rw[hc,bZ] at hs;rw[iC hs,show(i:Int)+1=((i+1:Nat):Int) by omega,ih (i+1) hd' hlt,Bool.false_or];rfl
 have:=key s 0 rfl (Nat.zero_le _);rw[vM] at this;simp only[M.ni,M.KF,M.IK];rw[this,ah];cases hasB 10 s<;>rfl
def ayl:∀i,i<17->cStr Bl i=UR[i]? :=by decide+kernel
def anU:∀i,i<39->cStr Qe i=RN[i]? :=by decide+kernel
def spell(k:Int):aF:=if k=1 then[10] else if 10<=k∧k<=26 then UR[(k - 10).toNat]?.getD [] else if 30<=k∧k<=68 then RN[(k - 30).toNat]?.getD [] else[]
def mO(k:Int)(hk:I64 k):M.iY k=some (spell k)∧M.gI k=some (spell k):=by
 have l1:UR.length=17:=rfl;have l2:RN.length=39:=rfl;simp only[M.iY,M.KG,M.gI,M.J9,M.oJ,M.yC,M.gV,M.yD,M.bV,M.zA,M.bf,M.yL,akv,akx,ah,spell]
 by_cases h1:k=1
 ·subst h1;exact⟨rfl,rfl⟩
 ·rw[show(k==1)=false by simpa using h1,bZ,bZ,if_neg h1]
  by_cases h2:10<=k∧k<=26
  ·obtain⟨i,hi⟩:∃i:Nat,k=10+i:=⟨(k - 10).toNat,au⟩
   have hw:i64.wrap (k - 10)=(i:Int):=by rw[aC au au];omega
   obtain⟨x,hx⟩:∃x,UR[i]? =some x:=⟨UR[i]'au,by simp⟩
   rw[if_pos h2,zdt (show k>=10 by omega),aU,zdt (show k<=26 by omega),hw,zdt (show(0:Int)<=(i:Int) by omega),zdt (show(i:Int)<17 by omega)];simp only[ah,aU,bW,RX,Ol,hx,Ic,cS0,Bool.and_self,Nat.zero_add,Nat.mul_one,ayl i au];rw[show(k - 10).toNat=i by omega,hx];exact⟨rfl,rfl⟩
  ·have hf:(bif decide (k>=10) then some (decide (k<=26)) else some false)=some false:=by
    by_cases h3:k>=10
    ·rw[zdt h3,aU,uq au]
    ·rw[uq h3,bZ]
   rw[if_neg h2,hf];simp only[ah,bZ]
   by_cases h4:30<=k∧k<=68
   ·obtain⟨i,hi⟩:∃i:Nat,k=30+i:=⟨(k - 30).toNat,au⟩
    have hw:i64.wrap (k - 30)=(i:Int):=by rw[aC au au];omega
    obtain⟨x,hx⟩:∃x,RN[i]? =some x:=⟨RN[i]'au,by simp⟩
    rw[if_pos h4,zdt (show k>=30 by omega),aU,zdt (show k<=68 by omega),hw,zdt (show(0:Int)<=(i:Int) by omega),zdt (show(i:Int)<39 by omega)];simp only[ah,aU,bW,RX,Ol,hx,Ic,cS0,Bool.and_self,Nat.zero_add,Nat.mul_one,anU i au];rw[show(k - 30).toNat=i by omega,hx];exact⟨rfl,rfl⟩
   ·have hf:(bif decide (k>=30) then some (decide (k<=68)) else some false)=some false:=by
     by_cases h3:k>=30
     ·rw[zdt h3,aU,uq au]
     ·rw[uq h3,bZ]
    rw[if_neg h4,hf];exact⟨rfl,rfl⟩
def NS(k:Int)(s:aF):Bool:=bif s==[] then false else
 bif k==2 then(JD s 0==35) && !(hasB 10 s) else bif k==3 then VB s 0==(s.length:Int) else bif k==4 then quoted s 0 34==(s.length:Int) else bif k==5 then X7 s 0==(s.length:Int) else
 bif k==6 then Hy s else bif k==7 then Hy s else bif k==8 then Xa s else s==spell k
def Uh(k:Int)(s:aF)(a:Int)(h:s.length<=1048576)(hk:I64 k):M.lC k s a=some (NS k s)∧M.ou k s a=some (NS k s):=by
 have hn:=Wh s h;have hb:=PG s;have hst:=apm h 0 au au;have her:=apn h 0 au au;have hsp:=mO k hk;have hct:M.strings_Contains s [10]=some (hasB 10 s):=by rw[M.strings_Contains,apo]
 simp only[M.lC,M.KH,M.ou,M.Ko,hn.1,hn.2,hb.1,hb.2,hst.1,hst.2,her.1,her.2,hsp.1,hsp.2,hct,aky s au,aeo h 0 au,aen h 0 au,ah,NS];cases s with
 |nil=>refine⟨?_,rfl⟩;have q1:Hy []=false:=rfl;have q2:Xa []=false:=rfl;have q3:(quoted [] 0 34==(([]:aF).length:Int))=false:=rfl;have q4:(X7 [] 0==(([]:aF).length:Int))=false:=rfl;rw[q1,q2,q3,q4];cases k==2<;>cases k==3<;>cases k==4<;>cases k==5<;>cases k==6<;>cases k==7<;>cases k==8<;>rfl
 |cons c l=>
  have hi:idx (c::l) 0=some c:=rfl;have hb0:JD (c::l) 0=(c.toNat:Int):=rfl;have hne:((c::l:aF)==[])=false:=rfl;have hgt:decide (((c::l).length:Int)>0)=true:=by simp
  have hsw:(spell k==c::l)=(c::l==spell k):=by rw[Bool.eq_iff_iff,beq_iff_eq,beq_iff_eq];exact⟨Eq.symm,Eq.symm⟩
  rw[hi,hb0,hne,hgt,hsw];simp only[ah,aU,bZ,Bool.not_false];cases k==2<;>cases k==3<;>cases k==4<;>cases k==5<;>cases k==6<;>cases k==7<;>cases k==8<;>cases(c.toNat:Int)==35<;>exact⟨rfl,rfl⟩
end Go.Proofs.YtbkndkcpmnjaeaaGreatDoor
namespace Go.Proofs.YtbkndkcpmnjaeaaGreatDoor
set_option linter.unusedVariables false
set_option linter.unusedSimpArgs false
set_option linter.unusedSectionVars false
open Go Go.Vm
open Go.IntKind (i64)
open Int (reduceLE reduceLT reduceSub reduceAdd)
def fB(x a b:Int):M.bf x a b=some (decide (x>=a) && decide (x<=b)):=by simp only[M.bf,M.yL];cases decide (x>=a)<;>rfl
def dn(x a b:Int):M.bV x a b=some (decide (x>=a) && decide (x<=b)):=fB x a b
def abh(op:Int):Bool:=op==60||op==57||op==58||op==59||op==55||op==56||op==99||op==63||op==48||op==47||op==50||op==62||op==49||op==67||op==46||op==45||op==44
def wW(op:Int):M.vH op=some (abh op)∧∃lv,M.lX op=some lv∧(lv !=0)=abh op:=by
 by_cases h44:op=44
 ·subst h44;exact⟨rfl,_,rfl,rfl⟩
 have e44:(op==44)=false:=by simpa using h44
 by_cases h45:op=45
 ·subst h45;exact⟨rfl,_,rfl,rfl⟩
 have e45:(op==45)=false:=by simpa using h45
 by_cases h67:op=67
 ·subst h67;exact⟨rfl,_,rfl,rfl⟩
 have e67:(op==67)=false:=by simpa using h67
 by_cases h46:op=46
 ·subst h46;exact⟨rfl,_,rfl,rfl⟩
 have e46:(op==46)=false:=by simpa using h46
 by_cases h63:op=63
 ·subst h63;exact⟨rfl,_,rfl,rfl⟩
 have e63:(op==63)=false:=by simpa using h63
 by_cases h48:op=48
 ·subst h48;exact⟨rfl,_,rfl,rfl⟩
 have e48:(op==48)=false:=by simpa using h48
 by_cases h47:op=47
 ·subst h47;exact⟨rfl,_,rfl,rfl⟩
 have e47:(op==47)=false:=by simpa using h47
 by_cases h50:op=50
 ·subst h50;exact⟨rfl,_,rfl,rfl⟩
 have e50:(op==50)=false:=by simpa using h50
 by_cases h62:op=62
 ·subst h62;exact⟨rfl,_,rfl,rfl⟩
 have e62:(op==62)=false:=by simpa using h62
 by_cases h49:op=49
 ·subst h49;exact⟨rfl,_,rfl,rfl⟩
 have e49:(op==49)=false:=by simpa using h49
 by_cases h99:op=99
 ·subst h99;exact⟨rfl,_,rfl,rfl⟩
 have e99:(op==99)=false:=by simpa using h99
 by_cases h55:op=55
 ·subst h55;exact⟨rfl,_,rfl,rfl⟩
 have e55:(op==55)=false:=by simpa using h55
 by_cases h56:op=56
 ·subst h56;exact⟨rfl,_,rfl,rfl⟩
 have e56:(op==56)=false:=by simpa using h56
 by_cases h57:op=57
 ·subst h57;exact⟨rfl,_,rfl,rfl⟩
 have e57:(op==57)=false:=by simpa using h57
 by_cases h58:op=58
 ·subst h58;exact⟨rfl,_,rfl,rfl⟩
 have e58:(op==58)=false:=by simpa using h58
 by_cases h59:op=59
 ·subst h59;exact⟨rfl,_,rfl,rfl⟩
 have e59:(op==59)=false:=by simpa using h59
 by_cases h60:op=60
 ·subst h60;exact⟨rfl,_,rfl,rfl⟩
 have e60:(op==60)=false:=by simpa using h60
 simp only[M.vH,M.KA,M.lX,M.FC,abh,e44,e45,e67,e46,e63,e48,e47,e50,e62,e49,e99,e55,e56,e57,e58,e59,e60,bZ,Bool.or_self];exact⟨trivial,0,rfl,rfl⟩
def abj(op:Int):Bool:=op==54||(decide (op>=38) && decide (op<=43))
def mP(op:Int):M.oD op=some (abj op)∧M.vT op=some (abj op):=by simp only[M.oD,M.Et,M.vT,M.Ir,fB,dn,ah,abj];cases op==54<;>exact⟨rfl,rfl⟩
def VD(s:aF)(l:List (aF))(hl:l.length<=1048576):M.slices_Contains (encS l) s=some (decide (Jv s l 0>=0)):=by simp only[M.slices_Contains,M.yB,aep s l hl,ah]
def DJ:([[D.str []],[D.str [62]],[D.str [62,62]],[D.str [124]]]:aA)=encS [[],[62],[62,62],[124]]:=rfl
def X8(s:aF):decide (Jv s [[],[62],[62,62],[124]] 0>=0)=(s==[]||(s==[62]||(s==[62,62]||s==[124]))):=by
 have sw:∀a b:aF,(a==b)=(b==a):=λa b=>by rw[Bool.eq_iff_iff,beq_iff_eq,beq_iff_eq];exact⟨Eq.symm,Eq.symm⟩
 simp only[Jv,sw _ s];cases s==[]<;>cases s==[62]<;>cases s==[62,62]<;>cases s==[124]<;>rfl
def FOk(k op:Int)(t o:aF)(kids:aA):Prop:=∃b,M.aB k op t o kids=some b∧M.gZ k op t o kids=some b
def aym(k:Int)(op:Int)(t o:aF)(kids:aA)(ht:t.length<=1048576)(ho:o.length<=1048576)(hk:kids.length<=400)(hkk:k=1∨k=2∨k=3∨k=4∨k=5∨k=6∨k=7∨k=8∨k=9∨k=10∨k=11∨k=12∨k=13∨k=14∨k=15∨k=16∨k=20∨k=22∨k=23∨k=24∨k=25∨k=26∨k=27∨k=28∨k=29∨k=30∨k=31∨k=32∨k=33∨k=34∨k=40∨k=41∨k=44∨k=45):FOk k op t o kids:=by
 have hn:=Wh t ht;have hn2:=Wh o ho;have hb:=PG t;have ha:=mP op;obtain⟨hi,lv,hlv,hi2⟩:=wW op;have tk:=λk hk=>Uh k t 0 ht hk
 have tk2:=tk 2 ⟨au,au⟩;have tk3:=tk 3 ⟨au,au⟩;have tk4:=tk 4 ⟨au,au⟩;have tk5:=tk 5 ⟨au,au⟩;have hc2:fZ IntKind.i64 [D.int IntKind.i64 3,D.int IntKind.i64 4,D.int IntKind.i64 5] (i64.wrap 0).toNat=some 3:=rfl;have d12:decide ((0:Int)<=i64.wrap 0)=true:=rfl;have d22:decide (i64.wrap 0<3)=true:=rfl;have hc3:fZ IntKind.i64 [D.int IntKind.i64 3,D.int IntKind.i64 4,D.int IntKind.i64 5] (i64.wrap 1).toNat=some 4:=rfl;have d13:decide ((0:Int)<=i64.wrap 1)=true:=rfl;have d23:decide (i64.wrap 1<3)=true:=rfl;have hc4:fZ IntKind.i64 [D.int IntKind.i64 3,D.int IntKind.i64 4,D.int IntKind.i64 5] (i64.wrap 2).toNat=some 5:=rfl;have d14:decide ((0:Int)<=i64.wrap 2)=true:=rfl;have d24:decide (i64.wrap 2<3)=true:=rfl;have z1:decide ((kids.length:Int)<=400)=true:=zdt au;have z2:decide ((0:Int)<=(kids.length:Int))=true:=zdt au;have z3:decide ((kids.length:Int)<=(kids.length:Int))=true:=zdt au;rcases hkk with rfl|rfl|rfl|rfl|rfl|rfl|rfl|rfl|rfl|rfl|rfl|rfl|rfl|rfl|rfl|rfl|rfl|rfl|rfl|rfl|rfl|rfl|rfl|rfl|rfl|rfl|rfl|rfl|rfl|rfl|rfl|rfl|rfl|rfl<;>simp only[FOk,M.aB,M.aP,M.bQ,M.bn,M.dL,M.dF,M.bK,M.bC,M.gZ,M.iR,M.dU,M.jI,M.iq,M.jJ,M.jf,M.jq,M.jg,M.jr,M.jh,M.jv,M.kC,M.kW,fB,dn,hn.1,hn.2,hn2.1,hn2.2,hb.1,hb.2,ha.1,ha.2,hi,hlv,hi2,tk2.1,tk2.2,tk3.1,tk3.2,tk4.1,tk4.2,tk5.1,tk5.2,hc2,d12,d22,hc3,d13,d23,hc4,d14,d24,z1,z2,z3,ge_iff_le,Int.reduceBEq,reduceLE,reduceSub,decide_true,decide_false,aU,bZ,Bool.and_true,Bool.and_false,Bool.true_and,Bool.false_and,ah]
 ·cases(op==0)<;>cases(Hy t)<;>cases(o==[])<;>exact⟨_,rfl,rfl⟩
 ·cases(op==0)<;>cases(NS 3 t)<;>cases(o==[])<;>exact⟨_,rfl,rfl⟩
 ·cases(op==0)<;>cases(NS 4 t)<;>cases(o==[])<;>exact⟨_,rfl,rfl⟩
 ·cases(op==0)<;>cases(NS 5 t)<;>cases(o==[])<;>exact⟨_,rfl,rfl⟩
 ·cases(op==0)<;>cases(Hy t)<;>cases(o==[])<;>exact⟨_,rfl,rfl⟩
 ·cases(op==0)<;>cases(t==[])<;>cases(o==[])<;>exact⟨_,rfl,rfl⟩
 ·cases(op==0)<;>cases(Hy t)<;>cases(o==[])<;>exact⟨_,rfl,rfl⟩
 ·cases(op==0)<;>cases(Xa t)<;>cases(o==[])<;>exact⟨_,rfl,rfl⟩
 ·cases(op==51)<;>cases(op==52)<;>cases(t==[])<;>cases(o==[])<;>exact⟨_,rfl,rfl⟩
 ·cases(op==51)<;>cases(op==52)<;>cases(t==[])<;>cases(o==[])<;>exact⟨_,rfl,rfl⟩
 ·cases(op==55)<;>cases(op==56)<;>cases(op==61)<;>cases(t==[])<;>cases(o==[])<;>exact⟨_,rfl,rfl⟩
 ·cases(abh op)<;>cases(t==[])<;>cases(o==[])<;>exact⟨_,rfl,rfl⟩
 ·cases(op==0)<;>cases(Hy t)<;>cases(o==[])<;>exact⟨_,rfl,rfl⟩
 ·cases(op==0)<;>cases(t==[])<;>cases(o==[])<;>exact⟨_,rfl,rfl⟩
 ·cases(abj op)<;>cases(t==[])<;>cases(o==[])<;>exact⟨_,rfl,rfl⟩
 ·cases(op==0)<;>cases(t==[])<;>cases(o==[])<;>exact⟨_,rfl,rfl⟩
 ·cases(op==0)<;>cases(t==[])<;>cases(o==[])<;>exact⟨_,rfl,rfl⟩
 ·cases(op==0)<;>cases(t==[])<;>cases(o==[])<;>exact⟨_,rfl,rfl⟩
 ·cases(op==0)<;>cases(t==[])<;>cases(o==[])<;>exact⟨_,rfl,rfl⟩
 ·cases(op==0)<;>cases(t==[])<;>cases(o==[])<;>exact⟨_,rfl,rfl⟩
 ·cases(op==0)<;>cases(t==[])<;>cases(o==[])<;>exact⟨_,rfl,rfl⟩
 ·cases(op==0)<;>cases(t==[])<;>cases(o==[])<;>exact⟨_,rfl,rfl⟩
 ·cases(op==0)<;>cases(Hy t)<;>cases(o==[])<;>exact⟨_,rfl,rfl⟩
 ·cases(op==0)<;>cases(t==[])<;>cases(o==[])<;>exact⟨_,rfl,rfl⟩
 ·cases(op==0)<;>cases(t==[])<;>cases(o==[])<;>exact⟨_,rfl,rfl⟩
 ·cases(op==0)<;>cases(t==[])<;>cases(o==[])<;>exact⟨_,rfl,rfl⟩
 ·cases(op==0)<;>cases(t==[])<;>cases(o==[])<;>exact⟨_,rfl,rfl⟩
 ·cases(op==0)<;>cases(Hy t)<;>cases(Hy o)<;>exact⟨_,rfl,rfl⟩
 ·cases(op==0)<;>cases(t==[])<;>cases(o==[])<;>exact⟨_,rfl,rfl⟩
 ·cases(op==0)<;>cases(NS 2 t)<;>cases(o==[])<;>exact⟨_,rfl,rfl⟩
 ·cases(op==0)<;>cases(t==[])<;>cases(o==[])<;>exact⟨_,rfl,rfl⟩
 ·cases(op==0)<;>cases(t==[])<;>cases(o==[])<;>exact⟨_,rfl,rfl⟩
 ·cases(op==0)<;>cases(Hy t)<;>cases(o==[])<;>exact⟨_,rfl,rfl⟩
 ·cases(op==0)<;>cases(t==[])<;>cases(o==[])<;>exact⟨_,rfl,rfl⟩
def aLs(op:Int)(t o:aF)(kids:aA)(ht:t.length<=1048576)(ho:o.length<=1048576)(hk:kids.length<=400):FOk 21 op t o kids:=by
 have hp:=VD o [[],[62],[62,62],[124]] (by decide);rw[X8] at hp
 by_cases h0:op=0
 ·subst h0;simp only[FOk,M.aB,M.aP,M.bQ,M.bn,M.dL,M.dF,M.bK,M.bC,M.gZ,M.iR,M.dU,M.jI,M.iq,M.jJ,M.jf,M.jq,M.jg,M.jr,M.jh,M.jv,M.kC,M.kW,fB,dn,DJ,hp,show i64.wrap (0+1)=1 from rfl,show i64.wrap (1+1)=2 from rfl,show i64.wrap (1+i64.wrap (Int.tdiv 1 3))=1 from rfl,show i64.wrap (1+i64.wrap (Int.tdiv 2 3))=1 from rfl,show i64.wrap (1+i64.wrap (Int.tdiv 3 3))=2 from rfl,show i64.wrap (2+i64.wrap (Int.tdiv 1 3))=2 from rfl,show i64.wrap (2+i64.wrap (Int.tdiv 3 3))=3 from rfl,ge_iff_le,Int.reduceBEq,reduceLE,reduceSub,decide_true,decide_false,aU,bZ,Bool.and_true,Bool.and_false,Bool.true_and,Bool.false_and,ah];generalize (t==[])=a0;generalize (o==[])=a1;generalize (o==[62])=a2;generalize (o==[62,62])=a3;generalize (o==[124])=a4;cases a0<;>cases a1<;>cases a2<;>cases a3<;>cases a4<;>exact⟨_,rfl,rfl⟩
 by_cases h1:op=1
 ·subst h1;simp only[FOk,M.aB,M.aP,M.bQ,M.bn,M.dL,M.dF,M.bK,M.bC,M.gZ,M.iR,M.dU,M.jI,M.iq,M.jJ,M.jf,M.jq,M.jg,M.jr,M.jh,M.jv,M.kC,M.kW,fB,dn,DJ,hp,show i64.wrap (0+1)=1 from rfl,show i64.wrap (1+1)=2 from rfl,show i64.wrap (1+i64.wrap (Int.tdiv 1 3))=1 from rfl,show i64.wrap (1+i64.wrap (Int.tdiv 2 3))=1 from rfl,show i64.wrap (1+i64.wrap (Int.tdiv 3 3))=2 from rfl,show i64.wrap (2+i64.wrap (Int.tdiv 1 3))=2 from rfl,show i64.wrap (2+i64.wrap (Int.tdiv 3 3))=3 from rfl,ge_iff_le,Int.reduceBEq,reduceLE,reduceSub,decide_true,decide_false,aU,bZ,Bool.and_true,Bool.and_false,Bool.true_and,Bool.false_and,ah];generalize (t==[])=a0;generalize (o==[])=a1;generalize (o==[62])=a2;generalize (o==[62,62])=a3;generalize (o==[124])=a4;cases a0<;>cases a1<;>cases a2<;>cases a3<;>cases a4<;>exact⟨_,rfl,rfl⟩
 have e0:(op==0)=false:=by simpa using h0
 have e1:(op==1)=false:=by simpa using h1
 have hf:(decide ((0:Int)<=op) && decide (op<=1))=false:=by rw[Bool.and_eq_false_iff,decide_eq_false_iff_not,decide_eq_false_iff_not];omega
 simp only[FOk,M.aB,M.aP,M.bQ,M.bn,M.dL,M.dF,M.bK,M.bC,M.gZ,M.iR,M.dU,M.jI,M.iq,M.jJ,M.jf,M.jq,M.jg,M.jr,M.jh,M.jv,M.kC,M.kW,fB,dn,DJ,hp,e0,e1,hf,ge_iff_le,Int.reduceBEq,reduceLE,reduceSub,decide_true,decide_false,aU,bZ,Bool.and_true,Bool.and_false,Bool.true_and,Bool.false_and,ah];generalize (t==[])=a0;generalize (o==[])=a1;generalize (o==[62])=a2;generalize (o==[62,62])=a3;generalize (o==[124])=a4;cases a0<;>cases a1<;>cases a2<;>cases a3<;>cases a4<;>exact⟨_,rfl,rfl⟩
def aLt(op:Int)(t o:aF)(kids:aA)(ht:t.length<=1048576)(ho:o.length<=1048576)(hk:kids.length<=400):FOk 42 op t o kids:=by
 have hp:=VD o [[],[62],[62,62],[124]] (by decide);rw[X8] at hp
 by_cases h1:op=1
 ·subst h1;simp only[FOk,M.aB,M.aP,M.bQ,M.bn,M.dL,M.dF,M.bK,M.bC,M.gZ,M.iR,M.dU,M.jI,M.iq,M.jJ,M.jf,M.jq,M.jg,M.jr,M.jh,M.jv,M.kC,M.kW,fB,dn,DJ,hp,show i64.wrap (0+1)=1 from rfl,show i64.wrap (1+1)=2 from rfl,show i64.wrap (1+i64.wrap (Int.tdiv 1 3))=1 from rfl,show i64.wrap (1+i64.wrap (Int.tdiv 2 3))=1 from rfl,show i64.wrap (1+i64.wrap (Int.tdiv 3 3))=2 from rfl,show i64.wrap (2+i64.wrap (Int.tdiv 1 3))=2 from rfl,show i64.wrap (2+i64.wrap (Int.tdiv 3 3))=3 from rfl,ge_iff_le,Int.reduceBEq,reduceLE,reduceSub,decide_true,decide_false,aU,bZ,Bool.and_true,Bool.and_false,Bool.true_and,Bool.false_and,ah];generalize (t==[])=a0;generalize (o==[])=a1;cases a0<;>cases a1<;>exact⟨_,rfl,rfl⟩
 by_cases h2:op=2
 ·subst h2;simp only[FOk,M.aB,M.aP,M.bQ,M.bn,M.dL,M.dF,M.bK,M.bC,M.gZ,M.iR,M.dU,M.jI,M.iq,M.jJ,M.jf,M.jq,M.jg,M.jr,M.jh,M.jv,M.kC,M.kW,fB,dn,DJ,hp,show i64.wrap (0+1)=1 from rfl,show i64.wrap (1+1)=2 from rfl,show i64.wrap (1+i64.wrap (Int.tdiv 1 3))=1 from rfl,show i64.wrap (1+i64.wrap (Int.tdiv 2 3))=1 from rfl,show i64.wrap (1+i64.wrap (Int.tdiv 3 3))=2 from rfl,show i64.wrap (2+i64.wrap (Int.tdiv 1 3))=2 from rfl,show i64.wrap (2+i64.wrap (Int.tdiv 3 3))=3 from rfl,ge_iff_le,Int.reduceBEq,reduceLE,reduceSub,decide_true,decide_false,aU,bZ,Bool.and_true,Bool.and_false,Bool.true_and,Bool.false_and,ah];generalize (t==[])=a0;generalize (o==[])=a1;cases a0<;>cases a1<;>exact⟨_,rfl,rfl⟩
 by_cases h3:op=3
 ·subst h3;simp only[FOk,M.aB,M.aP,M.bQ,M.bn,M.dL,M.dF,M.bK,M.bC,M.gZ,M.iR,M.dU,M.jI,M.iq,M.jJ,M.jf,M.jq,M.jg,M.jr,M.jh,M.jv,M.kC,M.kW,fB,dn,DJ,hp,show i64.wrap (0+1)=1 from rfl,show i64.wrap (1+1)=2 from rfl,show i64.wrap (1+i64.wrap (Int.tdiv 1 3))=1 from rfl,show i64.wrap (1+i64.wrap (Int.tdiv 2 3))=1 from rfl,show i64.wrap (1+i64.wrap (Int.tdiv 3 3))=2 from rfl,show i64.wrap (2+i64.wrap (Int.tdiv 1 3))=2 from rfl,show i64.wrap (2+i64.wrap (Int.tdiv 3 3))=3 from rfl,ge_iff_le,Int.reduceBEq,reduceLE,reduceSub,decide_true,decide_false,aU,bZ,Bool.and_true,Bool.and_false,Bool.true_and,Bool.false_and,ah];generalize (t==[])=a0;generalize (o==[])=a1;cases a0<;>cases a1<;>exact⟨_,rfl,rfl⟩
 have e1:(op==1)=false:=by simpa using h1
 have e2:(op==2)=false:=by simpa using h2
 have e3:(op==3)=false:=by simpa using h3
 have hf:(decide ((1:Int)<=op) && decide (op<=3))=false:=by rw[Bool.and_eq_false_iff,decide_eq_false_iff_not,decide_eq_false_iff_not];omega
 simp only[FOk,M.aB,M.aP,M.bQ,M.bn,M.dL,M.dF,M.bK,M.bC,M.gZ,M.iR,M.dU,M.jI,M.iq,M.jJ,M.jf,M.jq,M.jg,M.jr,M.jh,M.jv,M.kC,M.kW,fB,dn,DJ,hp,e1,e2,e3,hf,ge_iff_le,Int.reduceBEq,reduceLE,reduceSub,decide_true,decide_false,aU,bZ,Bool.and_true,Bool.and_false,Bool.true_and,Bool.false_and,ah];generalize (t==[])=a0;generalize (o==[])=a1;cases a0<;>cases a1<;>exact⟨_,rfl,rfl⟩
def aLu(op:Int)(t o:aF)(kids:aA)(ht:t.length<=1048576)(ho:o.length<=1048576)(hk:kids.length<=400):FOk 43 op t o kids:=by
 have hp:=VD o [[],[62],[62,62],[124]] (by decide);rw[X8] at hp
 by_cases h1:op=1
 ·subst h1;simp only[FOk,M.aB,M.aP,M.bQ,M.bn,M.dL,M.dF,M.bK,M.bC,M.gZ,M.iR,M.dU,M.jI,M.iq,M.jJ,M.jf,M.jq,M.jg,M.jr,M.jh,M.jv,M.kC,M.kW,fB,dn,DJ,hp,show i64.wrap (0+1)=1 from rfl,show i64.wrap (1+1)=2 from rfl,show i64.wrap (1+i64.wrap (Int.tdiv 1 3))=1 from rfl,show i64.wrap (1+i64.wrap (Int.tdiv 2 3))=1 from rfl,show i64.wrap (1+i64.wrap (Int.tdiv 3 3))=2 from rfl,show i64.wrap (2+i64.wrap (Int.tdiv 1 3))=2 from rfl,show i64.wrap (2+i64.wrap (Int.tdiv 3 3))=3 from rfl,ge_iff_le,Int.reduceBEq,reduceLE,reduceSub,decide_true,decide_false,aU,bZ,Bool.and_true,Bool.and_false,Bool.true_and,Bool.false_and,ah];generalize (t==[])=a0;generalize (o==[])=a1;cases a0<;>cases a1<;>exact⟨_,rfl,rfl⟩
 by_cases h3:op=3
 ·subst h3;simp only[FOk,M.aB,M.aP,M.bQ,M.bn,M.dL,M.dF,M.bK,M.bC,M.gZ,M.iR,M.dU,M.jI,M.iq,M.jJ,M.jf,M.jq,M.jg,M.jr,M.jh,M.jv,M.kC,M.kW,fB,dn,DJ,hp,show i64.wrap (0+1)=1 from rfl,show i64.wrap (1+1)=2 from rfl,show i64.wrap (1+i64.wrap (Int.tdiv 1 3))=1 from rfl,show i64.wrap (1+i64.wrap (Int.tdiv 2 3))=1 from rfl,show i64.wrap (1+i64.wrap (Int.tdiv 3 3))=2 from rfl,show i64.wrap (2+i64.wrap (Int.tdiv 1 3))=2 from rfl,show i64.wrap (2+i64.wrap (Int.tdiv 3 3))=3 from rfl,ge_iff_le,Int.reduceBEq,reduceLE,reduceSub,decide_true,decide_false,aU,bZ,Bool.and_true,Bool.and_false,Bool.true_and,Bool.false_and,ah];generalize (t==[])=a0;generalize (o==[])=a1;cases a0<;>cases a1<;>exact⟨_,rfl,rfl⟩
 have e1:(op==1)=false:=by simpa using h1
 have e3:(op==3)=false:=by simpa using h3
 have hf:True:=trivial;simp only[FOk,M.aB,M.aP,M.bQ,M.bn,M.dL,M.dF,M.bK,M.bC,M.gZ,M.iR,M.dU,M.jI,M.iq,M.jJ,M.jf,M.jq,M.jg,M.jr,M.jh,M.jv,M.kC,M.kW,fB,dn,DJ,hp,e1,e3,hf,ge_iff_le,Int.reduceBEq,reduceLE,reduceSub,decide_true,decide_false,aU,bZ,Bool.and_true,Bool.and_false,Bool.true_and,Bool.false_and,ah];generalize (t==[])=a0;generalize (o==[])=a1;cases a0<;>cases a1<;>exact⟨_,rfl,rfl⟩
def akz(k:Int)(op:Int)(t o:aF)(kids:aA)(ht:t.length<=1048576)(ho:o.length<=1048576)(hk:kids.length<=400):FOk k op t o kids:=by
 by_cases hkk:k=1∨k=2∨k=3∨k=4∨k=5∨k=6∨k=7∨k=8∨k=9∨k=10∨k=11∨k=12∨k=13∨k=14∨k=15∨k=16∨k=20∨k=22∨k=23∨k=24∨k=25∨k=26∨k=27∨k=28∨k=29∨k=30∨k=31∨k=32∨k=33∨k=34∨k=40∨k=41∨k=44∨k=45
 ·exact aym k op t o kids ht ho hk hkk
 by_cases h21:k=21
 ·subst h21;exact aLs op t o kids ht ho hk
 by_cases h42:k=42
 ·subst h42;exact aLt op t o kids ht ho hk
 by_cases h43:k=43
 ·subst h43;exact aLu op t o kids ht ho hk
 have h1:k≠1:=au;have h2:k≠2:=au;have h3:k≠3:=au;have h4:k≠4:=au;have h5:k≠5:=au;have h6:k≠6:=au;have h7:k≠7:=au;have h8:k≠8:=au;have h9:k≠9:=au;have h10:k≠10:=au;have h11:k≠11:=au;have h12:k≠12:=au;have h13:k≠13:=au;have h14:k≠14:=au;have h15:k≠15:=au;have h16:k≠16:=au;have h20:k≠20:=au;have h22:k≠22:=au;have h23:k≠23:=au;have h24:k≠24:=au;have h25:k≠25:=au;have h26:k≠26:=au;have h27:k≠27:=au;have h28:k≠28:=au;have h29:k≠29:=au;have h30:k≠30:=au;have h31:k≠31:=au;have h32:k≠32:=au;have h33:k≠33:=au;have h34:k≠34:=au;have h40:k≠40:=au;have h41:k≠41:=au;have h44:k≠44:=au;have h45:k≠45:=au;have f1:(decide (k>=1) && decide (k<=16))=false:=by rw[Bool.and_eq_false_iff,decide_eq_false_iff_not,decide_eq_false_iff_not];omega
 have f2:(decide (k>=20) && decide (k<=34))=false:=by rw[Bool.and_eq_false_iff,decide_eq_false_iff_not,decide_eq_false_iff_not];omega
 have f3:(decide (k>=40) && decide (k<=45))=false:=by rw[Bool.and_eq_false_iff,decide_eq_false_iff_not,decide_eq_false_iff_not];omega
 have f4:(decide (k>=1) && decide (k<=15))=false:=by rw[Bool.and_eq_false_iff,decide_eq_false_iff_not,decide_eq_false_iff_not];omega
 have g:(k==16)=false:=by simpa using h16
 have e1:(k==1)=false:=by simpa using h1
 have e2:(k==2)=false:=by simpa using h2
 have e3:(k==3)=false:=by simpa using h3
 have e4:(k==4)=false:=by simpa using h4
 have e5:(k==5)=false:=by simpa using h5
 have e6:(k==6)=false:=by simpa using h6
 have e7:(k==7)=false:=by simpa using h7
 have e8:(k==8)=false:=by simpa using h8
 have e9:(k==9)=false:=by simpa using h9
 have e10:(k==10)=false:=by simpa using h10
 have e11:(k==11)=false:=by simpa using h11
 have e12:(k==12)=false:=by simpa using h12
 have e13:(k==13)=false:=by simpa using h13
 have e14:(k==14)=false:=by simpa using h14
 have e15:(k==15)=false:=by simpa using h15
 have e16:(k==16)=false:=by simpa using h16
 have e20:(k==20)=false:=by simpa using h20
 have e21:(k==21)=false:=by simpa using h21
 have e22:(k==22)=false:=by simpa using h22
 have e23:(k==23)=false:=by simpa using h23
 have e24:(k==24)=false:=by simpa using h24
 have e25:(k==25)=false:=by simpa using h25
 have e26:(k==26)=false:=by simpa using h26
 have e27:(k==27)=false:=by simpa using h27
 have e28:(k==28)=false:=by simpa using h28
 have e29:(k==29)=false:=by simpa using h29
 have e30:(k==30)=false:=by simpa using h30
 have e31:(k==31)=false:=by simpa using h31
 have e32:(k==32)=false:=by simpa using h32
 have e33:(k==33)=false:=by simpa using h33
 have e34:(k==34)=false:=by simpa using h34
 have e40:(k==40)=false:=by simpa using h40
 have e41:(k==41)=false:=by simpa using h41
 have e42:(k==42)=false:=by simpa using h42
 have e43:(k==43)=false:=by simpa using h43
 have e44:(k==44)=false:=by simpa using h44
 have e45:(k==45)=false:=by simpa using h45
 simp only[FOk,M.aB,M.aP,M.bQ,M.bn,M.gZ,M.iR,M.dU,M.jI,M.iq,M.jJ,fB,dn,f1,f2,f3,f4,e1,e2,e3,e4,e5,e6,e7,e8,e9,e10,e11,e12,e13,e14,e15,e16,e20,e21,e22,e23,e24,e25,e26,e27,e28,e29,e30,e31,e32,e33,e34,e40,e41,e42,e43,e44,e45,bZ,ah];exact⟨false,rfl,rfl⟩
end Go.Proofs.YtbkndkcpmnjaeaaGreatDoor
namespace Go.Proofs.YtbkndkcpmnjaeaaGreatDoor
set_option linter.unusedVariables false
set_option linter.unusedSimpArgs false
set_option linter.unusedSectionVars false
open Go Go.Vm
open Go.IntKind (i64)
open Int (reduceLE reduceLT reduceSub reduceAdd)
structure Cons(k op:Int)(n:Nat):Prop where
 two:k=29∨k=30->n=2
 four:k=31->n=4
 rule:k=42->(op=1∧n=1)∨(op=2∧n=1)∨(op=3∧n=2)
 range:k=43->(op=1∧n=2)∨(op=3∧n=3)
def aVZ(op:Int)(t o:aF)(kids:aA)(h:M.aB 29 op t o kids=some true):kids.length=2:=by simp only[M.aB,M.aP,M.bQ,M.bn,M.dL,M.dF,M.bK,M.bC,fB,dn,Int.reduceBEq,reduceLE,reduceLT,reduceSub,reduceAdd,dh,ah] at h;revert h;cases op==0<;>cases t==[]<;>cases o==[]<;>simp<;>omega
def aV1(op:Int)(t o:aF)(kids:aA)(h:M.aB 30 op t o kids=some true):kids.length=2:=by simp only[M.aB,M.aP,M.bQ,M.bn,M.dL,M.dF,M.bK,M.bC,fB,dn,Int.reduceBEq,reduceLE,reduceLT,reduceSub,reduceAdd,dh,ah] at h;revert h;cases op==0<;>cases t==[]<;>cases o==[]<;>simp<;>omega
def aV2(op:Int)(t o:aF)(kids:aA)(h:M.aB 31 op t o kids=some true):kids.length=4:=by simp only[M.aB,M.aP,M.bQ,M.bn,M.dL,M.dF,M.bK,M.bC,fB,dn,Int.reduceBEq,reduceLE,reduceLT,reduceSub,reduceAdd,dh,ah] at h;revert h;cases op==0<;>cases t==[]<;>cases o==[]<;>simp<;>omega
def aV3(op:Int)(t o:aF)(kids:aA)(h:M.aB 42 op t o kids=some true):(op=1∧kids.length=1)∨(op=2∧kids.length=1)∨(op=3∧kids.length=2):=by
 by_cases h1:op=1
 ·subst h1;simp only[M.aB,M.aP,M.bQ,M.bn,M.dL,M.dF,M.bK,M.bC,fB,dn,show i64.wrap (1+i64.wrap (Int.tdiv 1 3))=1 from rfl,show i64.wrap (1+i64.wrap (Int.tdiv 2 3))=1 from rfl,show i64.wrap (1+i64.wrap (Int.tdiv 3 3))=2 from rfl,show i64.wrap (2+i64.wrap (Int.tdiv 1 3))=2 from rfl,show i64.wrap (2+i64.wrap (Int.tdiv 3 3))=3 from rfl,Int.reduceBEq,reduceLE,reduceLT,reduceSub,reduceAdd,dh,ah] at h;revert h;cases t==[]<;>cases o==[]<;>simp<;>omega
 have e1:(op==1)=false:=by simpa using h1
 by_cases h2:op=2
 ·subst h2;simp only[M.aB,M.aP,M.bQ,M.bn,M.dL,M.dF,M.bK,M.bC,fB,dn,show i64.wrap (1+i64.wrap (Int.tdiv 1 3))=1 from rfl,show i64.wrap (1+i64.wrap (Int.tdiv 2 3))=1 from rfl,show i64.wrap (1+i64.wrap (Int.tdiv 3 3))=2 from rfl,show i64.wrap (2+i64.wrap (Int.tdiv 1 3))=2 from rfl,show i64.wrap (2+i64.wrap (Int.tdiv 3 3))=3 from rfl,Int.reduceBEq,reduceLE,reduceLT,reduceSub,reduceAdd,dh,ah] at h;revert h;cases t==[]<;>cases o==[]<;>simp<;>omega
 have e2:(op==2)=false:=by simpa using h2
 by_cases h3:op=3
 ·subst h3;simp only[M.aB,M.aP,M.bQ,M.bn,M.dL,M.dF,M.bK,M.bC,fB,dn,show i64.wrap (1+i64.wrap (Int.tdiv 1 3))=1 from rfl,show i64.wrap (1+i64.wrap (Int.tdiv 2 3))=1 from rfl,show i64.wrap (1+i64.wrap (Int.tdiv 3 3))=2 from rfl,show i64.wrap (2+i64.wrap (Int.tdiv 1 3))=2 from rfl,show i64.wrap (2+i64.wrap (Int.tdiv 3 3))=3 from rfl,Int.reduceBEq,reduceLE,reduceLT,reduceSub,reduceAdd,dh,ah] at h;revert h;cases t==[]<;>cases o==[]<;>simp<;>omega
 have e3:(op==3)=false:=by simpa using h3
 have hf:(decide ((1:Int)<=op) && decide (op<=3))=false:=by rw[Bool.and_eq_false_iff,decide_eq_false_iff_not,decide_eq_false_iff_not];omega
 simp only[M.aB,M.aP,M.bQ,M.bn,M.dL,M.dF,M.bK,M.bC,fB,dn,e1,e2,e3,hf,Int.reduceBEq,reduceLE,reduceLT,reduceSub,reduceAdd,dh,ah] at h;cases h
def aV4(op:Int)(t o:aF)(kids:aA)(h:M.aB 43 op t o kids=some true):(op=1∧kids.length=2)∨(op=3∧kids.length=3):=by
 by_cases h1:op=1
 ·subst h1;simp only[M.aB,M.aP,M.bQ,M.bn,M.dL,M.dF,M.bK,M.bC,fB,dn,show i64.wrap (1+i64.wrap (Int.tdiv 1 3))=1 from rfl,show i64.wrap (1+i64.wrap (Int.tdiv 2 3))=1 from rfl,show i64.wrap (1+i64.wrap (Int.tdiv 3 3))=2 from rfl,show i64.wrap (2+i64.wrap (Int.tdiv 1 3))=2 from rfl,show i64.wrap (2+i64.wrap (Int.tdiv 3 3))=3 from rfl,Int.reduceBEq,reduceLE,reduceLT,reduceSub,reduceAdd,dh,ah] at h;revert h;cases t==[]<;>cases o==[]<;>simp<;>omega
 have e1:(op==1)=false:=by simpa using h1
 by_cases h3:op=3
 ·subst h3;simp only[M.aB,M.aP,M.bQ,M.bn,M.dL,M.dF,M.bK,M.bC,fB,dn,show i64.wrap (1+i64.wrap (Int.tdiv 1 3))=1 from rfl,show i64.wrap (1+i64.wrap (Int.tdiv 2 3))=1 from rfl,show i64.wrap (1+i64.wrap (Int.tdiv 3 3))=2 from rfl,show i64.wrap (2+i64.wrap (Int.tdiv 1 3))=2 from rfl,show i64.wrap (2+i64.wrap (Int.tdiv 3 3))=3 from rfl,Int.reduceBEq,reduceLE,reduceLT,reduceSub,reduceAdd,dh,ah] at h;revert h;cases t==[]<;>cases o==[]<;>simp<;>omega
 have e3:(op==3)=false:=by simpa using h3
 have hf:True:=trivial;simp only[M.aB,M.aP,M.bQ,M.bn,M.dL,M.dF,M.bK,M.bC,fB,dn,e1,e3,hf,Int.reduceBEq,reduceLE,reduceLT,reduceSub,reduceAdd,dh,ah] at h;cases h
def ahQ{k op:Int}{t o:aF}{kids:aA}(h:M.aB k op t o kids=some true):Cons k op kids.length:=
 ⟨λe=>(by rcases e with rfl|rfl;exact aVZ op t o kids h;exact aV1 op t o kids h),λe=>(by subst e;exact aV2 op t o kids h),λe=>(by subst e;exact aV3 op t o kids h),λe=>(by subst e;exact aV4 op t o kids h)⟩
def rC(k:Int):Bool:=decide (1<=k) && decide (k<=15)
def Tc(k:Int):Bool:=k==1||(k==5||k==6)
def WC(k:Int):Bool:=decide (20<=k) && decide (k<=34)
def isIt(k:Int):Bool:=decide (40<=k) && decide (k<=44)
def bI(k:Int):M.iw k=some (rC k)∧M.dU k=some (rC k):=by simp only[M.iw,M.NC,M.dU,M.jI,fB,dn,ah,rC,ge_iff_le];constructor<;>first|rfl|trivial
def bD(k:Int):M.vZ k=some (WC k)∧M.iq k=some (WC k):=by simp only[M.vZ,M.ND,M.iq,M.jJ,fB,dn,ah,WC,ge_iff_le];constructor<;>first|rfl|trivial
def bJ(k:Int):M.bf k 40 44=some (isIt k)∧M.BD k=some (isIt k):=by simp only[M.BD,M.MX,fB,dn,ah,isIt,ge_iff_le];constructor<;>first|rfl|trivial
def aT(k:Int):M.pJ k=some (Tc k)∧M.pq k=some (Tc k):=by simp only[M.pJ,M.IU,M.pq,M.Iu,Tc];cases k==1<;>cases k==5<;>exact⟨rfl,rfl⟩
def aLv(k:Int):Tc k=(rC k && Tc k):=by
 by_cases h1:k=1
 ·subst h1;rfl
 by_cases h5:k=5
 ·subst h5;rfl
 by_cases h6:k=6
 ·subst h6;rfl
 have e:Tc k=false:=by simp[Tc,h1,h5,h6]
 rw[e,Bool.and_false]
def xJ(k op:Int)(t o:aF)(kids:aA)(j d:Int):Prop:=∃b,M.aH k op t o kids j d=some b∧M.aY k op t o kids j d=some b
def aV5(op:Int)(t o:aF)(kids:aA)(j d:Int)(h0:0<=j)(h1:j<kids.length)(hk:kids.length<=400)(hc:Cons 1 op kids.length):xJ 1 op t o kids j d:=by simp only[xJ,M.aH,M.aI,M.aY,M.aS,bI,bD,bJ,aT,Int.reduceBEq,reduceLE,reduceLT,reduceSub,reduceAdd,dh,ah];generalize (rC d)=a0;cases a0<;>exact⟨_,rfl,rfl⟩
def aV6(op:Int)(t o:aF)(kids:aA)(j d:Int)(h0:0<=j)(h1:j<kids.length)(hk:kids.length<=400)(hc:Cons 2 op kids.length):xJ 2 op t o kids j d:=by simp only[xJ,M.aH,M.aI,M.aY,M.aS,bI,bD,bJ,aT,Int.reduceBEq,reduceLE,reduceLT,reduceSub,reduceAdd,dh,ah];generalize (rC d)=a0;cases a0<;>exact⟨_,rfl,rfl⟩
def aV7(op:Int)(t o:aF)(kids:aA)(j d:Int)(h0:0<=j)(h1:j<kids.length)(hk:kids.length<=400)(hc:Cons 3 op kids.length):xJ 3 op t o kids j d:=by simp only[xJ,M.aH,M.aI,M.aY,M.aS,bI,bD,bJ,aT,Int.reduceBEq,reduceLE,reduceLT,reduceSub,reduceAdd,dh,ah];generalize (rC d)=a0;cases a0<;>exact⟨_,rfl,rfl⟩
def aV8(op:Int)(t o:aF)(kids:aA)(j d:Int)(h0:0<=j)(h1:j<kids.length)(hk:kids.length<=400)(hc:Cons 4 op kids.length):xJ 4 op t o kids j d:=by simp only[xJ,M.aH,M.aI,M.aY,M.aS,bI,bD,bJ,aT,Int.reduceBEq,reduceLE,reduceLT,reduceSub,reduceAdd,dh,ah];generalize (rC d)=a0;cases a0<;>exact⟨_,rfl,rfl⟩
def aV9(op:Int)(t o:aF)(kids:aA)(j d:Int)(h0:0<=j)(h1:j<kids.length)(hk:kids.length<=400)(hc:Cons 5 op kids.length):xJ 5 op t o kids j d:=by simp only[xJ,M.aH,M.aI,M.aY,M.aS,bI,bD,bJ,aT,Int.reduceBEq,reduceLE,reduceLT,reduceSub,reduceAdd,dh,ah];generalize (rC d)=a0;cases a0<;>exact⟨_,rfl,rfl⟩
def aWa(op:Int)(t o:aF)(kids:aA)(j d:Int)(h0:0<=j)(h1:j<kids.length)(hk:kids.length<=400)(hc:Cons 6 op kids.length):xJ 6 op t o kids j d:=by simp only[xJ,M.aH,M.aI,M.aY,M.aS,bI,bD,bJ,aT,Int.reduceBEq,reduceLE,reduceLT,reduceSub,reduceAdd,dh,ah];generalize (rC d)=a0;cases a0<;>exact⟨_,rfl,rfl⟩
def aWb(op:Int)(t o:aF)(kids:aA)(j d:Int)(h0:0<=j)(h1:j<kids.length)(hk:kids.length<=400)(hc:Cons 7 op kids.length):xJ 7 op t o kids j d:=by simp only[xJ,M.aH,M.aI,M.aY,M.aS,bI,bD,bJ,aT,Int.reduceBEq,reduceLE,reduceLT,reduceSub,reduceAdd,dh,ah];generalize (rC d)=a0;cases a0<;>exact⟨_,rfl,rfl⟩
def aWc(op:Int)(t o:aF)(kids:aA)(j d:Int)(h0:0<=j)(h1:j<kids.length)(hk:kids.length<=400)(hc:Cons 8 op kids.length):xJ 8 op t o kids j d:=by simp only[xJ,M.aH,M.aI,M.aY,M.aS,bI,bD,bJ,aT,Int.reduceBEq,reduceLE,reduceLT,reduceSub,reduceAdd,dh,ah];generalize (rC d)=a0;cases a0<;>exact⟨_,rfl,rfl⟩
def aWd(op:Int)(t o:aF)(kids:aA)(j d:Int)(h0:0<=j)(h1:j<kids.length)(hk:kids.length<=400)(hc:Cons 9 op kids.length):xJ 9 op t o kids j d:=by simp only[xJ,M.aH,M.aI,M.aY,M.aS,bI,bD,bJ,aT,Int.reduceBEq,reduceLE,reduceLT,reduceSub,reduceAdd,dh,ah];generalize (Tc d)=a0;cases a0<;>exact⟨_,rfl,rfl⟩
def aLw(op:Int)(t o:aF)(kids:aA)(j d:Int)(h0:0<=j)(h1:j<kids.length)(hk:kids.length<=400)(hc:Cons 10 op kids.length):xJ 10 op t o kids j d:=by simp only[xJ,M.aH,M.aI,M.aY,M.aS,bI,bD,bJ,aT,Int.reduceBEq,reduceLE,reduceLT,reduceSub,reduceAdd,dh,ah];generalize (Tc d)=a0;cases a0<;>exact⟨_,rfl,rfl⟩
def aLx(op:Int)(t o:aF)(kids:aA)(j d:Int)(h0:0<=j)(h1:j<kids.length)(hk:kids.length<=400)(hc:Cons 11 op kids.length):xJ 11 op t o kids j d:=by simp only[xJ,M.aH,M.aI,M.aY,M.aS,bI,bD,bJ,aT,Int.reduceBEq,reduceLE,reduceLT,reduceSub,reduceAdd,dh,ah];generalize (rC d)=a0;cases a0<;>exact⟨_,rfl,rfl⟩
def aLy(op:Int)(t o:aF)(kids:aA)(j d:Int)(h0:0<=j)(h1:j<kids.length)(hk:kids.length<=400)(hc:Cons 12 op kids.length):xJ 12 op t o kids j d:=by simp only[xJ,M.aH,M.aI,M.aY,M.aS,bI,bD,bJ,aT,Int.reduceBEq,reduceLE,reduceLT,reduceSub,reduceAdd,dh,ah];generalize (rC d)=a0;cases a0<;>exact⟨_,rfl,rfl⟩
def aLz(op:Int)(t o:aF)(kids:aA)(j d:Int)(h0:0<=j)(h1:j<kids.length)(hk:kids.length<=400)(hc:Cons 13 op kids.length):xJ 13 op t o kids j d:=by simp only[xJ,M.aH,M.aI,M.aY,M.aS,bI,bD,bJ,aT,Int.reduceBEq,reduceLE,reduceLT,reduceSub,reduceAdd,dh,ah];generalize (rC d)=a0;cases a0<;>exact⟨_,rfl,rfl⟩
def aLA(op:Int)(t o:aF)(kids:aA)(j d:Int)(h0:0<=j)(h1:j<kids.length)(hk:kids.length<=400)(hc:Cons 14 op kids.length):xJ 14 op t o kids j d:=by simp only[xJ,M.aH,M.aI,M.aY,M.aS,bI,bD,bJ,aT,Int.reduceBEq,reduceLE,reduceLT,reduceSub,reduceAdd,dh,ah];generalize (rC d)=a0;cases a0<;>exact⟨_,rfl,rfl⟩
def aLB(op:Int)(t o:aF)(kids:aA)(j d:Int)(h0:0<=j)(h1:j<kids.length)(hk:kids.length<=400)(hc:Cons 15 op kids.length):xJ 15 op t o kids j d:=by
 by_cases hj:j=0
 ·subst hj;have hl:=aLv d;simp only[xJ,M.aH,M.aI,M.aY,M.aS,bI,bD,bJ,aT,Int.reduceBEq,reduceLE,reduceLT,reduceSub,reduceAdd,dh,ah];revert hl;cases rC d<;>cases Tc d<;>intro hl<;>first|exact⟨_,rfl,rfl⟩|cases hl
 have e0:(j==0)=false:=by simpa using hj
 have e1:decide (0<j)=true:=zdt au;simp only[xJ,M.aH,M.aI,M.aY,M.aS,bI,bD,bJ,aT,e0,e1,Int.reduceBEq,reduceLE,reduceLT,reduceSub,reduceAdd,dh,ah];generalize (rC d)=a0;cases a0<;>exact⟨_,rfl,rfl⟩
def aLC(op:Int)(t o:aF)(kids:aA)(j d:Int)(h0:0<=j)(h1:j<kids.length)(hk:kids.length<=400)(hc:Cons 16 op kids.length):xJ 16 op t o kids j d:=by simp only[xJ,M.aH,M.aI,M.aY,M.aS,bI,bD,bJ,aT,Int.reduceBEq,reduceLE,reduceLT,reduceSub,reduceAdd,dh,ah];generalize (rC d)=a0;cases a0<;>exact⟨_,rfl,rfl⟩
def aLD(op:Int)(t o:aF)(kids:aA)(j d:Int)(h0:0<=j)(h1:j<kids.length)(hk:kids.length<=400)(hc:Cons 20 op kids.length):xJ 20 op t o kids j d:=by simp only[xJ,M.aH,M.aI,M.aY,M.aS,bI,bD,bJ,aT,Int.reduceBEq,reduceLE,reduceLT,reduceSub,reduceAdd,dh,ah];generalize (rC d)=a0;cases a0<;>exact⟨_,rfl,rfl⟩
def aLE(op:Int)(t o:aF)(kids:aA)(j d:Int)(h0:0<=j)(h1:j<kids.length)(hk:kids.length<=400)(hc:Cons 21 op kids.length):xJ 21 op t o kids j d:=by simp only[xJ,M.aH,M.aI,M.aY,M.aS,bI,bD,bJ,aT,Int.reduceBEq,reduceLE,reduceLT,reduceSub,reduceAdd,dh,ah];generalize (rC d)=a0;cases a0<;>exact⟨_,rfl,rfl⟩
def aLF(op:Int)(t o:aF)(kids:aA)(j d:Int)(h0:0<=j)(h1:j<kids.length)(hk:kids.length<=400)(hc:Cons 22 op kids.length):xJ 22 op t o kids j d:=by simp only[xJ,M.aH,M.aI,M.aY,M.aS,bI,bD,bJ,aT,Int.reduceBEq,reduceLE,reduceLT,reduceSub,reduceAdd,dh,ah];generalize (rC d)=a0;cases a0<;>exact⟨_,rfl,rfl⟩
def aLG(op:Int)(t o:aF)(kids:aA)(j d:Int)(h0:0<=j)(h1:j<kids.length)(hk:kids.length<=400)(hc:Cons 23 op kids.length):xJ 23 op t o kids j d:=by simp only[xJ,M.aH,M.aI,M.aY,M.aS,bI,bD,bJ,aT,Int.reduceBEq,reduceLE,reduceLT,reduceSub,reduceAdd,dh,ah];generalize (rC d)=a0;cases a0<;>exact⟨_,rfl,rfl⟩
def aLH(op:Int)(t o:aF)(kids:aA)(j d:Int)(h0:0<=j)(h1:j<kids.length)(hk:kids.length<=400)(hc:Cons 24 op kids.length):xJ 24 op t o kids j d:=by simp only[xJ,M.aH,M.aI,M.aY,M.aS,bI,bD,bJ,aT,Int.reduceBEq,reduceLE,reduceLT,reduceSub,reduceAdd,dh,ah];generalize (rC d)=a0;cases a0<;>exact⟨_,rfl,rfl⟩
def aLI(op:Int)(t o:aF)(kids:aA)(j d:Int)(h0:0<=j)(h1:j<kids.length)(hk:kids.length<=400)(hc:Cons 25 op kids.length):xJ 25 op t o kids j d:=by simp only[xJ,M.aH,M.aI,M.aY,M.aS,bI,bD,bJ,aT,Int.reduceBEq,reduceLE,reduceLT,reduceSub,reduceAdd,dh,ah];generalize (rC d)=a0;cases a0<;>exact⟨_,rfl,rfl⟩
def aLJ(op:Int)(t o:aF)(kids:aA)(j d:Int)(h0:0<=j)(h1:j<kids.length)(hk:kids.length<=400)(hc:Cons 26 op kids.length):xJ 26 op t o kids j d:=by simp only[xJ,M.aH,M.aI,M.aY,M.aS,bI,bD,bJ,aT,Int.reduceBEq,reduceLE,reduceLT,reduceSub,reduceAdd,dh,ah];generalize (rC d)=a0;cases a0<;>exact⟨_,rfl,rfl⟩
def aLK(op:Int)(t o:aF)(kids:aA)(j d:Int)(h0:0<=j)(h1:j<kids.length)(hk:kids.length<=400)(hc:Cons 27 op kids.length):xJ 27 op t o kids j d:=by simp only[xJ,M.aH,M.aI,M.aY,M.aS,bI,bD,bJ,aT,Int.reduceBEq,reduceLE,reduceLT,reduceSub,reduceAdd,dh,ah];generalize (rC d)=a0;cases a0<;>exact⟨_,rfl,rfl⟩
def aLL(op:Int)(t o:aF)(kids:aA)(j d:Int)(h0:0<=j)(h1:j<kids.length)(hk:kids.length<=400)(hc:Cons 28 op kids.length):xJ 28 op t o kids j d:=by
 by_cases hj:j=0
 ·subst hj;simp only[xJ,M.aH,M.aI,M.aY,M.aS,bI,bD,bJ,aT,Int.reduceBEq,reduceLE,reduceLT,reduceSub,reduceAdd,dh,ah];generalize (rC d)=a0;generalize (d==33)=a1;cases a0<;>cases a1<;>exact⟨_,rfl,rfl⟩
 have e0:(j==0)=false:=by simpa using hj
 have e1:decide (0<j)=true:=zdt au;simp only[xJ,M.aH,M.aI,M.aY,M.aS,bI,bD,bJ,aT,e0,e1,Int.reduceBEq,reduceLE,reduceLT,reduceSub,reduceAdd,dh,ah];generalize (d==33)=a0;cases a0<;>exact⟨_,rfl,rfl⟩
def aLM(op:Int)(t o:aF)(kids:aA)(j d:Int)(h0:0<=j)(h1:j<kids.length)(hk:kids.length<=400)(hc:Cons 29 op kids.length):xJ 29 op t o kids j d:=by
 have hl:=hc.two au;obtain rfl|rfl:j=0∨j=1:=au
 ·simp only[xJ,M.aH,M.aI,M.aY,M.aS,bI,bD,bJ,aT,Int.reduceBEq,reduceLE,reduceLT,reduceSub,reduceAdd,dh,ah];generalize (rC d)=a0;generalize (d==33)=a1;cases a0<;>cases a1<;>exact⟨_,rfl,rfl⟩
 ·simp only[xJ,M.aH,M.aI,M.aY,M.aS,bI,bD,bJ,aT,Int.reduceBEq,reduceLE,reduceLT,reduceSub,reduceAdd,dh,ah];generalize (rC d)=a0;generalize (d==33)=a1;cases a0<;>cases a1<;>exact⟨_,rfl,rfl⟩
def aLN(op:Int)(t o:aF)(kids:aA)(j d:Int)(h0:0<=j)(h1:j<kids.length)(hk:kids.length<=400)(hc:Cons 30 op kids.length):xJ 30 op t o kids j d:=by
 have hl:=hc.two au;obtain rfl|rfl:j=0∨j=1:=au
 ·simp only[xJ,M.aH,M.aI,M.aY,M.aS,bI,bD,bJ,aT,Int.reduceBEq,reduceLE,reduceLT,reduceSub,reduceAdd,dh,ah];generalize (rC d)=a0;generalize (d==33)=a1;cases a0<;>cases a1<;>exact⟨_,rfl,rfl⟩
 ·simp only[xJ,M.aH,M.aI,M.aY,M.aS,bI,bD,bJ,aT,Int.reduceBEq,reduceLE,reduceLT,reduceSub,reduceAdd,dh,ah];generalize (rC d)=a0;generalize (d==33)=a1;cases a0<;>cases a1<;>exact⟨_,rfl,rfl⟩
def aLO(op:Int)(t o:aF)(kids:aA)(j d:Int)(h0:0<=j)(h1:j<kids.length)(hk:kids.length<=400)(hc:Cons 31 op kids.length):xJ 31 op t o kids j d:=by
 have hl:=hc.four rfl;have hw:i64.wrap ((kids.length:Int) - 1)=3:=by rw[hl];rfl
 obtain rfl|rfl|rfl|rfl:j=0∨j=1∨j=2∨j=3:=au
 ·simp only[xJ,M.aH,M.aI,M.aY,M.aS,bI,bD,bJ,aT,hw,Int.reduceBEq,reduceLE,reduceLT,reduceSub,reduceAdd,dh,ah];generalize (rC d)=a0;generalize (d==16)=a1;generalize (d==33)=a2;cases a0<;>cases a1<;>cases a2<;>exact⟨_,rfl,rfl⟩
 ·simp only[xJ,M.aH,M.aI,M.aY,M.aS,bI,bD,bJ,aT,hw,Int.reduceBEq,reduceLE,reduceLT,reduceSub,reduceAdd,dh,ah];generalize (rC d)=a0;generalize (d==16)=a1;generalize (d==33)=a2;cases a0<;>cases a1<;>cases a2<;>exact⟨_,rfl,rfl⟩
 ·simp only[xJ,M.aH,M.aI,M.aY,M.aS,bI,bD,bJ,aT,hw,Int.reduceBEq,reduceLE,reduceLT,reduceSub,reduceAdd,dh,ah];generalize (rC d)=a0;generalize (d==16)=a1;generalize (d==33)=a2;cases a0<;>cases a1<;>cases a2<;>exact⟨_,rfl,rfl⟩
 ·simp only[xJ,M.aH,M.aI,M.aY,M.aS,bI,bD,bJ,aT,hw,Int.reduceBEq,reduceLE,reduceLT,reduceSub,reduceAdd,dh,ah];generalize (rC d)=a0;generalize (d==16)=a1;generalize (d==33)=a2;cases a0<;>cases a1<;>cases a2<;>exact⟨_,rfl,rfl⟩
def aLP(op:Int)(t o:aF)(kids:aA)(j d:Int)(h0:0<=j)(h1:j<kids.length)(hk:kids.length<=400)(hc:Cons 32 op kids.length):xJ 32 op t o kids j d:=by simp only[xJ,M.aH,M.aI,M.aY,M.aS,bI,bD,bJ,aT,Int.reduceBEq,reduceLE,reduceLT,reduceSub,reduceAdd,dh,ah];generalize (d==33)=a0;cases a0<;>exact⟨_,rfl,rfl⟩
def aLQ(op:Int)(t o:aF)(kids:aA)(j d:Int)(h0:0<=j)(h1:j<kids.length)(hk:kids.length<=400)(hc:Cons 33 op kids.length):xJ 33 op t o kids j d:=by simp only[xJ,M.aH,M.aI,M.aY,M.aS,bI,bD,bJ,aT,Int.reduceBEq,reduceLE,reduceLT,reduceSub,reduceAdd,dh,ah];generalize (WC d)=a0;cases a0<;>exact⟨_,rfl,rfl⟩
def aLR(op:Int)(t o:aF)(kids:aA)(j d:Int)(h0:0<=j)(h1:j<kids.length)(hk:kids.length<=400)(hc:Cons 34 op kids.length):xJ 34 op t o kids j d:=by simp only[xJ,M.aH,M.aI,M.aY,M.aS,bI,bD,bJ,aT,Int.reduceBEq,reduceLE,reduceLT,reduceSub,reduceAdd,dh,ah];generalize (rC d)=a0;cases a0<;>exact⟨_,rfl,rfl⟩
def aLS(op:Int)(t o:aF)(kids:aA)(j d:Int)(h0:0<=j)(h1:j<kids.length)(hk:kids.length<=400)(hc:Cons 40 op kids.length):xJ 40 op t o kids j d:=by simp only[xJ,M.aH,M.aI,M.aY,M.aS,bI,bD,bJ,aT,Int.reduceBEq,reduceLE,reduceLT,reduceSub,reduceAdd,dh,ah];generalize (d==33)=a0;cases a0<;>exact⟨_,rfl,rfl⟩
def aLT(op:Int)(t o:aF)(kids:aA)(j d:Int)(h0:0<=j)(h1:j<kids.length)(hk:kids.length<=400)(hc:Cons 41 op kids.length):xJ 41 op t o kids j d:=by simp only[xJ,M.aH,M.aI,M.aY,M.aS,bI,bD,bJ,aT,Int.reduceBEq,reduceLE,reduceLT,reduceSub,reduceAdd,dh,ah];generalize (d==33)=a0;cases a0<;>exact⟨_,rfl,rfl⟩
def aLU(op:Int)(t o:aF)(kids:aA)(j d:Int)(h0:0<=j)(h1:j<kids.length)(hk:kids.length<=400)(hc:Cons 42 op kids.length):xJ 42 op t o kids j d:=by
 rcases hc.rule rfl with⟨rfl,hl⟩|⟨rfl,hl⟩|⟨rfl,hl⟩
 ·have hw:i64.wrap ((kids.length:Int) - 1)=0:=by rw[hl];rfl
  obtain rfl:j=0:=au;simp only[xJ,M.aH,M.aI,M.aY,M.aS,bI,bD,bJ,aT,hw,Int.reduceBEq,reduceLE,reduceLT,reduceSub,reduceAdd,dh,ah];generalize (rC d)=a0;generalize (d==33)=a1;cases a0<;>cases a1<;>exact⟨_,rfl,rfl⟩
 ·have hw:i64.wrap ((kids.length:Int) - 1)=0:=by rw[hl];rfl
  obtain rfl:j=0:=au;simp only[xJ,M.aH,M.aI,M.aY,M.aS,bI,bD,bJ,aT,hw,Int.reduceBEq,reduceLE,reduceLT,reduceSub,reduceAdd,dh,ah];generalize (rC d)=a0;generalize (d==33)=a1;cases a0<;>cases a1<;>exact⟨_,rfl,rfl⟩
 ·have hw:i64.wrap ((kids.length:Int) - 1)=1:=by rw[hl];rfl
  obtain rfl|rfl:j=0∨j=1:=au
  ·simp only[xJ,M.aH,M.aI,M.aY,M.aS,bI,bD,bJ,aT,hw,Int.reduceBEq,reduceLE,reduceLT,reduceSub,reduceAdd,dh,ah];generalize (rC d)=a0;generalize (d==33)=a1;cases a0<;>cases a1<;>exact⟨_,rfl,rfl⟩
  ·simp only[xJ,M.aH,M.aI,M.aY,M.aS,bI,bD,bJ,aT,hw,Int.reduceBEq,reduceLE,reduceLT,reduceSub,reduceAdd,dh,ah];generalize (rC d)=a0;generalize (d==33)=a1;cases a0<;>cases a1<;>exact⟨_,rfl,rfl⟩
def aLV(op:Int)(t o:aF)(kids:aA)(j d:Int)(h0:0<=j)(h1:j<kids.length)(hk:kids.length<=400)(hc:Cons 43 op kids.length):xJ 43 op t o kids j d:=by
 rcases hc.range rfl with⟨rfl,hl⟩|⟨rfl,hl⟩
 ·have hw:i64.wrap ((kids.length:Int) - 1)=1:=by rw[hl];rfl
  obtain rfl|rfl:j=0∨j=1:=au
  ·simp only[xJ,M.aH,M.aI,M.aY,M.aS,bI,bD,bJ,aT,hw,Int.reduceBEq,reduceLE,reduceLT,reduceSub,reduceAdd,dh,ah];generalize (rC d)=a0;generalize (d==33)=a1;cases a0<;>cases a1<;>exact⟨_,rfl,rfl⟩
  ·simp only[xJ,M.aH,M.aI,M.aY,M.aS,bI,bD,bJ,aT,hw,Int.reduceBEq,reduceLE,reduceLT,reduceSub,reduceAdd,dh,ah];generalize (rC d)=a0;generalize (d==33)=a1;cases a0<;>cases a1<;>exact⟨_,rfl,rfl⟩
 ·have hw:i64.wrap ((kids.length:Int) - 1)=2:=by rw[hl];rfl
  obtain rfl|rfl|rfl:j=0∨j=1∨j=2:=au
  ·simp only[xJ,M.aH,M.aI,M.aY,M.aS,bI,bD,bJ,aT,hw,Int.reduceBEq,reduceLE,reduceLT,reduceSub,reduceAdd,dh,ah];generalize (rC d)=a0;generalize (d==33)=a1;cases a0<;>cases a1<;>exact⟨_,rfl,rfl⟩
  ·simp only[xJ,M.aH,M.aI,M.aY,M.aS,bI,bD,bJ,aT,hw,Int.reduceBEq,reduceLE,reduceLT,reduceSub,reduceAdd,dh,ah];generalize (rC d)=a0;generalize (d==33)=a1;cases a0<;>cases a1<;>exact⟨_,rfl,rfl⟩
  ·simp only[xJ,M.aH,M.aI,M.aY,M.aS,bI,bD,bJ,aT,hw,Int.reduceBEq,reduceLE,reduceLT,reduceSub,reduceAdd,dh,ah];generalize (rC d)=a0;generalize (d==33)=a1;cases a0<;>cases a1<;>exact⟨_,rfl,rfl⟩
def aLW(op:Int)(t o:aF)(kids:aA)(j d:Int)(h0:0<=j)(h1:j<kids.length)(hk:kids.length<=400)(hc:Cons 44 op kids.length):xJ 44 op t o kids j d:=by simp only[xJ,M.aH,M.aI,M.aY,M.aS,bI,bD,bJ,aT,Int.reduceBEq,reduceLE,reduceLT,reduceSub,reduceAdd,dh,ah];generalize (j==i64.wrap ((kids.length:Int) - 1))=a0;generalize (d==33)=a1;generalize (d==1)=a2;cases a0<;>cases a1<;>cases a2<;>exact⟨_,rfl,rfl⟩
def aLX(op:Int)(t o:aF)(kids:aA)(j d:Int)(h0:0<=j)(h1:j<kids.length)(hk:kids.length<=400)(hc:Cons 45 op kids.length):xJ 45 op t o kids j d:=by simp only[xJ,M.aH,M.aI,M.aY,M.aS,bI,bD,bJ,aT,Int.reduceBEq,reduceLE,reduceLT,reduceSub,reduceAdd,dh,ah];generalize (isIt d)=a0;generalize (d==34)=a1;cases a0<;>cases a1<;>exact⟨_,rfl,rfl⟩
def aCj(k:Int)(op:Int)(t o:aF)(kids:aA)(j d:Int)(hj0:0<=j)(hj1:j<kids.length)(hk:kids.length<=400)(hc:Cons k op kids.length):xJ k op t o kids j d:=by
 by_cases h1:k=1
 ·subst h1;exact aV5 op t o kids j d hj0 hj1 hk hc
 by_cases h2:k=2
 ·subst h2;exact aV6 op t o kids j d hj0 hj1 hk hc
 by_cases h3:k=3
 ·subst h3;exact aV7 op t o kids j d hj0 hj1 hk hc
 by_cases h4:k=4
 ·subst h4;exact aV8 op t o kids j d hj0 hj1 hk hc
 by_cases h5:k=5
 ·subst h5;exact aV9 op t o kids j d hj0 hj1 hk hc
 by_cases h6:k=6
 ·subst h6;exact aWa op t o kids j d hj0 hj1 hk hc
 by_cases h7:k=7
 ·subst h7;exact aWb op t o kids j d hj0 hj1 hk hc
 by_cases h8:k=8
 ·subst h8;exact aWc op t o kids j d hj0 hj1 hk hc
 by_cases h9:k=9
 ·subst h9;exact aWd op t o kids j d hj0 hj1 hk hc
 by_cases h10:k=10
 ·subst h10;exact aLw op t o kids j d hj0 hj1 hk hc
 by_cases h11:k=11
 ·subst h11;exact aLx op t o kids j d hj0 hj1 hk hc
 by_cases h12:k=12
 ·subst h12;exact aLy op t o kids j d hj0 hj1 hk hc
 by_cases h13:k=13
 ·subst h13;exact aLz op t o kids j d hj0 hj1 hk hc
 by_cases h14:k=14
 ·subst h14;exact aLA op t o kids j d hj0 hj1 hk hc
 by_cases h15:k=15
 ·subst h15;exact aLB op t o kids j d hj0 hj1 hk hc
 by_cases h16:k=16
 ·subst h16;exact aLC op t o kids j d hj0 hj1 hk hc
 by_cases h20:k=20
 ·subst h20;exact aLD op t o kids j d hj0 hj1 hk hc
 by_cases h21:k=21
 ·subst h21;exact aLE op t o kids j d hj0 hj1 hk hc
 by_cases h22:k=22
 ·subst h22;exact aLF op t o kids j d hj0 hj1 hk hc
 by_cases h23:k=23
 ·subst h23;exact aLG op t o kids j d hj0 hj1 hk hc
 by_cases h24:k=24
 ·subst h24;exact aLH op t o kids j d hj0 hj1 hk hc
 by_cases h25:k=25
 ·subst h25;exact aLI op t o kids j d hj0 hj1 hk hc
 by_cases h26:k=26
 ·subst h26;exact aLJ op t o kids j d hj0 hj1 hk hc
 by_cases h27:k=27
 ·subst h27;exact aLK op t o kids j d hj0 hj1 hk hc
 by_cases h28:k=28
 ·subst h28;exact aLL op t o kids j d hj0 hj1 hk hc
 by_cases h29:k=29
 ·subst h29;exact aLM op t o kids j d hj0 hj1 hk hc
 by_cases h30:k=30
 ·subst h30;exact aLN op t o kids j d hj0 hj1 hk hc
 by_cases h31:k=31
 ·subst h31;exact aLO op t o kids j d hj0 hj1 hk hc
 by_cases h32:k=32
 ·subst h32;exact aLP op t o kids j d hj0 hj1 hk hc
 by_cases h33:k=33
 ·subst h33;exact aLQ op t o kids j d hj0 hj1 hk hc
 by_cases h34:k=34
 ·subst h34;exact aLR op t o kids j d hj0 hj1 hk hc
 by_cases h40:k=40
 ·subst h40;exact aLS op t o kids j d hj0 hj1 hk hc
 by_cases h41:k=41
 ·subst h41;exact aLT op t o kids j d hj0 hj1 hk hc
 by_cases h42:k=42
 ·subst h42;exact aLU op t o kids j d hj0 hj1 hk hc
 by_cases h43:k=43
 ·subst h43;exact aLV op t o kids j d hj0 hj1 hk hc
 by_cases h44:k=44
 ·subst h44;exact aLW op t o kids j d hj0 hj1 hk hc
 by_cases h45:k=45
 ·subst h45;exact aLX op t o kids j d hj0 hj1 hk hc
 have e1:(k==1)=false:=by simpa using h1
 have e2:(k==2)=false:=by simpa using h2
 have e3:(k==3)=false:=by simpa using h3
 have e4:(k==4)=false:=by simpa using h4
 have e5:(k==5)=false:=by simpa using h5
 have e6:(k==6)=false:=by simpa using h6
 have e7:(k==7)=false:=by simpa using h7
 have e8:(k==8)=false:=by simpa using h8
 have e9:(k==9)=false:=by simpa using h9
 have e10:(k==10)=false:=by simpa using h10
 have e11:(k==11)=false:=by simpa using h11
 have e12:(k==12)=false:=by simpa using h12
 have e13:(k==13)=false:=by simpa using h13
 have e14:(k==14)=false:=by simpa using h14
 have e15:(k==15)=false:=by simpa using h15
 have e16:(k==16)=false:=by simpa using h16
 have e20:(k==20)=false:=by simpa using h20
 have e21:(k==21)=false:=by simpa using h21
 have e22:(k==22)=false:=by simpa using h22
 have e23:(k==23)=false:=by simpa using h23
 have e24:(k==24)=false:=by simpa using h24
 have e25:(k==25)=false:=by simpa using h25
 have e26:(k==26)=false:=by simpa using h26
 have e27:(k==27)=false:=by simpa using h27
 have e28:(k==28)=false:=by simpa using h28
 have e29:(k==29)=false:=by simpa using h29
 have e30:(k==30)=false:=by simpa using h30
 have e31:(k==31)=false:=by simpa using h31
 have e32:(k==32)=false:=by simpa using h32
 have e33:(k==33)=false:=by simpa using h33
 have e34:(k==34)=false:=by simpa using h34
 have e40:(k==40)=false:=by simpa using h40
 have e41:(k==41)=false:=by simpa using h41
 have e42:(k==42)=false:=by simpa using h42
 have e43:(k==43)=false:=by simpa using h43
 have e44:(k==44)=false:=by simpa using h44
 have e45:(k==45)=false:=by simpa using h45
 simp only[xJ,M.aH,M.aI,M.aY,M.aS,bI,bD,bJ,aT,e1,e2,e3,e4,e5,e6,e7,e8,e9,e10,e11,e12,e13,e14,e15,e16,e20,e21,e22,e23,e24,e25,e26,e27,e28,e29,e30,e31,e32,e33,e34,e40,e41,e42,e43,e44,e45,bZ,ah];exact⟨_,rfl,rfl⟩
end Go.Proofs.YtbkndkcpmnjaeaaGreatDoor
namespace Go.Proofs.YtbkndkcpmnjaeaaGreatDoor
set_option linter.unusedVariables false
set_option linter.unusedSimpArgs false
open Go Go.Vm
open Go.IntKind (i64)
open Int (reduceLE reduceLT reduceSub reduceAdd)
def CS(x lo hi:Int):M.bf x lo hi=some (decide (lo<=x) && decide (x<=hi)):=by
 simp only[M.bf,M.yL]
 by_cases h:lo<=x
 ·rw[zdt (show x>=lo from h)];rfl
 ·rw[uq (show¬x>=lo from h)];rfl
def akA:∀k:List Int,ahE (encI k)=some k
 |[]=>rfl
 |x::k=>by have:encI (x::k)=[D.int .i64 x]::encI k:=rfl;rw[this];simp only[ahE,akA k,Ic]
def nk(n:Nd):Nk:=⟨n.kind,n.op,⟨⟨n.text⟩⟩,⟨⟨n.other⟩⟩,n.kids⟩
def aan(o:Bool):∀l:List Nd,(∀n,n∈l->n.kids.length<=1048576)->UK (aN o l)=some (l.map nk)
 |[],_=>rfl
 |n::l,h=>by
  have:aN o (n::l)=JC o n::aN o l:=rfl;rw[this,UK];have hk:aml (JC o n)=some (nk n):=by simp only[JC,aml,akA,ah];rw[if_pos (h n zmf)];rfl
  rw[hk,ah,aan o l (λm hm=>h m (zmm _ hm))];rfl
def az4(l:List Nd):(l.map nk).map (·.kids)=ks l:=by simp[ks,nk]
def abZ(l:List Nd)(o:Bool)(hl:l.length<=1048576)(hk:∀n,n∈l->n.kids.length<=1048576):M.xW (aN o l)=some (y9 l):=by
 simp only[M.xW,M.J6,M.gY,aan o l hk,ah,az4,List.length_map];rw[if_pos hl,y9];cases nG (ks l) with
 |none=>rfl
 |some st=>rfl
def Y7(l:List Nd)(o:Bool){i:Nat}{n:Nd}{st:List Int}(hi:l[i]? =some n)(hl:l.length<=1048576)(hkl:n.kids.length<=1048576)(hst:Ws st)(hs:st.length=i):
  ∀(j:Nat) (a:Int),j<=n.kids.length->0<=a->a<=i->M.rP (aN o l) (i:Int) (encI st) (a,(j:Int) - 1)=some (match dR st (n.kids.take j).reverse (a - 1) with
   |none=> .inl ()
   |some r=> .inr (r+1, -1))
 |0,a,hj,h0,h1=>by rw[M.rP];apply dZ;simp only[M.Ce,M.wO];rw[uq au,bZ,List.take_zero,List.reverse_nil,dR];simp
 |j+1,a,hj,h0,h1=>by
  have hlt:i<l.length:=(Jm.1 hi).1;obtain⟨k,hk⟩:∃k,n.kids[j]? =some k:=⟨n.kids[j]'au,by simp⟩
  have ht:(n.kids.take (j+1)).reverse=k::(n.kids.take j).reverse:=by rw[List.take_add_one,hk,Option.toList_some,List.reverse_append];rfl
  rw[ht,dR];have e1:(((j+1:Nat):Int) - 1)=(j:Int):=au;rw[e1];have hstep:M.Ce (aN o l) (i:Int) (encI st) (a,(j:Int))=if a - 1<0∨k≠a - 1 then some (.inr (.inl ())) else some (.inl (st[k.toNat]?.getD 0,(j:Int) - 1)):=by
   simp only[M.Ce,M.wO,bW,iF,hi,Ic,ah,Lj,nD,hk,Qa];rw[zdt au,aU,aC (n:=a - 1) au au]
   by_cases h2:k=a - 1
   ·have:(k !=a - 1)=false:=by simp[h2]
    rw[this,bZ]
    by_cases h3:a=0
    ·have:(a==0)=true:=by simp[h3]
     rw[this,aU,if_pos (.inl au)]
    ·have:(a==0)=false:=by simp[h3]
     rw[this,bZ,if_neg au];obtain⟨d,hd⟩:∃d:Nat,a - 1=(d:Int):=⟨(a - 1).toNat,au⟩
     have hdl:d<st.length:=au;rw[h2,hd];simp only[adI,bW,nD,RX];rw[List.getElem?_eq_getElem hdl];simp only[Ic,ah,Qa,Option.getD_some];rw[aC au au]
   ·have:(k !=a - 1)=true:=by simp[h2]
    rw[this,aU,if_pos (.inr h2)]
  by_cases hc:a - 1<0∨k≠a - 1
  ·rw[if_pos hc];rw[if_pos hc] at hstep;exact dZ hstep
  ·rw[if_neg hc];rw[if_neg hc] at hstep;rw[M.rP,iC hstep];have hz:=Qc hst k.toNat;have:=Y7 l o hi hl hkl hst hs j (st[k.toNat]?.getD 0) au hz.1 au;rw[M.rP] at this;exact this
def RP(l:List Nd)(o:Bool)(hl:l.length<=1048576)(hk:∀n,n∈l->n.kids.length<=1048576):∀(rest:List Nd) (i:Nat) (st:List Int),l.drop i=rest->st.length=i->i<=l.length->Ws st->
  M.rQ (aN o l) ((i:Int),encI st)=some (match eY st (ks rest) with
   |none=> .inl ()
   |some r=> .inr ((l.length:Int),encI r))
 |[],i,st,hd,hs,hi,hst=>by have:l.length<=i:=List.drop_eq_nil_iff.1 hd;rw[M.rQ];apply dZ;simp only[mg,M.Ci,M.wP,cZ];rw[uq au,bZ];have:i=l.length:=au;subst this;rfl
 |n::rest,i,st,hd,hs,hi,hst=>by
  have hn:l[i]? =some n:=by
   have:(l.drop i)[0]? =some n:=by rw[hd];rfl
   simpa using this
  have hlt:i<l.length:=(Jm.1 hn).1;have hd':l.drop (i+1)=rest:=by rw[<-List.drop_drop,hd];rfl
  have hkn:=hk n (Ib hn);have hin:=Y7 l o hn hl hkn hst hs n.kids.length (i:Int) (Nat.le_refl _) au au;rw[List.take_length] at hin;have hks:ks (n::rest)=n.kids::ks rest:=rfl;rw[hks,eY,hs];have hstep:M.Ci (aN o l) ((i:Int),encI st)=some (match dR st n.kids.reverse ((i:Int) - 1) with
    |none=> .inr (.inl ())
    |some a=> .inl (((i+1:Nat):Int),encI (st++[a+1]))):=by
   simp only[mg,M.Ci,M.wP,cZ,bW,iF,hn,Ic,ah,Lj,aZ];rw[zdt au,aU,aC (n:=(n.kids.length:Int) - 1) au au,hin];cases hw:dR st n.kids.reverse ((i:Int) - 1) with
   |none=>rfl
   |some a=>simp only[ah,uw,letE,Le];rw[aX au,aU,aX au,aU,aC au au];simp[encI]
  cases hw:dR st n.kids.reverse ((i:Int) - 1) with
  |none=>rw[hw] at hstep;exact dZ hstep
  |some a=>rw[hw] at hstep;rw[M.rQ,iC hstep];have hr:=Fe hst _ _ _ au au hw;have:=RP l o hl hk rest (i+1) (st++[a+1]) hd' (by simp[hs]) hlt (SX hst hr.1 hr.2);rw[M.rQ] at this;exact this
def OT(l:List Nd)(o:Bool)(hl:l.length<=1048576)(hk:∀n,n∈l->n.kids.length<=1048576):M.oC (aN o l)=some (y9 l):=by
 simp only[M.oC,M.Ky,CS,ah,cZ]
 by_cases h1:1<=l.length∧l.length<=400
 ·have hb:(decide ((1:Int)<=(l.length:Int)) && decide ((l.length:Int)<=400))=true:=by simp;omega
  rw[hb,Bool.not_true,bZ];have h:=RP l o hl hk l 0 [] rfl rfl (Nat.zero_le _) Qd;have e0:((0:Nat):Int)=0:=rfl;rw[e0] at h;simp only[M.nX,M.Dj];rw[show([]:aA)=encI [] from rfl,h,y9,nG,if_pos (by rw[Gi];exact h1)];cases hs:eY [] (ks l) with
  |none=>rfl
  |some r=>
   have hrl:r.length=l.length:=by have:=Ub _ _ _ hs;rw[Gi] at this;simpa using this
   simp only[ah,uw,letE,wu,aU];rw[aC au au,show(l.length:Int) - 1=((l.length - 1:Nat):Int) by omega];simp only[adI,bW,nD,RX];rw[List.getElem?_eq_getElem au];simp only[Ic,ah,Qa,Option.getD_some]
 ·have hb:(decide ((1:Int)<=(l.length:Int)) && decide ((l.length:Int)<=400))=false:=by
   cases hq:(decide ((1:Int)<=(l.length:Int)) && decide ((l.length:Int)<=400)) with
   |false=>rfl
   |true=>simp at hq;omega
  rw[hb,Bool.not_false,aU,y9,nG,if_neg (by rw[Gi];exact h1)]
def agv{st:List Int}(h:Ws st):∀(l:List Int) (a r:Int),a<st.length->dR st l a=some r->∀k,k∈l->0<=k∧k<st.length
 |[],a,r,h1,e,k,hk=>absurd hk List.not_mem_nil
 |x::l,a,r,h1,e,k,hk=>by
  rw[dR] at e;split at e
  ·cases e
  ·rename_i hc;have hz:=Qc h x.toNat;rcases List.mem_cons.1 hk with rfl|hk
   ·omega
   ·exact agv h l _ r au e k hk
def abk:∀(l:List (List Int)) (st r:List Int),Ws st->eY st l=some r->∀(i:Nat) n,l[i]? =some n->∀k,k∈n->0<=k∧k<st.length+i
 |[],st,r,h0,h,i,n,hn=>by simp at hn
 |m::l,st,r,h0,h,i,n,hn=>by
  rw[eY] at h;split at h
  ·cases h
  ·rename_i a ha;have hr:=Fe h0 _ _ _ au au ha;cases i with
   |zero=>simp only[List.getElem?_cons_zero,fF] at hn;subst hn;intro k hk;have:=agv h0 _ _ _ au ha k (List.mem_reverse.2 hk);omega
   |succ i=>simp only[List.getElem?_cons_succ] at hn;intro k hk;have:=abk l _ r (SX h0 hr.1 hr.2) h i n hn k hk;simp at this;omega
def agw{l:List Nd}(h:y9 l=true):1<=l.length∧l.length<=400:=by
 unfold y9 at h;cases hs:nG (ks l) with
 |none=>rw[hs] at h;cases h
 |some r=>
  unfold nG at hs;split at hs
  ·rename_i hq;rw[Gi] at hq;exact hq
  ·cases hs
def Xb:∀(l:List (List Int)) (st r:List Int),eY st l=some r->∃t,r=st++t
 |[],st,r,h=>by rw[eY] at h;cases h;exact⟨[],by simp⟩
 |n::l,st,r,h=>by
  rw[eY] at h;split at h
  ·cases h
  ·obtain⟨t,ht⟩:=Xb l _ r h;exact⟨_,by rw[ht,BO]⟩
def akB{st t:List Int}(h:Ws st):∀(ks:List Int) (a:Int),a<st.length->dR (st++t) ks a=dR st ks a
 |[],a,_=>rfl
 |k::ks,a,ha=>by
  rw[dR,dR];split
  ·rfl
  ·rename_i hc;have hk:k.toNat<st.length:=au;have e:(st++t)[k.toNat]? =st[k.toNat]? :=List.getElem?_append_left hk;rw[e];have hz:=Qc h k.toNat;exact akB h ks _ au
def agx:∀(l:List (List Int)) (st r:List Int),Ws st->eY st l=some r->∀(i:Nat) n,l[i]? =some n->∃a,dR r n.reverse ((st.length:Int)+i - 1)=some a∧r[st.length+i]? =some (a+1)
 |[],st,r,h0,h,i,n,hn=>by simp at hn
 |m::l,st,r,h0,h,i,n,hn=>by
  rw[eY] at h;split at h
  ·cases h
  ·rename_i a ha;have hr:=Fe h0 _ _ _ au au ha;obtain⟨t,ht⟩:=Xb l _ r h;cases i with
   |zero=>
    simp only[List.getElem?_cons_zero,fF] at hn;subst hn;refine⟨a, ?_, ?_⟩
    ·rw[ht,BO,akB h0 _ _ (by simp;omega)];simpa using ha
    ·rw[ht];simp
   |succ i=>
    simp only[List.getElem?_cons_succ] at hn;obtain⟨b,h1,h2⟩:=agx l _ r (SX h0 hr.1 hr.2) h i n hn;refine⟨b, ?_, ?_⟩
    ·rw[<-h1];congr 1;simp;omega
    ·rw[<-h2];congr 1;simp;omega
def VE:List Int->Int
 |[]=>0
 |x::l=>x+VE l
def abl:∀(a b:List Int),VE (a++b)=VE a+VE b
 |[],b=>by simp[VE]
 |x::a,b=>by rw[Xg,VE,VE,abl a b];omega
def Y8:∀l:List Int,VE l.reverse=VE l
 |[]=>rfl
 |x::l=>by rw[List.reverse_cons,abl,Y8 l];simp[VE];omega
def sz(r:List Int)(k:Int):Int:=k - (r[k.toNat]?.getD 0)+1
def akC(r:List Int):∀(ks:List Int) (a b:Int),dR r ks a=some b->VE (ks.map (sz r))=a - b
 |[],a,b,h=>by rw[dR] at h;cases h;simp[VE]
 |k::ks,a,b,h=>by
  rw[dR] at h;split at h
  ·cases h
  ·rename_i hc;have:=akC r ks _ b h;rw[WH,VE,this,sz];omega
structure Val(l:List Nd)(r:List Int):Prop where
 st:eY [] (ks l)=some r
 pos:1<=l.length
 le:l.length<=400
def aes{l:List Nd}(h:y9 l=true):∃r,Val l r:=by
 have hl:=agw h;unfold y9 at h;cases hs:nG (ks l) with
 |none=>rw[hs] at h;cases h
 |some r=>
  unfold nG at hs;split at hs
  ·exact⟨r,hs,hl.1,hl.2⟩
  ·cases hs
section
variable {l:List Nd} {r:List Int}
def Val.len(h:Val l r):r.length=l.length:=by have:=Ub _ _ _ h.st;rw[Gi] at this;simpa using this
def Val.ok(h:Val l r):Ws r:=ZW _ _ _ Qd h.st
def Val.kids(h:Val l r){i:Nat}{n:Nd}(hn:l[i]? =some n):∀k,k∈n.kids->0<=k∧k<i:=by have:=abk _ _ _ Qd h.st i n.kids (by simp[ks,hn]);simpa using this
def Val.sum(h:Val l r){i:Nat}{n:Nd}(hn:l[i]? =some n):VE (n.kids.map (sz r))+1=sz r i:=by obtain⟨a,h1,h2⟩:=agx _ _ _ Qd h.st i n.kids (by simp[ks,hn]);have:=akC r _ _ _ h1;rw[List.map_reverse,Y8] at this;simp at h2;rw[this,sz,RX,h2];simp;omega
def Val.atM(h:Val l r){k:Int}(h0:0<=k):1<=sz r k∧sz r k<=k+1:=by have:=Qc h.ok k.toNat;rw[sz];omega
end
def aeu(l:List Nd)(i:Nat):List Int:=match l[i]? with|some n=>n.kids|none=>[]
def Jw{l:List Nd}{i:Nat}{n:Nd}(h:l[i]? =some n):aeu l i=n.kids:=by rw[aeu,h]
end Go.Proofs.YtbkndkcpmnjaeaaGreatDoor
