import Derived.Test.YtbgadfelmhoheaaGreatDoorPForms3
import Derived.Test.YtbgadfelmhoheaaGreatDoorVm4
import Derived.Lib.IndexLaws
set_option linter.defProp false
namespace Go.Proofs.YtbgadfelmhoheaaGreatDoor
set_option linter.unusedVariables false
set_option linter.unusedSimpArgs false
set_option linter.unusedSectionVars false
open Go Go.Vm
open Go.IntKind (i64)
def bP:(∀a b:Int,(a>=b)=(b<=a))∧(∀a b:Int,(a>b)=(b<a))∧(∀h:Decidable True,@decide True h=true)∧(∀h:Decidable False,@decide False h=false)∧(∀(α:Type) (a b:α),cond true a b=a)∧(∀(α:Type) (a b:α),cond false a b=b)∧(∀b:Bool,(b && true)=b)∧(∀b:Bool,(b && false)=false)∧(∀b:Bool,(true && b)=b)∧(∀b:Bool,(false && b)=false)∧((!true)=false)∧((!false)=true):=
 ⟨λ_ _=>rfl,λ_ _=>rfl,λh=>@decide_eq_true True h trivial,λh=>@decide_eq_false False h id,λ_ _ _=>rfl,λ_ _ _=>rfl,λb=>by cases b<;>rfl,λb=>by cases b<;>rfl,λ_=>rfl,λ_=>rfl,rfl,rfl⟩
def bn{m n:Nat}(h:m<=n):m.ble n=true:=Nat.ble_eq_true_of_le h
def ah{α β:Type}(a:α)(f:α->Option β):(some a).bind f=f a:=rfl
def rG:((0:Nat):Int)=0:=rfl
def G7(s:aA)(a:Int):Int:=if 0<=a then(match s[a.toNat]? with|some c=>(c.toNat:Int)|none=> -1) else -1
def isD(b:Int):Bool:=decide (b>=48) && decide (b<=57)
def tu(s:aA)(a:Int):Int:=if 0<=a then a+(((s.drop a.toNat).takeWhile λc=>isD (c.toNat:Int)).length:Nat) else a
def ahz(c:UInt8):c.toNat<256:=c.toNat_lt
def KA(s:aA)(i:Nat):G7 s (i:Int)=(match s[i]? with|some c=>(c.toNat:Int)|none=> -1):=by rw[G7,if_pos (by omega),QS]
section
variable {s:aA} (h:s.length<=1048576)
include h
theorem IX(a:Int):M.dM s a=some (G7 s a):=by
 simp only[M.dM,M.JM]
 by_cases h0:a<0
 ·rw[zdt h0,aT,G7,if_neg (by omega)]
 ·rw[qN h0,cu];obtain⟨i,rfl⟩:∃i:Nat,a=i:=⟨a.toNat,by omega⟩
  rw[KA]
  by_cases h1:(i:Int)>=(s.length:Int)
  ·rw[zdt h1,aT,List.getElem?_eq_none (by omega)]
  ·obtain⟨c,hc⟩:∃c,s[i]? =some c:=⟨s[i]'(by omega),by simp⟩
   have:=ahz c;rw[qN h1,cu,bU,hc,ah,aC (by omega) (by omega)]
theorem IY(a:Int):M.jd s a=some (G7 s a):=by
 simp only[M.jd,M.J6,M.bG,M.xY];rw[aC (by omega) (by omega)]
 by_cases h0:a<0
 ·rw[qN (by omega),cu,ah,Bool.not_false,aT,G7,if_neg (by omega)]
 ·rw[zdt (by omega),aT,ah];obtain⟨i,rfl⟩:∃i:Nat,a=i:=⟨a.toNat,by omega⟩
  rw[KA]
  by_cases h1:(i:Int)>=(s.length:Int)
  ·rw[qN (by omega),Bool.not_false,aT,List.getElem?_eq_none (by omega)]
  ·obtain⟨c,hc⟩:∃c,s[i]? =some c:=⟨s[i]'(by omega),by simp⟩
   have:=ahz c;rw[zdt (by omega),Bool.not_true,cu,bU,hc,ah,aC (by omega) (by omega)]
end
def ahA(b:Int):M.qy b=some (isD b):=by simp only[M.qy,M.H9,M.aV,M.wM,isD];cases decide (b>=48)<;>rfl
def ahB(b:Int):M.qG b=some (isD b):=by simp only[M.qG,M.Iz,isD];cases decide (b>=48)<;>rfl
def asf{s:aA}{b:Int->Option (Int⊕Int)}(hb:∀a,0<=a->a<=2000000->b a=some (bif isD (G7 s a) then .inl (a+1) else .inr a))(h:s.length<=1048576):
  ∀(rest pre:aA),s=pre++rest->eF b (pre.length:Int)=some ((pre.length:Int)+((rest.takeWhile λc=>isD (c.toNat:Int)).length:Nat))
 |[],pre,e=>by
  have hl:pre.length=s.length:=by rw[e];simp
  refine dP ?_;rw[hb _ (by omega) (by omega),KA,List.getElem?_eq_none (by omega)];simp[isD]
 |c::rest,pre,e=>by
  have hl:s.length=pre.length+(rest.length+1):=by rw[e];simp
  have hget:s[pre.length]? =some c:=by rw[e,List.getElem?_append_right (Nat.le_refl _),Nat.sub_self];rfl
  have hs:=hb (pre.length:Int) (by omega) (by omega);rw[KA,hget] at hs;simp only at hs;cases hd:isD (c.toNat:Int) with
  |true=>have:=asf hb h rest (pre++[c]) (by rw[e];simp);rw[qO,LJ] at this;rw[hd,aT] at hs;rw[gQ hs,List.takeWhile_cons,if_pos hd,show(pre.length:Int)+1=((pre.length+1:Nat):Int) by omega,this];simp;omega
  |false=>rw[hd,cu] at hs;rw[dP hs,List.takeWhile_cons,hd];simp
def aoT{s:aA}{b:Int->Option (Int⊕Int)}(hb:∀a,0<=a->a<=2000000->b a=some (bif isD (G7 s a) then .inl (a+1) else .inr a))(h:s.length<=1048576)(a:Int)(h0:0<=a)(h1:a<=2000000):eF b a=some (tu s a):=by
 obtain⟨i,rfl⟩:∃i:Nat,a=i:=⟨a.toNat,by omega⟩
 rw[tu,if_pos h0,QS]
 by_cases hi:i<=s.length
 ·have:=asf hb h (s.drop i) (s.take i) (List.take_append_drop i s).symm;rw[PW,Nat.min_eq_left hi] at this;exact this
 ·rw[List.drop_eq_nil_of_le (by omega)];refine dP ?_;rw[hb _ h0 h1,KA,List.getElem?_eq_none (by omega)];simp[isD]
def Jv{s:aA}(h:s.length<=1048576){a:Int}(h0:0<=a):a<=tu s a∧(tu s a<=a∨tu s a<=s.length):=by have h1:=(List.takeWhile_sublist (p:=λc:UInt8=>isD (c.toNat:Int)) (l:=s.drop a.toNat)).length_le;rw[List.length_drop] at h1;rw[tu,if_pos h0];omega
section
variable {s:aA} (h:s.length<=1048576)
include h
theorem zk(a:Int)(h0:0<=a)(h1:a<=2000000):M.aI s a=some (tu s a):=by simp only[M.aI,M.Fz,M.Eh];rw[aoT (λa h0 h1=>by simp only[M.Ns,M.Aa,IX h,ahA,ah];rw[aC (by omega) (by omega)];cases isD (G7 s a)<;>rfl) h a h0 h1,ah]
theorem xK(a:Int)(h0:0<=a)(h1:a<=2000000):M.dw s a=some (tu s a):=by simp only[M.dw,M.EC,M.CJ];rw[aoT (λa h0 h1=>by simp only[M.LD,M.yD,IY h,ahB,ah];rw[aC (by omega) (by omega)];cases isD (G7 s a)<;>rfl) h a h0 h1,ah]
end
def RS(s:aA)(r:Int):Int:=bif(G7 s r==101)||(G7 s r==69) then
  (bif(G7 s (r+1)==43)||(G7 s (r+1)==45) then(bif decide (tu s (r+1+1)>r+1+1) then tu s (r+1+1) else r) else(bif decide (tu s (r+1)>r+1) then tu s (r+1) else r)) else r
def RU(s:aA)(a:Int):Int:=if a<0∨(s.length:Int)<=a then -1 else
 bif G7 s (tu s a)==46 then(bif(tu s a==a) &&(tu s (tu s a+1)==tu s a+1) then -1 else RS s (tu s (tu s a+1))) else(bif tu s a==a then -1 else RS s (tu s a))
section
variable {s:aA} (h:s.length<=1048576)
include h
set_option maxHeartbeats 2000000 in
theorem abp(a:Int)(ha:a<=1048576):M.zJ s a=some (RU s a):=by
 simp only[M.zJ,M.J7,M.bG,M.xY,RU];rw[aC (by omega) (by omega)]
 by_cases h0:a<0
 ·rw[qN (by omega),cu,ah,Bool.not_false,aT,if_pos (.inl h0)]
 ·rw[zdt (by omega),aT,ah]
  by_cases h1:(s.length:Int)<=a
  ·rw[qN (by omega),Bool.not_false,aT,if_pos (.inr h1)]
  ·rw[zdt (by omega),Bool.not_true,cu,if_neg (by omega),xK h a (by omega) (by omega),ah];have e1:=Jv h (a:=a) (by omega);generalize hE:tu s a=e at e1⊢;simp only[IY h,ah];rw[aC (n:=e+1) (by omega) (by omega),aC (n:=e - a) (by omega) (by omega),xK h (e+1) (by omega) (by omega),ah];have e2:=Jv h (a:=e+1) (by omega);generalize hK:tu s (e+1)=k at e2⊢;have hz:(i64.wrap (e - a+i64.wrap (i64.wrap (k - e) - 1))==0)=((e==a) &&(k==e+1)):=by rw[aC (n:=k - e) (by omega) (by omega),aC (n:=k - e - 1) (by omega) (by omega),aC (by omega) (by omega),Bool.eq_iff_iff];simp only[zq,beq_iff_eq];omega
   have hz2:(e - a==0)=(e==a):=by rw[Bool.eq_iff_iff];simp only[beq_iff_eq];omega
   rw[hz,hz2];have ex:∀r:Int,0<=r->r<=1048578->(bif G7 s r==101 then
      ((some (G7 s (i64.wrap (r+1)))).bind λaEN=>
      (bif aEN==43 then
       ((M.dw s (i64.wrap (i64.wrap (r+1)+1))).bind λaEO=>
       (bif decide (aEO>i64.wrap (i64.wrap (r+1)+1)) then(some aEO) else(some r))) else
       (bif aEN==45 then
       ((M.dw s (i64.wrap (i64.wrap (r+1)+1))).bind λaEP=>(bif decide (aEP>i64.wrap (i64.wrap (r+1)+1)) then(some aEP) else(some r))) else
       ((M.dw s (i64.wrap (r+1))).bind λaEQ=>(bif decide (aEQ>i64.wrap (r+1)) then(some aEQ) else(some r)))))) else
      (bif G7 s r==69 then
      ((some (G7 s (i64.wrap (r+1)))).bind λaER=>
       (bif aER==43 then
       ((M.dw s (i64.wrap (i64.wrap (r+1)+1))).bind λafN=>(bif decide (afN>i64.wrap (i64.wrap (r+1)+1)) then(some afN) else(some r))) else
       (bif aER==45 then
        ((M.dw s (i64.wrap (i64.wrap (r+1)+1))).bind λaES=>
        (bif decide (aES>i64.wrap (i64.wrap (r+1)+1)) then(some aES) else(some r))) else
        ((M.dw s (i64.wrap (r+1))).bind λaET=>(bif decide (aET>i64.wrap (r+1)) then(some aET) else(some r)))))) else(some r)))=some (RS s r):=by
    intro r h0 h1;rw[aC (n:=r+1) (by omega) (by omega),aC (n:=r+1+1) (by omega) (by omega),xK h (r+1) (by omega) (by omega),xK h (r+1+1) (by omega) (by omega),RS];simp only[ah];cases G7 s r==101<;>cases G7 s r==69<;>cases G7 s (r+1)==43<;>cases G7 s (r+1)==45<;>cases decide (tu s (r+1+1)>r+1+1)<;>cases decide (tu s (r+1)>r+1)<;>rfl
   simp only[ah] at ex;cases G7 s e==46 with
   |true=>
    simp only[aT];cases(e==a) &&(k==e+1) with
    |true=>rfl
    |false=>simp only[cu];exact ex k (by omega) (by omega)
   |false=>
    simp only[cu];cases e==a with
    |true=>rfl
    |false=>simp only[cu];have h2:=ex e (by omega) (by omega);rw[aC (n:=e+1) (by omega) (by omega),xK h (e+1) (by omega) (by omega),hK] at h2;simp only[ah] at h2;exact h2
theorem abq(a:Int)(ha:a<=1048576):M.zD s a=some (RU s a):=by
 simp only[M.zD,M.JO,RU]
 by_cases h0:a<0
 ·rw[zdt h0,aT,if_pos (.inl h0)]
 ·rw[qN h0,cu];have e1:=Jv h (a:=a) (by omega);rw[zk h a (by omega) (by omega),ah];simp only[IX h,ah]
  by_cases h1:(s.length:Int)<=a
  ·have he:tu s a=a:=by omega
   obtain⟨i,rfl⟩:∃i:Nat,a=i:=⟨a.toNat,by omega⟩
   have hb:G7 s (i:Int)= -1:=by rw[KA,List.getElem?_eq_none (by omega)]
   rw[he,hb,if_pos (.inr h1),show((-1:Int)==46)=false from rfl,cu,beq_self_eq_true,aT]
  ·rw[if_neg (by omega)];generalize hE:tu s a=e at e1⊢;have e2:=Jv h (a:=e+1) (by omega);rw[aC (n:=e+1) (by omega) (by omega),zk h (e+1) (by omega) (by omega),ah];have ex:∀r:Int,0<=r->r<=1048578->(bif G7 s r==101 then
      (bif G7 s (i64.wrap (r+1))==43 then
       ((M.aI s (i64.wrap (i64.wrap (r+1)+1))).bind λas2=>
        (bif decide (as2>i64.wrap (i64.wrap (r+1)+1)) then
        ((M.aI s (i64.wrap (i64.wrap (r+1)+1))).bind λas3=>(some as3)) else(some r))) else
        (bif G7 s (i64.wrap (r+1))==45 then
        ((M.aI s (i64.wrap (i64.wrap (r+1)+1))).bind λas4=>
         (bif decide (as4>i64.wrap (i64.wrap (r+1)+1)) then
         ((M.aI s (i64.wrap (i64.wrap (r+1)+1))).bind λas5=>(some as5)) else(some r))) else
        ((M.aI s (i64.wrap (r+1))).bind λas6=>(bif decide (as6>i64.wrap (r+1)) then((M.aI s (i64.wrap (r+1))).bind λas7=>(some as7)) else(some r))))) else
       (bif G7 s r==69 then
        (bif G7 s (i64.wrap (r+1))==43 then
        ((M.aI s (i64.wrap (i64.wrap (r+1)+1))).bind λas8=>
         (bif decide (as8>i64.wrap (i64.wrap (r+1)+1)) then
         ((M.aI s (i64.wrap (i64.wrap (r+1)+1))).bind λas9=>(some as9)) else(some r))) else
         (bif G7 s (i64.wrap (r+1))==45 then
         ((M.aI s (i64.wrap (i64.wrap (r+1)+1))).bind λata=>
          (bif decide (ata>i64.wrap (i64.wrap (r+1)+1)) then
          ((M.aI s (i64.wrap (i64.wrap (r+1)+1))).bind λatb=>(some atb)) else(some r))) else
         ((M.aI s (i64.wrap (r+1))).bind λatc=>(bif decide (atc>i64.wrap (r+1)) then((M.aI s (i64.wrap (r+1))).bind λatd=>(some atd)) else(some r))))) else(some r)))=some (RS s r):=by
    intro r h0 h1;rw[aC (n:=r+1) (by omega) (by omega),aC (n:=r+1+1) (by omega) (by omega),zk h (r+1) (by omega) (by omega),zk h (r+1+1) (by omega) (by omega),RS];simp only[ah];cases G7 s r==101<;>cases G7 s r==69<;>cases G7 s (r+1)==43<;>cases G7 s (r+1)==45<;>cases decide (tu s (r+1+1)>r+1+1)<;>cases decide (tu s (r+1)>r+1)<;>rfl
   generalize hK:tu s (e+1)=k at e2⊢;have hka:(k==a)=false:=by rw[OV];omega
   rw[hka];cases G7 s e==46 with
   |true=>
    simp only[aT,cu];cases e==a with
    |true=>
     simp only[aT,Bool.true_and];cases k==e+1 with
     |true=>rfl
     |false=>simp only[cu];exact ex k (by omega) (by omega)
    |false=>simp only[cu,Bool.false_and];exact ex k (by omega) (by omega)
   |false=>
    simp only[cu];cases e==a with
    |true=>rfl
    |false=>simp only[cu];have h2:=ex e (by omega) (by omega);rw[aC (n:=e+1) (by omega) (by omega),zk h (e+1) (by omega) (by omega),hK] at h2;simp only[ah] at h2;exact h2
end
def Zy(q:Int):aA->Int->Int
 |[],_=> -1
 |c::l,i=>if(c.toNat:Int)=q then i+1 else if(c.toNat:Int)=10 then -1 else if(c.toNat:Int)=92 then(match l with
   |[]=> -1
   |d::l'=>if(d.toNat:Int)=10 then -1 else Zy q l' (i+2)) else Zy q l (i+1)
def XR(q:Int)(c:UInt8)(l:aA)(i:Int):Zy q (c::l) i=if(c.toNat:Int)=q then i+1 else if(c.toNat:Int)=10 then -1 else if(c.toNat:Int)=92 then(match l with
   |[]=> -1
   |d::l'=>if(d.toNat:Int)=10 then -1 else Zy q l' (i+2)) else Zy q l (i+1):=by
 cases l with
 |nil=>simp[Zy]
 |cons d l=>simp[Zy]
def hdI:aA->Int
 |[]=> -1
 |d::_=>(d.toNat:Int)
def quoted(s:aA)(a q:Int):Int:=if G7 s a=q then Zy q (s.drop (a+1).toNat) (a+1) else -1
def aoU{s:aA}(h:s.length<=1048576)(q:Int)(hq:q≠10):∀(n:Nat) (rest pre:aA),rest.length<=n->s=pre++rest->
  (∃r,M.qj s q (pre.length:Int)=some r∧(qR r some λu=>letE u λ_=>some (-1))=some (Zy q rest (pre.length:Int)))∧
  (∃r,M.oJ s q (pre.length:Int)=some r∧(qR r some λu=>letE u λ_=>some (-1))=some (Zy q rest (pre.length:Int)))
 |n,[],pre,hn,e=>by
  have hl:pre.length=s.length:=by rw[e];simp
  constructor
  ·refine⟨.inr (pre.length:Int), ?_,rfl⟩;rw[M.qj];refine dP ?_;simp only[M.uK,M.qh];rw[qN (by omega),cu]
  ·refine⟨.inr (pre.length:Int), ?_,rfl⟩;rw[M.oJ];refine dP ?_;simp only[M.sK,M.oK];rw[qN (by omega),cu]
 |0,c::rest,pre,hn,e=>by simp at hn
 |n+1,c::rest,pre,hn,e=>by
  simp only[ng] at hn;have hl:s.length=pre.length+(rest.length+1):=by rw[e];simp
  have hget:s[pre.length]? =some c:=by rw[e,List.getElem?_append_right (Nat.le_refl _),Nat.sub_self];rfl
  have hc:=ahz c;have hw:i64.wrap ((c.toNat:Nat):Int)=(c.toNat:Int):=aC (by omega) (by omega);have hw1:i64.wrap ((pre.length:Int)+1)=((pre.length+1:Nat):Int):=by rw[aC (by omega) (by omega)];omega
  have hw2:i64.wrap (((pre.length+1:Nat):Int)+1)=((pre.length+2:Nat):Int):=by rw[aC (by omega) (by omega)];omega
  have hnext:G7 s ((pre.length+1:Nat):Int)=hdI rest:=by rw[KA,e,List.getElem?_append_right (by omega),show pre.length+1 - pre.length=1 by omega];cases rest<;>rfl
  have hS:M.uK s q (pre.length:Int)=some (if(c.toNat:Int)=q then .inr (.inl ((pre.length+1:Nat):Int)) else if(c.toNat:Int)=10 then .inr (.inl (-1)) else if(c.toNat:Int)=92 then
    (if G7 s ((pre.length+1:Nat):Int)=10 then .inr (.inl (-1)) else .inl ((pre.length+2:Nat):Int)) else .inl ((pre.length+1:Nat):Int)):=by
   simp only[M.uK,M.qh,bU,hget,ah,hw,hw1,hw2,IX h];rw[zdt (by omega),aT]
   by_cases c1:(c.toNat:Int)=q
   ·rw[if_pos c1,show((c.toNat:Int)==q)=true by simpa using c1,aT]
   ·rw[if_neg c1,show((c.toNat:Int)==q)=false by simpa using c1,cu]
    by_cases c2:(c.toNat:Int)=10
    ·rw[if_pos c2,show((c.toNat:Int)==10)=true by simpa using c2,aT]
    ·rw[if_neg c2,show((c.toNat:Int)==10)=false by simpa using c2,cu]
     by_cases c3:(c.toNat:Int)=92
     ·rw[if_pos c3,show((c.toNat:Int)==92)=true by simpa using c3,aT]
      by_cases c4:G7 s ((pre.length+1:Nat):Int)=10
      ·rw[if_pos c4,c4];rfl
      ·rw[if_neg c4,show(G7 s ((pre.length+1:Nat):Int)==10)=false by simpa using c4,cu]
     ·rw[if_neg c3,show((c.toNat:Int)==92)=false by simpa using c3,cu]
  have hI:M.sK s q (pre.length:Int)=some (if(c.toNat:Int)=10 then .inr (.inr (pre.length:Int)) else if(c.toNat:Int)=q then .inr (.inl ((pre.length+1:Nat):Int)) else if(c.toNat:Int)=92 then
    (if G7 s ((pre.length+1:Nat):Int)=10 then .inl ((pre.length+1:Nat):Int) else .inl ((pre.length+2:Nat):Int)) else .inl ((pre.length+1:Nat):Int)):=by
   simp only[M.sK,M.oK,bU,hget,ah,hw,hw1,hw2,IY h];rw[zdt (by omega),aT]
   by_cases c2:(c.toNat:Int)=10
   ·rw[if_pos c2,show((c.toNat:Int) !=10)=false by simpa using c2,cu]
   ·rw[if_neg c2,show((c.toNat:Int) !=10)=true by simpa using c2,aT]
    by_cases c1:(c.toNat:Int)=q
    ·rw[if_pos c1,show((c.toNat:Int)==q)=true by simpa using c1,aT]
    ·rw[if_neg c1,show((c.toNat:Int)==q)=false by simpa using c1,cu]
     by_cases c3:(c.toNat:Int)=92
     ·rw[if_pos c3,show((c.toNat:Int)==92)=true by simpa using c3,aT]
      by_cases c4:G7 s ((pre.length+1:Nat):Int)=10
      ·rw[if_pos c4,c4];rfl
      ·rw[if_neg c4,show(G7 s ((pre.length+1:Nat):Int) !=10)=true by simpa using c4,aT]
     ·rw[if_neg c3,show((c.toNat:Int)==92)=false by simpa using c3,cu]
  have e1:s=(pre++[c])++rest:=by rw[e];simp
  have ih1:=aoU h q hq n rest (pre++[c]) (by omega) e1;rw[qO,LJ] at ih1;rw[M.qj,M.oJ] at ih1⊢;rw[XR]
  by_cases c1:(c.toNat:Int)=q
  ·have c2:¬(c.toNat:Int)=10:=by omega
   rw[if_pos c1];rw[if_pos c1] at hS;rw[if_neg c2,if_pos c1] at hI;refine⟨⟨_,dP hS, ?_⟩,⟨_,dP hI, ?_⟩⟩<;>simp[qR]
  ·rw[if_neg c1];rw[if_neg c1] at hS
   by_cases c2:(c.toNat:Int)=10
   ·rw[if_pos c2];rw[if_pos c2] at hS hI;exact⟨⟨_,dP hS,rfl⟩,⟨_,dP hI,rfl⟩⟩
   ·rw[if_neg c2];rw[if_neg c2] at hS hI;rw[if_neg c1] at hI
    by_cases c3:(c.toNat:Int)=92
    ·rw[if_pos c3];rw[if_pos c3] at hS hI;cases rest with
     |nil=>
      rw[hnext,hdI] at hS hI;simp only[show¬((-1:Int)=10) by omega,if_false] at hS hI;have hend:∀(b:Int->Option (Int⊕(Int⊕Int))),True:=λ_=>trivial
      simp only[zo] at hl;refine⟨⟨.inr ((pre.length+2:Nat):Int), ?_,rfl⟩,⟨.inr ((pre.length+2:Nat):Int), ?_,rfl⟩⟩
      ·rw[gQ hS];refine dP ?_;simp only[M.uK,M.qh];rw[qN (by omega),cu]
      ·rw[gQ hI];refine dP ?_;simp only[M.sK,M.oK];rw[qN (by omega),cu]
     |cons d rest'=>
      simp only[hdI] at hnext⊢;rw[hnext] at hS hI
      by_cases c4:(d.toNat:Int)=10
      ·rw[if_pos c4];rw[if_pos c4] at hS hI;refine⟨⟨_,dP hS,rfl⟩, ?_⟩;obtain⟨r,h1,h2⟩:=ih1.2;refine⟨r,by rw[gQ hI];exact h1, ?_⟩;rw[h2,XR,if_neg (by omega),if_pos c4]
      ·rw[if_neg c4];rw[if_neg c4] at hS hI;have e2:s=(pre++[c,d])++rest':=by rw[e];simp
       simp only[ng] at hn;have ih2:=aoU h q hq n rest' (pre++[c,d]) (by omega) e2;rw[qO,show[c,d].length=2 from rfl,M.qj,M.oJ] at ih2;rw[gQ hS,gQ hI,show(pre.length:Int)+2=((pre.length+2:Nat):Int) by omega];exact ih2
    ·rw[if_neg c3];rw[if_neg c3] at hS hI;rw[gQ hS,gQ hI,show(pre.length:Int)+1=((pre.length+1:Nat):Int) by omega];exact ih1
section
variable {s:aA} (h:s.length<=1048576)
include h
theorem adt(a q:Int)(h0:0<=a)(h1:a<=1048576)(hq:0<=q)(hq2:q≠10):M.nR s a q=some (quoted s a q)∧M.mP s a q=some (quoted s a q):=by
 simp only[M.nR,M.FB,M.mP,M.ED,IX h,IY h,ah,quoted]
 by_cases hb:G7 s a=q
 ·rw[if_pos hb,show(G7 s a !=q)=false by simpa using hb,cu,cu,aC (by omega) (by omega)];obtain⟨i,rfl⟩:∃i:Nat,a=i:=⟨a.toNat,by omega⟩
  have hi:i<s.length:=by
   rcases Nat.lt_or_ge i s.length with hlt|hge
   ·exact hlt
   ·rw[KA,List.getElem?_eq_none hge] at hb;simp only at hb;omega
  obtain⟨⟨r,k1,k2⟩,⟨r',k3,k4⟩⟩:=aoU h q hq2 _ (s.drop (i+1)) (s.take (i+1)) (Nat.le_refl _) (List.take_append_drop _ s).symm;rw[PW,Nat.min_eq_left (by omega)] at k1 k2 k3 k4;rw[show(i:Int)+1=((i+1:Nat):Int) by omega,QS,k1,k3,ah,ah];exact⟨k2,k4⟩
 ·rw[if_neg hb,show(G7 s a !=q)=true by simpa using hb,aT,aT];exact⟨rfl,rfl⟩
theorem alH(a:Int)(h0:0<=a)(h1:a<=1048576):M.zF s a=some (quoted s a 34)∧M.zK s a=some (quoted s a 34):=by have:=adt h a 34 h0 h1 (by omega) (by omega);simp only[M.zF,M.JQ,M.zK,M.J8,this.1,this.2,ah];constructor<;>first|rfl|trivial
def Vh(s:aA)(a:Int):Int:=bif quoted s a 47==a+2 then -1 else quoted s a 47
theorem alI(a:Int)(h0:0<=a)(h1:a<=1048576):M.zG s a=some (Vh s a)∧M.zL s a=some (Vh s a):=by have:=adt h a 47 h0 h1 (by omega) (by omega);simp only[M.zG,M.JR,M.zL,M.J9,this.1,this.2,ah,Vh];rw[aC (by omega) (by omega)];cases quoted s a 47==a+2<;>simp
end
end Go.Proofs.YtbgadfelmhoheaaGreatDoor
namespace Go.Proofs.YtbgadfelmhoheaaGreatDoor
set_option linter.unusedVariables false
set_option linter.unusedSimpArgs false
set_option linter.unusedSectionVars false
open Go Go.Vm
open Go.IntKind (i64)
@[simp] theorem kR(l:List (aA)):(encS l).length=l.length:=by simp[encS]
@[simp] theorem IZ(l:List (aA))(i:Nat):(encS l)[i]? =(l[i]?).map λs=>[D.str s]:=by simp[encS]
def cS0(s:aA):cStr [D.str s] 0=some s:=rfl
def strsOf:Row->List (aA)
 |[]=>[]
 | .str s::r=>s::strsOf r
 |_::r=>strsOf r
def QO:List (aA):=strsOf zx
def OI:List (aA):=strsOf Nl
def aeI:List (aA):=strsOf GU
def GY(s:aA):List (aA)->Int->Int
 |[],_=> -1
 |x::l,i=>if x==s then i else GY s l (i+1)
def YV(s:aA):∀(l:List (aA)) (i:Int),0<=i-> -1<=GY s l i∧GY s l i<i+l.length
 |[],i,h=>by simp[GY];omega
 |x::l,i,h=>by
  rw[GY];split
  ·simp;omega
  ·have:=YV s l (i+1) (by omega);simp only[ng];omega
def adu(s:aA)(l:List (aA))(hl:l.length<=1048576){b:Int->Option (Int⊕(Int⊕Int))}
  (hb:∀(i:Nat) x,l[i]? =some x->b (i:Int)=some (if x==s then .inr (.inl (i:Int)) else .inl ((i:Int)+1))) (he:b (l.length:Int)=some (.inr (.inr (l.length:Int)))):
  ∃r,eF b 0=some r∧(qR r some λu=>letE u λ_=>some (-1))=some (GY s l 0):=by
 have key:∀(t:List (aA)) (i:Nat),l.drop i=t->i<=l.length->∃r,eF b (i:Int)=some r∧(qR r some λu=>letE u λ_=>some (-1))=some (GY s t (i:Int)):=by
  intro t;induction t with
  |nil=>
   intro i hd hi;have:i=l.length:=by have:=congrArg List.length hd;simp at this;omega
   subst this;exact⟨_,dP he,rfl⟩
  |cons x t ih=>
   intro i hd hi;have hx:l[i]? =some x:=by
    have:(l.drop i)[0]? =some x:=by rw[hd];rfl
    simpa using this
   have hlt:i<l.length:=(G9.1 hx).1;have hd':l.drop (i+1)=t:=by rw[<-List.drop_drop,hd];rfl
   have hs:=hb i x hx;rw[GY];cases hxs:x==s with
   |true=>rw[hxs] at hs;exact⟨_,dP hs,rfl⟩
   |false=>
    rw[hxs] at hs;obtain⟨r,h1,h2⟩:=ih (i+1) hd' hlt;refine⟨r, ?_, ?_⟩
    ·rw[gQ hs,show(i:Int)+1=((i+1:Nat):Int) by omega];exact h1
    ·rw[h2];simp
 exact key l 0 rfl (Nat.zero_le _)
def adw(s:aA)(l:List (aA))(hl:l.length<=1048576):M.tJ (encS l) s=some (GY s l 0):=by
 obtain⟨r,h1,h2⟩:=adu s l hl (b:=M.Ed (encS l) s)
  (λi x hx=>by have hi:=(G9.1 hx).1;simp only[M.Ed,M.yN,kR,bU,IZ,hx,He,ah,cS0];rw[zdt (by omega),aT,aC (by omega) (by omega)];cases x==s<;>rfl)
  (by simp only[M.Ed,M.yN,kR];rw[qN (by omega),cu])
 simp only[M.tJ,M.JK,M.Ia];rw[h1,ah];exact h2
def abr(s:aA)(l:List (aA))(hl:l.length<=1048576):M.slices_Index (encS l) s=some (GY s l 0):=by
 obtain⟨r,h1,h2⟩:=adu s l hl (b:=M.CG (encS l) s (l.length:Int))
  (λi x hx=>by have hi:=(G9.1 hx).1;simp only[M.CG,M.xk,bU,IZ,hx,He,ah,cS0];rw[zdt (by omega),aT,aC (by omega) (by omega),show(s==x)=(x==s) by rw[Bool.eq_iff_iff,beq_iff_eq,beq_iff_eq];exact⟨Eq.symm,Eq.symm⟩];cases x==s<;>rfl)
  (by simp only[M.CG,M.xk];rw[qN (by omega),cu])
 simp only[M.slices_Index,M.IB,M.FW,kR];rw[h1,ah];exact h2
def aoV(s:aA):Int:=if GY s QO 0<0 then 0 else 10+GY s QO 0
def Ui(s:aA):Bool:=decide (GY s aeI 0>=0)
def ahC:M.sU=some (encS QO):=rfl
def ahD:M.rX=some (encS aeI):=rfl
def ahE:M.sV=some (encS OI):=rfl
def avL:List.map (λx=>[x]) zx=encS QO:=rfl
def aqZ:List.map (λx=>[x]) GU=encS aeI:=rfl
def aeJ(s:aA):M.qV s=some (aoV s)∧M.qZ s=some (aoV s):=by
 have hr:=YV s QO 0 (by omega);have hl:QO.length=17:=rfl;simp only[M.qV,M.Ee,M.qZ,M.Ew,ahC,avL,ah,adw s QO (by rw[hl];omega),abr s QO (by rw[hl];omega),aoV]
 by_cases h:GY s QO 0<0
 ·rw[zdt h,aT,if_pos h];exact⟨rfl,rfl⟩
 ·rw[qN h,cu,if_neg h,aC (by omega) (by omega)];exact⟨rfl,rfl⟩
def Me(s:aA):M.jL s=some (Ui s)∧M.kL s=some (Ui s):=by have hl:aeI.length=21:=rfl;simp only[M.jL,M.Ef,M.kL,M.Ez,M.slices_Contains,M.xq,ahD,aqZ,ah,adw s aeI (by rw[hl];omega),abr s aeI (by rw[hl];omega),Ui];constructor<;>first|rfl|trivial
def isL(b:Int):Bool:=(decide (b>=97) && decide (b<=122))||((decide (b>=65) && decide (b<=90))||(b==95))
def isW(b:Int):Bool:=isL b||isD b
def YW(b:Int):M.nP b=some (isL b)∧M.nU b=some (isL b):=by simp only[M.nP,M.Fq,M.aV,M.wM,M.nU,M.FV,isL];cases decide (b>=97)<;>cases decide (b<=122)<;>cases decide (b>=65)<;>cases decide (b<=90)<;>cases(b==95)<;>exact⟨rfl,rfl⟩
def KC(b:Int):M.jl b=some (isW b)∧M.jm b=some (isW b):=by simp only[M.jl,M.BR,M.jm,M.Cm,YW,ahA,ahB,ah,isW];cases isL b<;>cases isD b<;>exact⟨rfl,rfl⟩
def ajn(s:aA):Bool:=s.all λc=>isW (c.toNat:Int)
def aP7:aA->Bool
 |[]=>false
 |c::_=>isL (c.toNat:Int)
def MK(s:aA):Bool:=ajn s &&((decide ((s.length:Int)>=1) && decide ((s.length:Int)<=12)) && aP7 s)
def abt(s:aA){b:Int->Option (Int⊕(Unit⊕Int))}
  (hb:∀(i:Nat) c,s[i]? =some c->b (i:Int)=some (bif isW (c.toNat:Int) then .inl ((i:Int)+1) else .inr (.inl ()))) (he:b (s.length:Int)=some (.inr (.inr (s.length:Int)))):
  eF b 0=some (bif ajn s then .inr (s.length:Int) else .inl ()):=by
 have key:∀(t:aA) (i:Nat),s.drop i=t->i<=s.length->eF b (i:Int)=some (bif ajn t then .inr (s.length:Int) else .inl ()):=by
  intro t;induction t with
  |nil=>
   intro i hd hi;have:i=s.length:=by have:=congrArg List.length hd;simp at this;omega
   subst this;exact dP he
  |cons x t ih=>
   intro i hd hi;have hx:s[i]? =some x:=by
    have:(s.drop i)[0]? =some x:=by rw[hd];rfl
    simpa using this
   have hlt:i<s.length:=(G9.1 hx).1;have hd':s.drop (i+1)=t:=by rw[<-List.drop_drop,hd];rfl
   have hs:=hb i x hx;rw[ajn,List.all_cons];cases hw:isW (x.toNat:Int) with
   |true=>rw[hw,aT] at hs;rw[gQ hs,show(i:Int)+1=((i+1:Nat):Int) by omega,ih (i+1) hd' hlt,Bool.true_and];rfl
   |false=>rw[hw,cu] at hs;rw[dP hs];rfl
 exact key s 0 rfl (Nat.zero_le _)
def aeK(s:aA)(h:s.length<=1048576):M.qU s=some (MK s)∧M.qY s=some (MK s):=by
 have hw:∀c:UInt8,i64.wrap ((c.toNat:Nat):Int)=(c.toNat:Int):=λc=>by have:=ahz c;exact aC (by omega) (by omega)
 have h1:=abt s (b:=M.yw s)
  (λi c hc=>by have hi:=(G9.1 hc).1;simp only[M.yw,M.sD,bU,hc,ah,hw,KC];rw[zdt (by omega),aT,aC (by omega) (by omega)];cases isW (c.toNat:Int)<;>rfl)
  (by simp only[M.yw,M.sD];rw[qN (by omega),cu])
 have h2:=abt s (b:=M.yC s (s.length:Int))
  (λi c hc=>by have hi:=(G9.1 hc).1;simp only[M.yC,M.sJ,bU,hc,ah,hw,KC];rw[zdt (by omega),aT,aC (by omega) (by omega)];cases isW (c.toNat:Int)<;>rfl)
  (by simp only[M.yC,M.sJ];rw[qN (by omega),cu])
 simp only[M.qU,M.Ec,M.qY,M.Eu,M.BU,M.CB,M.aV,M.wM,M.bG,M.xY];rw[h1,h2,ah,ah,MK];cases ajn s with
 |false=>exact⟨rfl,rfl⟩
 |true=>
  simp only[aT,qR,letE,Bool.true_and];cases s with
  |nil=>exact⟨rfl,rfl⟩
  |cons c l=>have hi:idx (c::l) 0=some c:=rfl;simp only[hi,ah,hw,YW];cases decide (((c::l).length:Int)>=1)<;>cases decide (((c::l).length:Int)<=12)<;>exact⟨rfl,rfl⟩
def EY(s:aA):Bool:=MK s &&((aoV s==0) && !(Ui s))
def Tj(s:aA)(h:s.length<=1048576):M.iF s=some (EY s)∧M.jc s=some (EY s):=by have h1:=aeK s h;simp only[M.iF,M.JL,M.jc,M.J5,h1.1,h1.2,aeJ,Me,ah,EY];cases MK s<;>cases aoV s==0<;>cases Ui s<;>exact⟨rfl,rfl⟩
end Go.Proofs.YtbgadfelmhoheaaGreatDoor
namespace Go.Proofs.YtbgadfelmhoheaaGreatDoor
set_option linter.unusedVariables false
set_option linter.unusedSimpArgs false
set_option linter.unusedSectionVars false
open Go Go.Vm
open Go.IntKind (i64)
def aEU(c:UInt8)(n:Nat)(h:n<256):(((c.toNat:Nat):Int)==(n:Int))=(c==UInt8.ofNat n):=by
 rw[Bool.eq_iff_iff,beq_iff_eq,beq_iff_eq];constructor
 ·intro e;apply UInt8.toNat_inj.1;rw[UInt8.toNat_ofNat',Nat.mod_eq_of_lt h];omega
 ·rintro rfl;rw[UInt8.toNat_ofNat',Nat.mod_eq_of_lt h]
def hasB(c:UInt8)(s:aA):Bool:=s.any (· ==c)
def alJ(s:aA)(c:UInt8):decide (0<=Lib.indexByte s c)=hasB c s:=by
 have hge:=Lib.indexByte_ge s c;rw[Bool.eq_iff_iff,decide_eq_true_eq,hasB,List.any_eq_true];constructor
 ·intro h;obtain⟨i,hi⟩:∃i:Nat,Lib.indexByte s c=i:=⟨(Lib.indexByte s c).toNat,by omega⟩
  exact⟨c,Gy (Lib.indexByte_some hi).1,by simp⟩
 ·rintro⟨x,hx,hc⟩;have:=beq_iff_eq.1 hc;subst this;rcases Int.lt_or_le (Lib.indexByte s x) 0 with h|h
  ·obtain⟨i,hi⟩:=List.mem_iff_getElem?.1 hx;exact absurd hi (Lib.indexByte_none (by omega) i)
  ·exact h
def ahF(s:aA)(h:s.length<=1000000000):M.lQ s=some (!(hasB 10 s)):=by
 have key:∀(t:aA) (i:Nat),s.drop i=t->i<=s.length->eF (M.wR s) (i:Int)=some (bif hasB 10 t then .inl () else .inr (s.length:Int)):=by
  intro t;induction t with
  |nil=>
   intro i hd hi;have:i=s.length:=by have:=congrArg List.length hd;simp at this;omega
   subst this;refine dP ?_;simp only[M.wR,M.wQ];rw[qN (by omega),cu];rfl
  |cons x t ih=>
   intro i hd hi;have hx:s[i]? =some x:=by
    have:(s.drop i)[0]? =some x:=by rw[hd];rfl
    simpa using this
   have hlt:i<s.length:=(G9.1 hx).1;have hd':s.drop (i+1)=t:=by rw[<-List.drop_drop,hd];rfl
   have hs:M.wR s (i:Int)=some (bif x==10 then .inr (.inl ()) else .inl ((i:Int)+1)):=by simp only[M.wR,M.wQ,bU,hx,ah];rw[zdt (by omega),aT,show(10:Int)=((10:Nat):Int) from rfl,aEU _ _ (by omega),aC (by omega) (by omega),show(x==UInt8.ofNat 10)=(x==10) from rfl];cases x==10<;>rfl
   rw[hasB,List.any_cons];cases hc:x==10 with
   |true=>rw[hc,aT] at hs;rw[dP hs];rfl
   |false=>rw[hc,cu] at hs;rw[gQ hs,show(i:Int)+1=((i+1:Nat):Int) by omega,ih (i+1) hd' hlt,Bool.false_or];rfl
 have:=key s 0 rfl (Nat.zero_le _);rw[rG] at this;simp only[M.lQ,M.Ic,M.Fv];rw[this,ah];cases hasB 10 s<;>rfl
def aq0:∀i,i<17->cStr zx i=QO[i]? :=by decide+kernel
def akw:∀i,i<39->cStr Nl i=OI[i]? :=by decide+kernel
def spell(k:Int):aA:=if k=1 then[10] else if 10<=k∧k<=26 then QO[(k - 10).toNat]?.getD [] else if 30<=k∧k<=68 then OI[(k - 30).toNat]?.getD [] else[]
def lG(k:Int)(hk:I64 k):M.iC k=some (spell k)∧M.fD k=some (spell k):=by
 have l1:QO.length=17:=rfl;have l2:OI.length=39:=rfl;simp only[M.iC,M.Ie,M.fD,M.IC,M.ny,M.xu,M.fJ,M.xw,M.bG,M.xY,M.aV,M.wM,ahC,ahE,ah,spell]
 by_cases h1:k=1
 ·subst h1;exact⟨rfl,rfl⟩
 ·rw[show(k==1)=false by simpa using h1,cu,cu,if_neg h1]
  by_cases h2:10<=k∧k<=26
  ·obtain⟨i,hi⟩:∃i:Nat,k=10+i:=⟨(k - 10).toNat,by omega⟩
   have hw:i64.wrap (k - 10)=(i:Int):=by rw[aC (by omega) (by omega)];omega
   obtain⟨x,hx⟩:∃x,QO[i]? =some x:=⟨QO[i]'(by omega),by simp⟩
   rw[if_pos h2,zdt (show k>=10 by omega),aT,zdt (show k<=26 by omega),hw,zdt (show(0:Int)<=(i:Int) by omega),zdt (show(i:Int)<17 by omega)];simp only[ah,aT,bU,QS,IZ,hx,He,cS0,Bool.and_self,Nat.zero_add,Nat.mul_one,aq0 i (by omega)];rw[show(k - 10).toNat=i by omega,hx];exact⟨rfl,rfl⟩
  ·have hf:(bif decide (k>=10) then some (decide (k<=26)) else some false)=some false:=by
    by_cases h3:k>=10
    ·rw[zdt h3,aT,qN (by omega)]
    ·rw[qN h3,cu]
   rw[if_neg h2,hf];simp only[ah,cu]
   by_cases h4:30<=k∧k<=68
   ·obtain⟨i,hi⟩:∃i:Nat,k=30+i:=⟨(k - 30).toNat,by omega⟩
    have hw:i64.wrap (k - 30)=(i:Int):=by rw[aC (by omega) (by omega)];omega
    obtain⟨x,hx⟩:∃x,OI[i]? =some x:=⟨OI[i]'(by omega),by simp⟩
    rw[if_pos h4,zdt (show k>=30 by omega),aT,zdt (show k<=68 by omega),hw,zdt (show(0:Int)<=(i:Int) by omega),zdt (show(i:Int)<39 by omega)];simp only[ah,aT,bU,QS,IZ,hx,He,cS0,Bool.and_self,Nat.zero_add,Nat.mul_one,akw i (by omega)];rw[show(k - 30).toNat=i by omega,hx];exact⟨rfl,rfl⟩
   ·have hf:(bif decide (k>=30) then some (decide (k<=68)) else some false)=some false:=by
     by_cases h3:k>=30
     ·rw[zdt h3,aT,qN (by omega)]
     ·rw[qN h3,cu]
    rw[if_neg h4,hf];exact⟨rfl,rfl⟩
def KD(k:Int)(s:aA):Bool:=bif s==[] then false else
 bif k==2 then(G7 s 0==35) && !(hasB 10 s) else bif k==3 then RU s 0==(s.length:Int) else bif k==4 then quoted s 0 34==(s.length:Int) else bif k==5 then Vh s 0==(s.length:Int) else
 bif k==6 then EY s else bif k==7 then EY s else bif k==8 then Ui s else s==spell k
def Qs(k:Int)(s:aA)(a:Int)(h:s.length<=1048576)(hk:I64 k):M.kE k s a=some (KD k s)∧M.mZ k s a=some (KD k s):=by
 have hn:=Tj s h;have hb:=Me s;have hst:=alH h 0 (by omega) (by omega);have her:=alI h 0 (by omega) (by omega);have hsp:=lG k hk;have hct:M.strings_Contains s [10]=some (hasB 10 s):=by rw[M.strings_Contains,alJ]
 simp only[M.kE,M.Ig,M.mZ,M.IE,hn.1,hn.2,hb.1,hb.2,hst.1,hst.2,her.1,her.2,hsp.1,hsp.2,hct,ahF s (by omega),abq h 0 (by omega),abp h 0 (by omega),ah,KD];cases s with
 |nil=>refine⟨?_,rfl⟩;have q1:EY []=false:=rfl;have q2:Ui []=false:=rfl;have q3:(quoted [] 0 34==(([]:aA).length:Int))=false:=rfl;have q4:(Vh [] 0==(([]:aA).length:Int))=false:=rfl;rw[q1,q2,q3,q4];cases k==2<;>cases k==3<;>cases k==4<;>cases k==5<;>cases k==6<;>cases k==7<;>cases k==8<;>rfl
 |cons c l=>
  have hi:idx (c::l) 0=some c:=rfl;have hb0:G7 (c::l) 0=(c.toNat:Int):=rfl;have hne:((c::l:aA)==[])=false:=rfl;have hgt:decide (((c::l).length:Int)>0)=true:=by simp
  have hsw:(spell k==c::l)=(c::l==spell k):=by rw[Bool.eq_iff_iff,beq_iff_eq,beq_iff_eq];exact⟨Eq.symm,Eq.symm⟩
  rw[hi,hb0,hne,hgt,hsw];simp only[ah,aT,cu,Bool.not_false];cases k==2<;>cases k==3<;>cases k==4<;>cases k==5<;>cases k==6<;>cases k==7<;>cases k==8<;>cases(c.toNat:Int)==35<;>exact⟨rfl,rfl⟩
end Go.Proofs.YtbgadfelmhoheaaGreatDoor
namespace Go.Proofs.YtbgadfelmhoheaaGreatDoor
set_option linter.unusedVariables false
set_option linter.unusedSimpArgs false
set_option linter.unusedSectionVars false
open Go Go.Vm
open Go.IntKind (i64)
def dU(x a b:Int):M.aV x a b=some (decide (x>=a) && decide (x<=b)):=by simp only[M.aV,M.wM];cases decide (x>=a)<;>rfl
def bQ(x a b:Int):M.bG x a b=some (decide (x>=a) && decide (x<=b)):=dU x a b
def YX(op:Int):Bool:=op==60||op==57||op==58||op==59||op==55||op==56||op==99||op==63||op==48||op==47||op==50||op==62||op==49||op==67||op==46||op==45||op==44
def uV(op:Int):M.sS op=some (YX op)∧∃lv,M.kV op=some lv∧(lv !=0)=YX op:=by
 by_cases h44:op=44
 ·subst h44;exact⟨rfl,_,rfl,rfl⟩
 have e44:(op==44)=false:=by simpa using h44
 by_cases h45:op=45
 ·subst h45;exact⟨rfl,_,rfl,rfl⟩
 have e45:(op==45)=false:=by simpa using h45
 by_cases h67:op=67
 ·subst h67;exact⟨rfl,_,rfl,rfl⟩
 have e67:(op==67)=false:=by simpa using h67
 by_cases h46:op=46
 ·subst h46;exact⟨rfl,_,rfl,rfl⟩
 have e46:(op==46)=false:=by simpa using h46
 by_cases h63:op=63
 ·subst h63;exact⟨rfl,_,rfl,rfl⟩
 have e63:(op==63)=false:=by simpa using h63
 by_cases h48:op=48
 ·subst h48;exact⟨rfl,_,rfl,rfl⟩
 have e48:(op==48)=false:=by simpa using h48
 by_cases h47:op=47
 ·subst h47;exact⟨rfl,_,rfl,rfl⟩
 have e47:(op==47)=false:=by simpa using h47
 by_cases h50:op=50
 ·subst h50;exact⟨rfl,_,rfl,rfl⟩
 have e50:(op==50)=false:=by simpa using h50
 by_cases h62:op=62
 ·subst h62;exact⟨rfl,_,rfl,rfl⟩
 have e62:(op==62)=false:=by simpa using h62
 by_cases h49:op=49
 ·subst h49;exact⟨rfl,_,rfl,rfl⟩
 have e49:(op==49)=false:=by simpa using h49
 by_cases h99:op=99
 ·subst h99;exact⟨rfl,_,rfl,rfl⟩
 have e99:(op==99)=false:=by simpa using h99
 by_cases h55:op=55
 ·subst h55;exact⟨rfl,_,rfl,rfl⟩
 have e55:(op==55)=false:=by simpa using h55
 by_cases h56:op=56
 ·subst h56;exact⟨rfl,_,rfl,rfl⟩
 have e56:(op==56)=false:=by simpa using h56
 by_cases h57:op=57
 ·subst h57;exact⟨rfl,_,rfl,rfl⟩
 have e57:(op==57)=false:=by simpa using h57
 by_cases h58:op=58
 ·subst h58;exact⟨rfl,_,rfl,rfl⟩
 have e58:(op==58)=false:=by simpa using h58
 by_cases h59:op=59
 ·subst h59;exact⟨rfl,_,rfl,rfl⟩
 have e59:(op==59)=false:=by simpa using h59
 by_cases h60:op=60
 ·subst h60;exact⟨rfl,_,rfl,rfl⟩
 have e60:(op==60)=false:=by simpa using h60
 simp only[M.sS,M.H8,M.kV,M.DI,YX,e44,e45,e67,e46,e63,e48,e47,e50,e62,e49,e99,e55,e56,e57,e58,e59,e60,cu,Bool.or_self];exact⟨trivial,0,rfl,rfl⟩
def YZ(op:Int):Bool:=op==54||(decide (op>=38) && decide (op<=43))
def lH(op:Int):M.mY op=some (YZ op)∧M.tV op=some (YZ op):=by simp only[M.mY,M.BQ,M.tV,M.FX,dU,bQ,ah,YZ];cases op==54<;>exact⟨rfl,rfl⟩
def RV(s:aA)(l:List (aA))(hl:l.length<=1048576):M.slices_Contains (encS l) s=some (decide (GY s l 0>=0)):=by simp only[M.slices_Contains,M.xq,abr s l hl,ah]
def Bz:([[D.str []],[D.str [62]],[D.str [62,62]],[D.str [124]]]:au)=encS [[],[62],[62,62],[124]]:=rfl
def Vj(s:aA):decide (GY s [[],[62],[62,62],[124]] 0>=0)=(s==[]||(s==[62]||(s==[62,62]||s==[124]))):=by
 have sw:∀a b:aA,(a==b)=(b==a):=λa b=>by rw[Bool.eq_iff_iff,beq_iff_eq,beq_iff_eq];exact⟨Eq.symm,Eq.symm⟩
 simp only[GY,sw _ s];cases s==[]<;>cases s==[62]<;>cases s==[62,62]<;>cases s==[124]<;>rfl
def FOk(k op:Int)(t o:aA)(kids:au):Prop:=∃b,M.aB k op t o kids=some b∧M.fO k op t o kids=some b
def aq1(k:Int)(op:Int)(t o:aA)(kids:au)(ht:t.length<=1048576)(ho:o.length<=1048576)(hk:kids.length<=400)(hkk:k=1∨k=2∨k=3∨k=4∨k=5∨k=6∨k=7∨k=8∨k=9∨k=10∨k=11∨k=12∨k=13∨k=14∨k=15∨k=16∨k=20∨k=22∨k=23∨k=24∨k=25∨k=26∨k=27∨k=28∨k=29∨k=30∨k=31∨k=32∨k=33∨k=34∨k=40∨k=41∨k=44∨k=45):FOk k op t o kids:=by
 have hn:=Tj t ht;have hn2:=Tj o ho;have hb:=Me t;have ha:=lH op;obtain⟨hi,lv,hlv,hi2⟩:=uV op;have tk:=λk hk=>Qs k t 0 ht hk
 have tk2:=tk 2 ⟨by omega,by omega⟩;have tk3:=tk 3 ⟨by omega,by omega⟩;have tk4:=tk 4 ⟨by omega,by omega⟩;have tk5:=tk 5 ⟨by omega,by omega⟩;have hc2:fQ IntKind.i64 [D.int IntKind.i64 3,D.int IntKind.i64 4,D.int IntKind.i64 5] (i64.wrap 0).toNat=some 3:=rfl;have d12:decide ((0:Int)<=i64.wrap 0)=true:=rfl;have d22:decide (i64.wrap 0<3)=true:=rfl;have hc3:fQ IntKind.i64 [D.int IntKind.i64 3,D.int IntKind.i64 4,D.int IntKind.i64 5] (i64.wrap 1).toNat=some 4:=rfl;have d13:decide ((0:Int)<=i64.wrap 1)=true:=rfl;have d23:decide (i64.wrap 1<3)=true:=rfl;have hc4:fQ IntKind.i64 [D.int IntKind.i64 3,D.int IntKind.i64 4,D.int IntKind.i64 5] (i64.wrap 2).toNat=some 5:=rfl;have d14:decide ((0:Int)<=i64.wrap 2)=true:=rfl;have d24:decide (i64.wrap 2<3)=true:=rfl;have z1:decide ((kids.length:Int)<=400)=true:=zdt (by omega);have z2:decide ((0:Int)<=(kids.length:Int))=true:=zdt (by omega);have z3:decide ((kids.length:Int)<=(kids.length:Int))=true:=zdt (by omega);rcases hkk with rfl|rfl|rfl|rfl|rfl|rfl|rfl|rfl|rfl|rfl|rfl|rfl|rfl|rfl|rfl|rfl|rfl|rfl|rfl|rfl|rfl|rfl|rfl|rfl|rfl|rfl|rfl|rfl|rfl|rfl|rfl|rfl|rfl|rfl<;>simp only[FOk,M.aB,M.aO,M.bK,M.bg,M.dD,M.dh,M.bI,M.bD,M.fO,M.ig,M.dI,M.jh,M.fZ,M.ji,M.iG,M.iP,M.iH,M.iQ,M.iI,M.iR,M.jH,M.jW,dU,bQ,hn.1,hn.2,hn2.1,hn2.2,hb.1,hb.2,ha.1,ha.2,hi,hlv,hi2,tk2.1,tk2.2,tk3.1,tk3.2,tk4.1,tk4.2,tk5.1,tk5.2,hc2,d12,d22,hc3,d13,d23,hc4,d14,d24,z1,z2,z3,ge_iff_le,Int.reduceBEq,Int.reduceLE,Int.reduceSub,decide_true,decide_false,aT,cu,Bool.and_true,Bool.and_false,Bool.true_and,Bool.false_and,ah]
 ·cases(op==0)<;>cases(EY t)<;>cases(o==[])<;>exact⟨_,rfl,rfl⟩
 ·cases(op==0)<;>cases(KD 3 t)<;>cases(o==[])<;>exact⟨_,rfl,rfl⟩
 ·cases(op==0)<;>cases(KD 4 t)<;>cases(o==[])<;>exact⟨_,rfl,rfl⟩
 ·cases(op==0)<;>cases(KD 5 t)<;>cases(o==[])<;>exact⟨_,rfl,rfl⟩
 ·cases(op==0)<;>cases(EY t)<;>cases(o==[])<;>exact⟨_,rfl,rfl⟩
 ·cases(op==0)<;>cases(t==[])<;>cases(o==[])<;>exact⟨_,rfl,rfl⟩
 ·cases(op==0)<;>cases(EY t)<;>cases(o==[])<;>exact⟨_,rfl,rfl⟩
 ·cases(op==0)<;>cases(Ui t)<;>cases(o==[])<;>exact⟨_,rfl,rfl⟩
 ·cases(op==51)<;>cases(op==52)<;>cases(t==[])<;>cases(o==[])<;>exact⟨_,rfl,rfl⟩
 ·cases(op==51)<;>cases(op==52)<;>cases(t==[])<;>cases(o==[])<;>exact⟨_,rfl,rfl⟩
 ·cases(op==55)<;>cases(op==56)<;>cases(op==61)<;>cases(t==[])<;>cases(o==[])<;>exact⟨_,rfl,rfl⟩
 ·cases(YX op)<;>cases(t==[])<;>cases(o==[])<;>exact⟨_,rfl,rfl⟩
 ·cases(op==0)<;>cases(EY t)<;>cases(o==[])<;>exact⟨_,rfl,rfl⟩
 ·cases(op==0)<;>cases(t==[])<;>cases(o==[])<;>exact⟨_,rfl,rfl⟩
 ·cases(YZ op)<;>cases(t==[])<;>cases(o==[])<;>exact⟨_,rfl,rfl⟩
 ·cases(op==0)<;>cases(t==[])<;>cases(o==[])<;>exact⟨_,rfl,rfl⟩
 ·cases(op==0)<;>cases(t==[])<;>cases(o==[])<;>exact⟨_,rfl,rfl⟩
 ·cases(op==0)<;>cases(t==[])<;>cases(o==[])<;>exact⟨_,rfl,rfl⟩
 ·cases(op==0)<;>cases(t==[])<;>cases(o==[])<;>exact⟨_,rfl,rfl⟩
 ·cases(op==0)<;>cases(t==[])<;>cases(o==[])<;>exact⟨_,rfl,rfl⟩
 ·cases(op==0)<;>cases(t==[])<;>cases(o==[])<;>exact⟨_,rfl,rfl⟩
 ·cases(op==0)<;>cases(t==[])<;>cases(o==[])<;>exact⟨_,rfl,rfl⟩
 ·cases(op==0)<;>cases(EY t)<;>cases(o==[])<;>exact⟨_,rfl,rfl⟩
 ·cases(op==0)<;>cases(t==[])<;>cases(o==[])<;>exact⟨_,rfl,rfl⟩
 ·cases(op==0)<;>cases(t==[])<;>cases(o==[])<;>exact⟨_,rfl,rfl⟩
 ·cases(op==0)<;>cases(t==[])<;>cases(o==[])<;>exact⟨_,rfl,rfl⟩
 ·cases(op==0)<;>cases(t==[])<;>cases(o==[])<;>exact⟨_,rfl,rfl⟩
 ·cases(op==0)<;>cases(EY t)<;>cases(EY o)<;>exact⟨_,rfl,rfl⟩
 ·cases(op==0)<;>cases(t==[])<;>cases(o==[])<;>exact⟨_,rfl,rfl⟩
 ·cases(op==0)<;>cases(KD 2 t)<;>cases(o==[])<;>exact⟨_,rfl,rfl⟩
 ·cases(op==0)<;>cases(t==[])<;>cases(o==[])<;>exact⟨_,rfl,rfl⟩
 ·cases(op==0)<;>cases(t==[])<;>cases(o==[])<;>exact⟨_,rfl,rfl⟩
 ·cases(op==0)<;>cases(EY t)<;>cases(o==[])<;>exact⟨_,rfl,rfl⟩
 ·cases(op==0)<;>cases(t==[])<;>cases(o==[])<;>exact⟨_,rfl,rfl⟩
def aEV(op:Int)(t o:aA)(kids:au)(ht:t.length<=1048576)(ho:o.length<=1048576)(hk:kids.length<=400):FOk 21 op t o kids:=by
 have hp:=RV o [[],[62],[62,62],[124]] (by decide);rw[Vj] at hp
 by_cases h0:op=0
 ·subst h0;simp only[FOk,M.aB,M.aO,M.bK,M.bg,M.dD,M.dh,M.bI,M.bD,M.fO,M.ig,M.dI,M.jh,M.fZ,M.ji,M.iG,M.iP,M.iH,M.iQ,M.iI,M.iR,M.jH,M.jW,dU,bQ,Bz,hp,show i64.wrap (0+1)=1 from rfl,show i64.wrap (1+1)=2 from rfl,show i64.wrap (1+i64.wrap (Int.tdiv 1 3))=1 from rfl,show i64.wrap (1+i64.wrap (Int.tdiv 2 3))=1 from rfl,show i64.wrap (1+i64.wrap (Int.tdiv 3 3))=2 from rfl,show i64.wrap (2+i64.wrap (Int.tdiv 1 3))=2 from rfl,show i64.wrap (2+i64.wrap (Int.tdiv 3 3))=3 from rfl,ge_iff_le,Int.reduceBEq,Int.reduceLE,Int.reduceSub,decide_true,decide_false,aT,cu,Bool.and_true,Bool.and_false,Bool.true_and,Bool.false_and,ah];generalize (t==[])=a0;generalize (o==[])=a1;generalize (o==[62])=a2;generalize (o==[62,62])=a3;generalize (o==[124])=a4;cases a0<;>cases a1<;>cases a2<;>cases a3<;>cases a4<;>exact⟨_,rfl,rfl⟩
 by_cases h1:op=1
 ·subst h1;simp only[FOk,M.aB,M.aO,M.bK,M.bg,M.dD,M.dh,M.bI,M.bD,M.fO,M.ig,M.dI,M.jh,M.fZ,M.ji,M.iG,M.iP,M.iH,M.iQ,M.iI,M.iR,M.jH,M.jW,dU,bQ,Bz,hp,show i64.wrap (0+1)=1 from rfl,show i64.wrap (1+1)=2 from rfl,show i64.wrap (1+i64.wrap (Int.tdiv 1 3))=1 from rfl,show i64.wrap (1+i64.wrap (Int.tdiv 2 3))=1 from rfl,show i64.wrap (1+i64.wrap (Int.tdiv 3 3))=2 from rfl,show i64.wrap (2+i64.wrap (Int.tdiv 1 3))=2 from rfl,show i64.wrap (2+i64.wrap (Int.tdiv 3 3))=3 from rfl,ge_iff_le,Int.reduceBEq,Int.reduceLE,Int.reduceSub,decide_true,decide_false,aT,cu,Bool.and_true,Bool.and_false,Bool.true_and,Bool.false_and,ah];generalize (t==[])=a0;generalize (o==[])=a1;generalize (o==[62])=a2;generalize (o==[62,62])=a3;generalize (o==[124])=a4;cases a0<;>cases a1<;>cases a2<;>cases a3<;>cases a4<;>exact⟨_,rfl,rfl⟩
 have e0:(op==0)=false:=by simpa using h0
 have e1:(op==1)=false:=by simpa using h1
 have hf:(decide ((0:Int)<=op) && decide (op<=1))=false:=by rw[Bool.and_eq_false_iff,decide_eq_false_iff_not,decide_eq_false_iff_not];omega
 simp only[FOk,M.aB,M.aO,M.bK,M.bg,M.dD,M.dh,M.bI,M.bD,M.fO,M.ig,M.dI,M.jh,M.fZ,M.ji,M.iG,M.iP,M.iH,M.iQ,M.iI,M.iR,M.jH,M.jW,dU,bQ,Bz,hp,e0,e1,hf,ge_iff_le,Int.reduceBEq,Int.reduceLE,Int.reduceSub,decide_true,decide_false,aT,cu,Bool.and_true,Bool.and_false,Bool.true_and,Bool.false_and,ah];generalize (t==[])=a0;generalize (o==[])=a1;generalize (o==[62])=a2;generalize (o==[62,62])=a3;generalize (o==[124])=a4;cases a0<;>cases a1<;>cases a2<;>cases a3<;>cases a4<;>exact⟨_,rfl,rfl⟩
def aEW(op:Int)(t o:aA)(kids:au)(ht:t.length<=1048576)(ho:o.length<=1048576)(hk:kids.length<=400):FOk 42 op t o kids:=by
 have hp:=RV o [[],[62],[62,62],[124]] (by decide);rw[Vj] at hp
 by_cases h1:op=1
 ·subst h1;simp only[FOk,M.aB,M.aO,M.bK,M.bg,M.dD,M.dh,M.bI,M.bD,M.fO,M.ig,M.dI,M.jh,M.fZ,M.ji,M.iG,M.iP,M.iH,M.iQ,M.iI,M.iR,M.jH,M.jW,dU,bQ,Bz,hp,show i64.wrap (0+1)=1 from rfl,show i64.wrap (1+1)=2 from rfl,show i64.wrap (1+i64.wrap (Int.tdiv 1 3))=1 from rfl,show i64.wrap (1+i64.wrap (Int.tdiv 2 3))=1 from rfl,show i64.wrap (1+i64.wrap (Int.tdiv 3 3))=2 from rfl,show i64.wrap (2+i64.wrap (Int.tdiv 1 3))=2 from rfl,show i64.wrap (2+i64.wrap (Int.tdiv 3 3))=3 from rfl,ge_iff_le,Int.reduceBEq,Int.reduceLE,Int.reduceSub,decide_true,decide_false,aT,cu,Bool.and_true,Bool.and_false,Bool.true_and,Bool.false_and,ah];generalize (t==[])=a0;generalize (o==[])=a1;cases a0<;>cases a1<;>exact⟨_,rfl,rfl⟩
 by_cases h2:op=2
 ·subst h2;simp only[FOk,M.aB,M.aO,M.bK,M.bg,M.dD,M.dh,M.bI,M.bD,M.fO,M.ig,M.dI,M.jh,M.fZ,M.ji,M.iG,M.iP,M.iH,M.iQ,M.iI,M.iR,M.jH,M.jW,dU,bQ,Bz,hp,show i64.wrap (0+1)=1 from rfl,show i64.wrap (1+1)=2 from rfl,show i64.wrap (1+i64.wrap (Int.tdiv 1 3))=1 from rfl,show i64.wrap (1+i64.wrap (Int.tdiv 2 3))=1 from rfl,show i64.wrap (1+i64.wrap (Int.tdiv 3 3))=2 from rfl,show i64.wrap (2+i64.wrap (Int.tdiv 1 3))=2 from rfl,show i64.wrap (2+i64.wrap (Int.tdiv 3 3))=3 from rfl,ge_iff_le,Int.reduceBEq,Int.reduceLE,Int.reduceSub,decide_true,decide_false,aT,cu,Bool.and_true,Bool.and_false,Bool.true_and,Bool.false_and,ah];generalize (t==[])=a0;generalize (o==[])=a1;cases a0<;>cases a1<;>exact⟨_,rfl,rfl⟩
 by_cases h3:op=3
 ·subst h3;simp only[FOk,M.aB,M.aO,M.bK,M.bg,M.dD,M.dh,M.bI,M.bD,M.fO,M.ig,M.dI,M.jh,M.fZ,M.ji,M.iG,M.iP,M.iH,M.iQ,M.iI,M.iR,M.jH,M.jW,dU,bQ,Bz,hp,show i64.wrap (0+1)=1 from rfl,show i64.wrap (1+1)=2 from rfl,show i64.wrap (1+i64.wrap (Int.tdiv 1 3))=1 from rfl,show i64.wrap (1+i64.wrap (Int.tdiv 2 3))=1 from rfl,show i64.wrap (1+i64.wrap (Int.tdiv 3 3))=2 from rfl,show i64.wrap (2+i64.wrap (Int.tdiv 1 3))=2 from rfl,show i64.wrap (2+i64.wrap (Int.tdiv 3 3))=3 from rfl,ge_iff_le,Int.reduceBEq,Int.reduceLE,Int.reduceSub,decide_true,decide_false,aT,cu,Bool.and_true,Bool.and_false,Bool.true_and,Bool.false_and,ah];generalize (t==[])=a0;generalize (o==[])=a1;cases a0<;>cases a1<;>exact⟨_,rfl,rfl⟩
 have e1:(op==1)=false:=by simpa using h1
 have e2:(op==2)=false:=by simpa using h2
 have e3:(op==3)=false:=by simpa using h3
 have hf:(decide ((1:Int)<=op) && decide (op<=3))=false:=by rw[Bool.and_eq_false_iff,decide_eq_false_iff_not,decide_eq_false_iff_not];omega
 simp only[FOk,M.aB,M.aO,M.bK,M.bg,M.dD,M.dh,M.bI,M.bD,M.fO,M.ig,M.dI,M.jh,M.fZ,M.ji,M.iG,M.iP,M.iH,M.iQ,M.iI,M.iR,M.jH,M.jW,dU,bQ,Bz,hp,e1,e2,e3,hf,ge_iff_le,Int.reduceBEq,Int.reduceLE,Int.reduceSub,decide_true,decide_false,aT,cu,Bool.and_true,Bool.and_false,Bool.true_and,Bool.false_and,ah];generalize (t==[])=a0;generalize (o==[])=a1;cases a0<;>cases a1<;>exact⟨_,rfl,rfl⟩
def aEX(op:Int)(t o:aA)(kids:au)(ht:t.length<=1048576)(ho:o.length<=1048576)(hk:kids.length<=400):FOk 43 op t o kids:=by
 have hp:=RV o [[],[62],[62,62],[124]] (by decide);rw[Vj] at hp
 by_cases h1:op=1
 ·subst h1;simp only[FOk,M.aB,M.aO,M.bK,M.bg,M.dD,M.dh,M.bI,M.bD,M.fO,M.ig,M.dI,M.jh,M.fZ,M.ji,M.iG,M.iP,M.iH,M.iQ,M.iI,M.iR,M.jH,M.jW,dU,bQ,Bz,hp,show i64.wrap (0+1)=1 from rfl,show i64.wrap (1+1)=2 from rfl,show i64.wrap (1+i64.wrap (Int.tdiv 1 3))=1 from rfl,show i64.wrap (1+i64.wrap (Int.tdiv 2 3))=1 from rfl,show i64.wrap (1+i64.wrap (Int.tdiv 3 3))=2 from rfl,show i64.wrap (2+i64.wrap (Int.tdiv 1 3))=2 from rfl,show i64.wrap (2+i64.wrap (Int.tdiv 3 3))=3 from rfl,ge_iff_le,Int.reduceBEq,Int.reduceLE,Int.reduceSub,decide_true,decide_false,aT,cu,Bool.and_true,Bool.and_false,Bool.true_and,Bool.false_and,ah];generalize (t==[])=a0;generalize (o==[])=a1;cases a0<;>cases a1<;>exact⟨_,rfl,rfl⟩
 by_cases h3:op=3
 ·subst h3;simp only[FOk,M.aB,M.aO,M.bK,M.bg,M.dD,M.dh,M.bI,M.bD,M.fO,M.ig,M.dI,M.jh,M.fZ,M.ji,M.iG,M.iP,M.iH,M.iQ,M.iI,M.iR,M.jH,M.jW,dU,bQ,Bz,hp,show i64.wrap (0+1)=1 from rfl,show i64.wrap (1+1)=2 from rfl,show i64.wrap (1+i64.wrap (Int.tdiv 1 3))=1 from rfl,show i64.wrap (1+i64.wrap (Int.tdiv 2 3))=1 from rfl,show i64.wrap (1+i64.wrap (Int.tdiv 3 3))=2 from rfl,show i64.wrap (2+i64.wrap (Int.tdiv 1 3))=2 from rfl,show i64.wrap (2+i64.wrap (Int.tdiv 3 3))=3 from rfl,ge_iff_le,Int.reduceBEq,Int.reduceLE,Int.reduceSub,decide_true,decide_false,aT,cu,Bool.and_true,Bool.and_false,Bool.true_and,Bool.false_and,ah];generalize (t==[])=a0;generalize (o==[])=a1;cases a0<;>cases a1<;>exact⟨_,rfl,rfl⟩
 have e1:(op==1)=false:=by simpa using h1
 have e3:(op==3)=false:=by simpa using h3
 have hf:True:=trivial;simp only[FOk,M.aB,M.aO,M.bK,M.bg,M.dD,M.dh,M.bI,M.bD,M.fO,M.ig,M.dI,M.jh,M.fZ,M.ji,M.iG,M.iP,M.iH,M.iQ,M.iI,M.iR,M.jH,M.jW,dU,bQ,Bz,hp,e1,e3,hf,ge_iff_le,Int.reduceBEq,Int.reduceLE,Int.reduceSub,decide_true,decide_false,aT,cu,Bool.and_true,Bool.and_false,Bool.true_and,Bool.false_and,ah];generalize (t==[])=a0;generalize (o==[])=a1;cases a0<;>cases a1<;>exact⟨_,rfl,rfl⟩
def ahG(k:Int)(op:Int)(t o:aA)(kids:au)(ht:t.length<=1048576)(ho:o.length<=1048576)(hk:kids.length<=400):FOk k op t o kids:=by
 by_cases hkk:k=1∨k=2∨k=3∨k=4∨k=5∨k=6∨k=7∨k=8∨k=9∨k=10∨k=11∨k=12∨k=13∨k=14∨k=15∨k=16∨k=20∨k=22∨k=23∨k=24∨k=25∨k=26∨k=27∨k=28∨k=29∨k=30∨k=31∨k=32∨k=33∨k=34∨k=40∨k=41∨k=44∨k=45
 ·exact aq1 k op t o kids ht ho hk hkk
 by_cases h21:k=21
 ·subst h21;exact aEV op t o kids ht ho hk
 by_cases h42:k=42
 ·subst h42;exact aEW op t o kids ht ho hk
 by_cases h43:k=43
 ·subst h43;exact aEX op t o kids ht ho hk
 have h1:k≠1:=by omega
 have h2:k≠2:=by omega
 have h3:k≠3:=by omega
 have h4:k≠4:=by omega
 have h5:k≠5:=by omega
 have h6:k≠6:=by omega
 have h7:k≠7:=by omega
 have h8:k≠8:=by omega
 have h9:k≠9:=by omega
 have h10:k≠10:=by omega
 have h11:k≠11:=by omega
 have h12:k≠12:=by omega
 have h13:k≠13:=by omega
 have h14:k≠14:=by omega
 have h15:k≠15:=by omega
 have h16:k≠16:=by omega
 have h20:k≠20:=by omega
 have h22:k≠22:=by omega
 have h23:k≠23:=by omega
 have h24:k≠24:=by omega
 have h25:k≠25:=by omega
 have h26:k≠26:=by omega
 have h27:k≠27:=by omega
 have h28:k≠28:=by omega
 have h29:k≠29:=by omega
 have h30:k≠30:=by omega
 have h31:k≠31:=by omega
 have h32:k≠32:=by omega
 have h33:k≠33:=by omega
 have h34:k≠34:=by omega
 have h40:k≠40:=by omega
 have h41:k≠41:=by omega
 have h44:k≠44:=by omega
 have h45:k≠45:=by omega
 have f1:(decide (k>=1) && decide (k<=16))=false:=by rw[Bool.and_eq_false_iff,decide_eq_false_iff_not,decide_eq_false_iff_not];omega
 have f2:(decide (k>=20) && decide (k<=34))=false:=by rw[Bool.and_eq_false_iff,decide_eq_false_iff_not,decide_eq_false_iff_not];omega
 have f3:(decide (k>=40) && decide (k<=45))=false:=by rw[Bool.and_eq_false_iff,decide_eq_false_iff_not,decide_eq_false_iff_not];omega
 have f4:(decide (k>=1) && decide (k<=15))=false:=by rw[Bool.and_eq_false_iff,decide_eq_false_iff_not,decide_eq_false_iff_not];omega
 have g:(k==16)=false:=by simpa using h16
 have e1:(k==1)=false:=by simpa using h1
 have e2:(k==2)=false:=by simpa using h2
 have e3:(k==3)=false:=by simpa using h3
 have e4:(k==4)=false:=by simpa using h4
 have e5:(k==5)=false:=by simpa using h5
 have e6:(k==6)=false:=by simpa using h6
 have e7:(k==7)=false:=by simpa using h7
 have e8:(k==8)=false:=by simpa using h8
 have e9:(k==9)=false:=by simpa using h9
 have e10:(k==10)=false:=by simpa using h10
 have e11:(k==11)=false:=by simpa using h11
 have e12:(k==12)=false:=by simpa using h12
 have e13:(k==13)=false:=by simpa using h13
 have e14:(k==14)=false:=by simpa using h14
 have e15:(k==15)=false:=by simpa using h15
 have e16:(k==16)=false:=by simpa using h16
 have e20:(k==20)=false:=by simpa using h20
 have e21:(k==21)=false:=by simpa using h21
 have e22:(k==22)=false:=by simpa using h22
 have e23:(k==23)=false:=by simpa using h23
 have e24:(k==24)=false:=by simpa using h24
 have e25:(k==25)=false:=by simpa using h25
 have e26:(k==26)=false:=by simpa using h26
 have e27:(k==27)=false:=by simpa using h27
 have e28:(k==28)=false:=by simpa using h28
 have e29:(k==29)=false:=by simpa using h29
 have e30:(k==30)=false:=by simpa using h30
 have e31:(k==31)=false:=by simpa using h31
 have e32:(k==32)=false:=by simpa using h32
 have e33:(k==33)=false:=by simpa using h33
 have e34:(k==34)=false:=by simpa using h34
 have e40:(k==40)=false:=by simpa using h40
 have e41:(k==41)=false:=by simpa using h41
 have e42:(k==42)=false:=by simpa using h42
 have e43:(k==43)=false:=by simpa using h43
 have e44:(k==44)=false:=by simpa using h44
 have e45:(k==45)=false:=by simpa using h45
 simp only[FOk,M.aB,M.aO,M.bK,M.bg,M.fO,M.ig,M.dI,M.jh,M.fZ,M.ji,dU,bQ,f1,f2,f3,f4,e1,e2,e3,e4,e5,e6,e7,e8,e9,e10,e11,e12,e13,e14,e15,e16,e20,e21,e22,e23,e24,e25,e26,e27,e28,e29,e30,e31,e32,e33,e34,e40,e41,e42,e43,e44,e45,cu,ah];exact⟨false,rfl,rfl⟩
end Go.Proofs.YtbgadfelmhoheaaGreatDoor
namespace Go.Proofs.YtbgadfelmhoheaaGreatDoor
set_option linter.unusedVariables false
set_option linter.unusedSimpArgs false
set_option linter.unusedSectionVars false
open Go Go.Vm
open Go.IntKind (i64)
structure Cons(k op:Int)(n:Nat):Prop where
 two:k=29∨k=30->n=2
 four:k=31->n=4
 rule:k=42->(op=1∧n=1)∨(op=2∧n=1)∨(op=3∧n=2)
 range:k=43->(op=1∧n=2)∨(op=3∧n=3)
def aP8(op:Int)(t o:aA)(kids:au)(h:M.aB 29 op t o kids=some true):kids.length=2:=by simp only[M.aB,M.aO,M.bK,M.bg,M.dD,M.dh,M.bI,M.bD,dU,bQ,Int.reduceBEq,Int.reduceLE,Int.reduceLT,Int.reduceSub,Int.reduceAdd,bP,ah] at h;revert h;cases op==0<;>cases t==[]<;>cases o==[]<;>simp<;>omega
def aP9(op:Int)(t o:aA)(kids:au)(h:M.aB 30 op t o kids=some true):kids.length=2:=by simp only[M.aB,M.aO,M.bK,M.bg,M.dD,M.dh,M.bI,M.bD,dU,bQ,Int.reduceBEq,Int.reduceLE,Int.reduceLT,Int.reduceSub,Int.reduceAdd,bP,ah] at h;revert h;cases op==0<;>cases t==[]<;>cases o==[]<;>simp<;>omega
def aQa(op:Int)(t o:aA)(kids:au)(h:M.aB 31 op t o kids=some true):kids.length=4:=by simp only[M.aB,M.aO,M.bK,M.bg,M.dD,M.dh,M.bI,M.bD,dU,bQ,Int.reduceBEq,Int.reduceLE,Int.reduceLT,Int.reduceSub,Int.reduceAdd,bP,ah] at h;revert h;cases op==0<;>cases t==[]<;>cases o==[]<;>simp<;>omega
def aQb(op:Int)(t o:aA)(kids:au)(h:M.aB 42 op t o kids=some true):(op=1∧kids.length=1)∨(op=2∧kids.length=1)∨(op=3∧kids.length=2):=by
 by_cases h1:op=1
 ·subst h1;simp only[M.aB,M.aO,M.bK,M.bg,M.dD,M.dh,M.bI,M.bD,dU,bQ,show i64.wrap (1+i64.wrap (Int.tdiv 1 3))=1 from rfl,show i64.wrap (1+i64.wrap (Int.tdiv 2 3))=1 from rfl,show i64.wrap (1+i64.wrap (Int.tdiv 3 3))=2 from rfl,show i64.wrap (2+i64.wrap (Int.tdiv 1 3))=2 from rfl,show i64.wrap (2+i64.wrap (Int.tdiv 3 3))=3 from rfl,Int.reduceBEq,Int.reduceLE,Int.reduceLT,Int.reduceSub,Int.reduceAdd,bP,ah] at h;revert h;cases t==[]<;>cases o==[]<;>simp<;>omega
 have e1:(op==1)=false:=by simpa using h1
 by_cases h2:op=2
 ·subst h2;simp only[M.aB,M.aO,M.bK,M.bg,M.dD,M.dh,M.bI,M.bD,dU,bQ,show i64.wrap (1+i64.wrap (Int.tdiv 1 3))=1 from rfl,show i64.wrap (1+i64.wrap (Int.tdiv 2 3))=1 from rfl,show i64.wrap (1+i64.wrap (Int.tdiv 3 3))=2 from rfl,show i64.wrap (2+i64.wrap (Int.tdiv 1 3))=2 from rfl,show i64.wrap (2+i64.wrap (Int.tdiv 3 3))=3 from rfl,Int.reduceBEq,Int.reduceLE,Int.reduceLT,Int.reduceSub,Int.reduceAdd,bP,ah] at h;revert h;cases t==[]<;>cases o==[]<;>simp<;>omega
 have e2:(op==2)=false:=by simpa using h2
 by_cases h3:op=3
 ·subst h3;simp only[M.aB,M.aO,M.bK,M.bg,M.dD,M.dh,M.bI,M.bD,dU,bQ,show i64.wrap (1+i64.wrap (Int.tdiv 1 3))=1 from rfl,show i64.wrap (1+i64.wrap (Int.tdiv 2 3))=1 from rfl,show i64.wrap (1+i64.wrap (Int.tdiv 3 3))=2 from rfl,show i64.wrap (2+i64.wrap (Int.tdiv 1 3))=2 from rfl,show i64.wrap (2+i64.wrap (Int.tdiv 3 3))=3 from rfl,Int.reduceBEq,Int.reduceLE,Int.reduceLT,Int.reduceSub,Int.reduceAdd,bP,ah] at h;revert h;cases t==[]<;>cases o==[]<;>simp<;>omega
 have e3:(op==3)=false:=by simpa using h3
 have hf:(decide ((1:Int)<=op) && decide (op<=3))=false:=by rw[Bool.and_eq_false_iff,decide_eq_false_iff_not,decide_eq_false_iff_not];omega
 simp only[M.aB,M.aO,M.bK,M.bg,M.dD,M.dh,M.bI,M.bD,dU,bQ,e1,e2,e3,hf,Int.reduceBEq,Int.reduceLE,Int.reduceLT,Int.reduceSub,Int.reduceAdd,bP,ah] at h;cases h
def aQc(op:Int)(t o:aA)(kids:au)(h:M.aB 43 op t o kids=some true):(op=1∧kids.length=2)∨(op=3∧kids.length=3):=by
 by_cases h1:op=1
 ·subst h1;simp only[M.aB,M.aO,M.bK,M.bg,M.dD,M.dh,M.bI,M.bD,dU,bQ,show i64.wrap (1+i64.wrap (Int.tdiv 1 3))=1 from rfl,show i64.wrap (1+i64.wrap (Int.tdiv 2 3))=1 from rfl,show i64.wrap (1+i64.wrap (Int.tdiv 3 3))=2 from rfl,show i64.wrap (2+i64.wrap (Int.tdiv 1 3))=2 from rfl,show i64.wrap (2+i64.wrap (Int.tdiv 3 3))=3 from rfl,Int.reduceBEq,Int.reduceLE,Int.reduceLT,Int.reduceSub,Int.reduceAdd,bP,ah] at h;revert h;cases t==[]<;>cases o==[]<;>simp<;>omega
 have e1:(op==1)=false:=by simpa using h1
 by_cases h3:op=3
 ·subst h3;simp only[M.aB,M.aO,M.bK,M.bg,M.dD,M.dh,M.bI,M.bD,dU,bQ,show i64.wrap (1+i64.wrap (Int.tdiv 1 3))=1 from rfl,show i64.wrap (1+i64.wrap (Int.tdiv 2 3))=1 from rfl,show i64.wrap (1+i64.wrap (Int.tdiv 3 3))=2 from rfl,show i64.wrap (2+i64.wrap (Int.tdiv 1 3))=2 from rfl,show i64.wrap (2+i64.wrap (Int.tdiv 3 3))=3 from rfl,Int.reduceBEq,Int.reduceLE,Int.reduceLT,Int.reduceSub,Int.reduceAdd,bP,ah] at h;revert h;cases t==[]<;>cases o==[]<;>simp<;>omega
 have e3:(op==3)=false:=by simpa using h3
 have hf:True:=trivial;simp only[M.aB,M.aO,M.bK,M.bg,M.dD,M.dh,M.bI,M.bD,dU,bQ,e1,e3,hf,Int.reduceBEq,Int.reduceLE,Int.reduceLT,Int.reduceSub,Int.reduceAdd,bP,ah] at h;cases h
def aeL{k op:Int}{t o:aA}{kids:au}(h:M.aB k op t o kids=some true):Cons k op kids.length:=
 ⟨λe=>(by rcases e with rfl|rfl;exact aP8 op t o kids h;exact aP9 op t o kids h),λe=>(by subst e;exact aQa op t o kids h),λe=>(by subst e;exact aQb op t o kids h),λe=>(by subst e;exact aQc op t o kids h)⟩
def pR(k:Int):Bool:=decide (1<=k) && decide (k<=15)
def PG(k:Int):Bool:=k==1||(k==5||k==6)
def TL(k:Int):Bool:=decide (20<=k) && decide (k<=34)
def isIt(k:Int):Bool:=decide (40<=k) && decide (k<=44)
def aX(k:Int):M.fV k=some (pR k)∧M.dI k=some (pR k):=by simp only[M.fV,M.JU,M.dI,M.jh,dU,bQ,ah,pR,ge_iff_le];constructor<;>first|rfl|trivial
def aW(k:Int):M.tN k=some (TL k)∧M.fZ k=some (TL k):=by simp only[M.tN,M.JV,M.fZ,M.ji,dU,bQ,ah,TL,ge_iff_le];constructor<;>first|rfl|trivial
def aY(k:Int):M.aV k 40 44=some (isIt k)∧M.zM k=some (isIt k):=by simp only[M.zM,M.Ko,dU,bQ,ah,isIt,ge_iff_le];constructor<;>first|rfl|trivial
def aN(k:Int):M.nS k=some (PG k)∧M.nV k=some (PG k):=by simp only[M.nS,M.FC,M.nV,M.FY,PG];cases k==1<;>cases k==5<;>exact⟨rfl,rfl⟩
def aEY(k:Int):PG k=(pR k && PG k):=by
 by_cases h1:k=1
 ·subst h1;rfl
 by_cases h5:k=5
 ·subst h5;rfl
 by_cases h6:k=6
 ·subst h6;rfl
 have e:PG k=false:=by simp[PG,h1,h5,h6]
 rw[e,Bool.and_false]
def vT(k op:Int)(t o:aA)(kids:au)(j d:Int):Prop:=∃b,M.aH k op t o kids j d=some b∧M.aS k op t o kids j d=some b
def aQd(op:Int)(t o:aA)(kids:au)(j d:Int)(h0:0<=j)(h1:j<kids.length)(hk:kids.length<=400)(hc:Cons 1 op kids.length):vT 1 op t o kids j d:=by simp only[vT,M.aH,M.aG,M.aS,M.aK,aX,aW,aY,aN,Int.reduceBEq,Int.reduceLE,Int.reduceLT,Int.reduceSub,Int.reduceAdd,bP,ah];generalize (pR d)=a0;cases a0<;>exact⟨_,rfl,rfl⟩
def aQe(op:Int)(t o:aA)(kids:au)(j d:Int)(h0:0<=j)(h1:j<kids.length)(hk:kids.length<=400)(hc:Cons 2 op kids.length):vT 2 op t o kids j d:=by simp only[vT,M.aH,M.aG,M.aS,M.aK,aX,aW,aY,aN,Int.reduceBEq,Int.reduceLE,Int.reduceLT,Int.reduceSub,Int.reduceAdd,bP,ah];generalize (pR d)=a0;cases a0<;>exact⟨_,rfl,rfl⟩
def aQf(op:Int)(t o:aA)(kids:au)(j d:Int)(h0:0<=j)(h1:j<kids.length)(hk:kids.length<=400)(hc:Cons 3 op kids.length):vT 3 op t o kids j d:=by simp only[vT,M.aH,M.aG,M.aS,M.aK,aX,aW,aY,aN,Int.reduceBEq,Int.reduceLE,Int.reduceLT,Int.reduceSub,Int.reduceAdd,bP,ah];generalize (pR d)=a0;cases a0<;>exact⟨_,rfl,rfl⟩
def aQg(op:Int)(t o:aA)(kids:au)(j d:Int)(h0:0<=j)(h1:j<kids.length)(hk:kids.length<=400)(hc:Cons 4 op kids.length):vT 4 op t o kids j d:=by simp only[vT,M.aH,M.aG,M.aS,M.aK,aX,aW,aY,aN,Int.reduceBEq,Int.reduceLE,Int.reduceLT,Int.reduceSub,Int.reduceAdd,bP,ah];generalize (pR d)=a0;cases a0<;>exact⟨_,rfl,rfl⟩
def aQh(op:Int)(t o:aA)(kids:au)(j d:Int)(h0:0<=j)(h1:j<kids.length)(hk:kids.length<=400)(hc:Cons 5 op kids.length):vT 5 op t o kids j d:=by simp only[vT,M.aH,M.aG,M.aS,M.aK,aX,aW,aY,aN,Int.reduceBEq,Int.reduceLE,Int.reduceLT,Int.reduceSub,Int.reduceAdd,bP,ah];generalize (pR d)=a0;cases a0<;>exact⟨_,rfl,rfl⟩
def aQi(op:Int)(t o:aA)(kids:au)(j d:Int)(h0:0<=j)(h1:j<kids.length)(hk:kids.length<=400)(hc:Cons 6 op kids.length):vT 6 op t o kids j d:=by simp only[vT,M.aH,M.aG,M.aS,M.aK,aX,aW,aY,aN,Int.reduceBEq,Int.reduceLE,Int.reduceLT,Int.reduceSub,Int.reduceAdd,bP,ah];generalize (pR d)=a0;cases a0<;>exact⟨_,rfl,rfl⟩
def aQj(op:Int)(t o:aA)(kids:au)(j d:Int)(h0:0<=j)(h1:j<kids.length)(hk:kids.length<=400)(hc:Cons 7 op kids.length):vT 7 op t o kids j d:=by simp only[vT,M.aH,M.aG,M.aS,M.aK,aX,aW,aY,aN,Int.reduceBEq,Int.reduceLE,Int.reduceLT,Int.reduceSub,Int.reduceAdd,bP,ah];generalize (pR d)=a0;cases a0<;>exact⟨_,rfl,rfl⟩
def aQk(op:Int)(t o:aA)(kids:au)(j d:Int)(h0:0<=j)(h1:j<kids.length)(hk:kids.length<=400)(hc:Cons 8 op kids.length):vT 8 op t o kids j d:=by simp only[vT,M.aH,M.aG,M.aS,M.aK,aX,aW,aY,aN,Int.reduceBEq,Int.reduceLE,Int.reduceLT,Int.reduceSub,Int.reduceAdd,bP,ah];generalize (pR d)=a0;cases a0<;>exact⟨_,rfl,rfl⟩
def aQl(op:Int)(t o:aA)(kids:au)(j d:Int)(h0:0<=j)(h1:j<kids.length)(hk:kids.length<=400)(hc:Cons 9 op kids.length):vT 9 op t o kids j d:=by simp only[vT,M.aH,M.aG,M.aS,M.aK,aX,aW,aY,aN,Int.reduceBEq,Int.reduceLE,Int.reduceLT,Int.reduceSub,Int.reduceAdd,bP,ah];generalize (PG d)=a0;cases a0<;>exact⟨_,rfl,rfl⟩
def aEZ(op:Int)(t o:aA)(kids:au)(j d:Int)(h0:0<=j)(h1:j<kids.length)(hk:kids.length<=400)(hc:Cons 10 op kids.length):vT 10 op t o kids j d:=by simp only[vT,M.aH,M.aG,M.aS,M.aK,aX,aW,aY,aN,Int.reduceBEq,Int.reduceLE,Int.reduceLT,Int.reduceSub,Int.reduceAdd,bP,ah];generalize (PG d)=a0;cases a0<;>exact⟨_,rfl,rfl⟩
def aE0(op:Int)(t o:aA)(kids:au)(j d:Int)(h0:0<=j)(h1:j<kids.length)(hk:kids.length<=400)(hc:Cons 11 op kids.length):vT 11 op t o kids j d:=by simp only[vT,M.aH,M.aG,M.aS,M.aK,aX,aW,aY,aN,Int.reduceBEq,Int.reduceLE,Int.reduceLT,Int.reduceSub,Int.reduceAdd,bP,ah];generalize (pR d)=a0;cases a0<;>exact⟨_,rfl,rfl⟩
def aE1(op:Int)(t o:aA)(kids:au)(j d:Int)(h0:0<=j)(h1:j<kids.length)(hk:kids.length<=400)(hc:Cons 12 op kids.length):vT 12 op t o kids j d:=by simp only[vT,M.aH,M.aG,M.aS,M.aK,aX,aW,aY,aN,Int.reduceBEq,Int.reduceLE,Int.reduceLT,Int.reduceSub,Int.reduceAdd,bP,ah];generalize (pR d)=a0;cases a0<;>exact⟨_,rfl,rfl⟩
def aE2(op:Int)(t o:aA)(kids:au)(j d:Int)(h0:0<=j)(h1:j<kids.length)(hk:kids.length<=400)(hc:Cons 13 op kids.length):vT 13 op t o kids j d:=by simp only[vT,M.aH,M.aG,M.aS,M.aK,aX,aW,aY,aN,Int.reduceBEq,Int.reduceLE,Int.reduceLT,Int.reduceSub,Int.reduceAdd,bP,ah];generalize (pR d)=a0;cases a0<;>exact⟨_,rfl,rfl⟩
def aE3(op:Int)(t o:aA)(kids:au)(j d:Int)(h0:0<=j)(h1:j<kids.length)(hk:kids.length<=400)(hc:Cons 14 op kids.length):vT 14 op t o kids j d:=by simp only[vT,M.aH,M.aG,M.aS,M.aK,aX,aW,aY,aN,Int.reduceBEq,Int.reduceLE,Int.reduceLT,Int.reduceSub,Int.reduceAdd,bP,ah];generalize (pR d)=a0;cases a0<;>exact⟨_,rfl,rfl⟩
def aE4(op:Int)(t o:aA)(kids:au)(j d:Int)(h0:0<=j)(h1:j<kids.length)(hk:kids.length<=400)(hc:Cons 15 op kids.length):vT 15 op t o kids j d:=by
 by_cases hj:j=0
 ·subst hj;have hl:=aEY d;simp only[vT,M.aH,M.aG,M.aS,M.aK,aX,aW,aY,aN,Int.reduceBEq,Int.reduceLE,Int.reduceLT,Int.reduceSub,Int.reduceAdd,bP,ah];revert hl;cases pR d<;>cases PG d<;>intro hl<;>first|exact⟨_,rfl,rfl⟩|cases hl
 have e0:(j==0)=false:=by simpa using hj
 have e1:decide (0<j)=true:=zdt (by omega);simp only[vT,M.aH,M.aG,M.aS,M.aK,aX,aW,aY,aN,e0,e1,Int.reduceBEq,Int.reduceLE,Int.reduceLT,Int.reduceSub,Int.reduceAdd,bP,ah];generalize (pR d)=a0;cases a0<;>exact⟨_,rfl,rfl⟩
def aE5(op:Int)(t o:aA)(kids:au)(j d:Int)(h0:0<=j)(h1:j<kids.length)(hk:kids.length<=400)(hc:Cons 16 op kids.length):vT 16 op t o kids j d:=by simp only[vT,M.aH,M.aG,M.aS,M.aK,aX,aW,aY,aN,Int.reduceBEq,Int.reduceLE,Int.reduceLT,Int.reduceSub,Int.reduceAdd,bP,ah];generalize (pR d)=a0;cases a0<;>exact⟨_,rfl,rfl⟩
def aE6(op:Int)(t o:aA)(kids:au)(j d:Int)(h0:0<=j)(h1:j<kids.length)(hk:kids.length<=400)(hc:Cons 20 op kids.length):vT 20 op t o kids j d:=by simp only[vT,M.aH,M.aG,M.aS,M.aK,aX,aW,aY,aN,Int.reduceBEq,Int.reduceLE,Int.reduceLT,Int.reduceSub,Int.reduceAdd,bP,ah];generalize (pR d)=a0;cases a0<;>exact⟨_,rfl,rfl⟩
def aE7(op:Int)(t o:aA)(kids:au)(j d:Int)(h0:0<=j)(h1:j<kids.length)(hk:kids.length<=400)(hc:Cons 21 op kids.length):vT 21 op t o kids j d:=by simp only[vT,M.aH,M.aG,M.aS,M.aK,aX,aW,aY,aN,Int.reduceBEq,Int.reduceLE,Int.reduceLT,Int.reduceSub,Int.reduceAdd,bP,ah];generalize (pR d)=a0;cases a0<;>exact⟨_,rfl,rfl⟩
def aE8(op:Int)(t o:aA)(kids:au)(j d:Int)(h0:0<=j)(h1:j<kids.length)(hk:kids.length<=400)(hc:Cons 22 op kids.length):vT 22 op t o kids j d:=by simp only[vT,M.aH,M.aG,M.aS,M.aK,aX,aW,aY,aN,Int.reduceBEq,Int.reduceLE,Int.reduceLT,Int.reduceSub,Int.reduceAdd,bP,ah];generalize (pR d)=a0;cases a0<;>exact⟨_,rfl,rfl⟩
def aE9(op:Int)(t o:aA)(kids:au)(j d:Int)(h0:0<=j)(h1:j<kids.length)(hk:kids.length<=400)(hc:Cons 23 op kids.length):vT 23 op t o kids j d:=by simp only[vT,M.aH,M.aG,M.aS,M.aK,aX,aW,aY,aN,Int.reduceBEq,Int.reduceLE,Int.reduceLT,Int.reduceSub,Int.reduceAdd,bP,ah];generalize (pR d)=a0;cases a0<;>exact⟨_,rfl,rfl⟩
def aFa(op:Int)(t o:aA)(kids:au)(j d:Int)(h0:0<=j)(h1:j<kids.length)(hk:kids.length<=400)(hc:Cons 24 op kids.length):vT 24 op t o kids j d:=by simp only[vT,M.aH,M.aG,M.aS,M.aK,aX,aW,aY,aN,Int.reduceBEq,Int.reduceLE,Int.reduceLT,Int.reduceSub,Int.reduceAdd,bP,ah];generalize (pR d)=a0;cases a0<;>exact⟨_,rfl,rfl⟩
def aFb(op:Int)(t o:aA)(kids:au)(j d:Int)(h0:0<=j)(h1:j<kids.length)(hk:kids.length<=400)(hc:Cons 25 op kids.length):vT 25 op t o kids j d:=by simp only[vT,M.aH,M.aG,M.aS,M.aK,aX,aW,aY,aN,Int.reduceBEq,Int.reduceLE,Int.reduceLT,Int.reduceSub,Int.reduceAdd,bP,ah];generalize (pR d)=a0;cases a0<;>exact⟨_,rfl,rfl⟩
def aFc(op:Int)(t o:aA)(kids:au)(j d:Int)(h0:0<=j)(h1:j<kids.length)(hk:kids.length<=400)(hc:Cons 26 op kids.length):vT 26 op t o kids j d:=by simp only[vT,M.aH,M.aG,M.aS,M.aK,aX,aW,aY,aN,Int.reduceBEq,Int.reduceLE,Int.reduceLT,Int.reduceSub,Int.reduceAdd,bP,ah];generalize (pR d)=a0;cases a0<;>exact⟨_,rfl,rfl⟩
def aFd(op:Int)(t o:aA)(kids:au)(j d:Int)(h0:0<=j)(h1:j<kids.length)(hk:kids.length<=400)(hc:Cons 27 op kids.length):vT 27 op t o kids j d:=by simp only[vT,M.aH,M.aG,M.aS,M.aK,aX,aW,aY,aN,Int.reduceBEq,Int.reduceLE,Int.reduceLT,Int.reduceSub,Int.reduceAdd,bP,ah];generalize (pR d)=a0;cases a0<;>exact⟨_,rfl,rfl⟩
def aFe(op:Int)(t o:aA)(kids:au)(j d:Int)(h0:0<=j)(h1:j<kids.length)(hk:kids.length<=400)(hc:Cons 28 op kids.length):vT 28 op t o kids j d:=by
 by_cases hj:j=0
 ·subst hj;simp only[vT,M.aH,M.aG,M.aS,M.aK,aX,aW,aY,aN,Int.reduceBEq,Int.reduceLE,Int.reduceLT,Int.reduceSub,Int.reduceAdd,bP,ah];generalize (pR d)=a0;generalize (d==33)=a1;cases a0<;>cases a1<;>exact⟨_,rfl,rfl⟩
 have e0:(j==0)=false:=by simpa using hj
 have e1:decide (0<j)=true:=zdt (by omega);simp only[vT,M.aH,M.aG,M.aS,M.aK,aX,aW,aY,aN,e0,e1,Int.reduceBEq,Int.reduceLE,Int.reduceLT,Int.reduceSub,Int.reduceAdd,bP,ah];generalize (d==33)=a0;cases a0<;>exact⟨_,rfl,rfl⟩
def aFf(op:Int)(t o:aA)(kids:au)(j d:Int)(h0:0<=j)(h1:j<kids.length)(hk:kids.length<=400)(hc:Cons 29 op kids.length):vT 29 op t o kids j d:=by
 have hl:=hc.two (by omega);obtain rfl|rfl:j=0∨j=1:=by omega
 ·simp only[vT,M.aH,M.aG,M.aS,M.aK,aX,aW,aY,aN,Int.reduceBEq,Int.reduceLE,Int.reduceLT,Int.reduceSub,Int.reduceAdd,bP,ah];generalize (pR d)=a0;generalize (d==33)=a1;cases a0<;>cases a1<;>exact⟨_,rfl,rfl⟩
 ·simp only[vT,M.aH,M.aG,M.aS,M.aK,aX,aW,aY,aN,Int.reduceBEq,Int.reduceLE,Int.reduceLT,Int.reduceSub,Int.reduceAdd,bP,ah];generalize (pR d)=a0;generalize (d==33)=a1;cases a0<;>cases a1<;>exact⟨_,rfl,rfl⟩
def aFg(op:Int)(t o:aA)(kids:au)(j d:Int)(h0:0<=j)(h1:j<kids.length)(hk:kids.length<=400)(hc:Cons 30 op kids.length):vT 30 op t o kids j d:=by
 have hl:=hc.two (by omega);obtain rfl|rfl:j=0∨j=1:=by omega
 ·simp only[vT,M.aH,M.aG,M.aS,M.aK,aX,aW,aY,aN,Int.reduceBEq,Int.reduceLE,Int.reduceLT,Int.reduceSub,Int.reduceAdd,bP,ah];generalize (pR d)=a0;generalize (d==33)=a1;cases a0<;>cases a1<;>exact⟨_,rfl,rfl⟩
 ·simp only[vT,M.aH,M.aG,M.aS,M.aK,aX,aW,aY,aN,Int.reduceBEq,Int.reduceLE,Int.reduceLT,Int.reduceSub,Int.reduceAdd,bP,ah];generalize (pR d)=a0;generalize (d==33)=a1;cases a0<;>cases a1<;>exact⟨_,rfl,rfl⟩
def aFh(op:Int)(t o:aA)(kids:au)(j d:Int)(h0:0<=j)(h1:j<kids.length)(hk:kids.length<=400)(hc:Cons 31 op kids.length):vT 31 op t o kids j d:=by
 have hl:=hc.four rfl;have hw:i64.wrap ((kids.length:Int) - 1)=3:=by rw[hl];rfl
 obtain rfl|rfl|rfl|rfl:j=0∨j=1∨j=2∨j=3:=by omega
 ·simp only[vT,M.aH,M.aG,M.aS,M.aK,aX,aW,aY,aN,hw,Int.reduceBEq,Int.reduceLE,Int.reduceLT,Int.reduceSub,Int.reduceAdd,bP,ah];generalize (pR d)=a0;generalize (d==16)=a1;generalize (d==33)=a2;cases a0<;>cases a1<;>cases a2<;>exact⟨_,rfl,rfl⟩
 ·simp only[vT,M.aH,M.aG,M.aS,M.aK,aX,aW,aY,aN,hw,Int.reduceBEq,Int.reduceLE,Int.reduceLT,Int.reduceSub,Int.reduceAdd,bP,ah];generalize (pR d)=a0;generalize (d==16)=a1;generalize (d==33)=a2;cases a0<;>cases a1<;>cases a2<;>exact⟨_,rfl,rfl⟩
 ·simp only[vT,M.aH,M.aG,M.aS,M.aK,aX,aW,aY,aN,hw,Int.reduceBEq,Int.reduceLE,Int.reduceLT,Int.reduceSub,Int.reduceAdd,bP,ah];generalize (pR d)=a0;generalize (d==16)=a1;generalize (d==33)=a2;cases a0<;>cases a1<;>cases a2<;>exact⟨_,rfl,rfl⟩
 ·simp only[vT,M.aH,M.aG,M.aS,M.aK,aX,aW,aY,aN,hw,Int.reduceBEq,Int.reduceLE,Int.reduceLT,Int.reduceSub,Int.reduceAdd,bP,ah];generalize (pR d)=a0;generalize (d==16)=a1;generalize (d==33)=a2;cases a0<;>cases a1<;>cases a2<;>exact⟨_,rfl,rfl⟩
def aFi(op:Int)(t o:aA)(kids:au)(j d:Int)(h0:0<=j)(h1:j<kids.length)(hk:kids.length<=400)(hc:Cons 32 op kids.length):vT 32 op t o kids j d:=by simp only[vT,M.aH,M.aG,M.aS,M.aK,aX,aW,aY,aN,Int.reduceBEq,Int.reduceLE,Int.reduceLT,Int.reduceSub,Int.reduceAdd,bP,ah];generalize (d==33)=a0;cases a0<;>exact⟨_,rfl,rfl⟩
def aFj(op:Int)(t o:aA)(kids:au)(j d:Int)(h0:0<=j)(h1:j<kids.length)(hk:kids.length<=400)(hc:Cons 33 op kids.length):vT 33 op t o kids j d:=by simp only[vT,M.aH,M.aG,M.aS,M.aK,aX,aW,aY,aN,Int.reduceBEq,Int.reduceLE,Int.reduceLT,Int.reduceSub,Int.reduceAdd,bP,ah];generalize (TL d)=a0;cases a0<;>exact⟨_,rfl,rfl⟩
def aFk(op:Int)(t o:aA)(kids:au)(j d:Int)(h0:0<=j)(h1:j<kids.length)(hk:kids.length<=400)(hc:Cons 34 op kids.length):vT 34 op t o kids j d:=by simp only[vT,M.aH,M.aG,M.aS,M.aK,aX,aW,aY,aN,Int.reduceBEq,Int.reduceLE,Int.reduceLT,Int.reduceSub,Int.reduceAdd,bP,ah];generalize (pR d)=a0;cases a0<;>exact⟨_,rfl,rfl⟩
def aFl(op:Int)(t o:aA)(kids:au)(j d:Int)(h0:0<=j)(h1:j<kids.length)(hk:kids.length<=400)(hc:Cons 40 op kids.length):vT 40 op t o kids j d:=by simp only[vT,M.aH,M.aG,M.aS,M.aK,aX,aW,aY,aN,Int.reduceBEq,Int.reduceLE,Int.reduceLT,Int.reduceSub,Int.reduceAdd,bP,ah];generalize (d==33)=a0;cases a0<;>exact⟨_,rfl,rfl⟩
def aFm(op:Int)(t o:aA)(kids:au)(j d:Int)(h0:0<=j)(h1:j<kids.length)(hk:kids.length<=400)(hc:Cons 41 op kids.length):vT 41 op t o kids j d:=by simp only[vT,M.aH,M.aG,M.aS,M.aK,aX,aW,aY,aN,Int.reduceBEq,Int.reduceLE,Int.reduceLT,Int.reduceSub,Int.reduceAdd,bP,ah];generalize (d==33)=a0;cases a0<;>exact⟨_,rfl,rfl⟩
def aFo(op:Int)(t o:aA)(kids:au)(j d:Int)(h0:0<=j)(h1:j<kids.length)(hk:kids.length<=400)(hc:Cons 42 op kids.length):vT 42 op t o kids j d:=by
 rcases hc.rule rfl with⟨rfl,hl⟩|⟨rfl,hl⟩|⟨rfl,hl⟩
 ·have hw:i64.wrap ((kids.length:Int) - 1)=0:=by rw[hl];rfl
  obtain rfl:j=0:=by omega
  simp only[vT,M.aH,M.aG,M.aS,M.aK,aX,aW,aY,aN,hw,Int.reduceBEq,Int.reduceLE,Int.reduceLT,Int.reduceSub,Int.reduceAdd,bP,ah];generalize (pR d)=a0;generalize (d==33)=a1;cases a0<;>cases a1<;>exact⟨_,rfl,rfl⟩
 ·have hw:i64.wrap ((kids.length:Int) - 1)=0:=by rw[hl];rfl
  obtain rfl:j=0:=by omega
  simp only[vT,M.aH,M.aG,M.aS,M.aK,aX,aW,aY,aN,hw,Int.reduceBEq,Int.reduceLE,Int.reduceLT,Int.reduceSub,Int.reduceAdd,bP,ah];generalize (pR d)=a0;generalize (d==33)=a1;cases a0<;>cases a1<;>exact⟨_,rfl,rfl⟩
 ·have hw:i64.wrap ((kids.length:Int) - 1)=1:=by rw[hl];rfl
  obtain rfl|rfl:j=0∨j=1:=by omega
  ·simp only[vT,M.aH,M.aG,M.aS,M.aK,aX,aW,aY,aN,hw,Int.reduceBEq,Int.reduceLE,Int.reduceLT,Int.reduceSub,Int.reduceAdd,bP,ah];generalize (pR d)=a0;generalize (d==33)=a1;cases a0<;>cases a1<;>exact⟨_,rfl,rfl⟩
  ·simp only[vT,M.aH,M.aG,M.aS,M.aK,aX,aW,aY,aN,hw,Int.reduceBEq,Int.reduceLE,Int.reduceLT,Int.reduceSub,Int.reduceAdd,bP,ah];generalize (pR d)=a0;generalize (d==33)=a1;cases a0<;>cases a1<;>exact⟨_,rfl,rfl⟩
def aFp(op:Int)(t o:aA)(kids:au)(j d:Int)(h0:0<=j)(h1:j<kids.length)(hk:kids.length<=400)(hc:Cons 43 op kids.length):vT 43 op t o kids j d:=by
 rcases hc.range rfl with⟨rfl,hl⟩|⟨rfl,hl⟩
 ·have hw:i64.wrap ((kids.length:Int) - 1)=1:=by rw[hl];rfl
  obtain rfl|rfl:j=0∨j=1:=by omega
  ·simp only[vT,M.aH,M.aG,M.aS,M.aK,aX,aW,aY,aN,hw,Int.reduceBEq,Int.reduceLE,Int.reduceLT,Int.reduceSub,Int.reduceAdd,bP,ah];generalize (pR d)=a0;generalize (d==33)=a1;cases a0<;>cases a1<;>exact⟨_,rfl,rfl⟩
  ·simp only[vT,M.aH,M.aG,M.aS,M.aK,aX,aW,aY,aN,hw,Int.reduceBEq,Int.reduceLE,Int.reduceLT,Int.reduceSub,Int.reduceAdd,bP,ah];generalize (pR d)=a0;generalize (d==33)=a1;cases a0<;>cases a1<;>exact⟨_,rfl,rfl⟩
 ·have hw:i64.wrap ((kids.length:Int) - 1)=2:=by rw[hl];rfl
  obtain rfl|rfl|rfl:j=0∨j=1∨j=2:=by omega
  ·simp only[vT,M.aH,M.aG,M.aS,M.aK,aX,aW,aY,aN,hw,Int.reduceBEq,Int.reduceLE,Int.reduceLT,Int.reduceSub,Int.reduceAdd,bP,ah];generalize (pR d)=a0;generalize (d==33)=a1;cases a0<;>cases a1<;>exact⟨_,rfl,rfl⟩
  ·simp only[vT,M.aH,M.aG,M.aS,M.aK,aX,aW,aY,aN,hw,Int.reduceBEq,Int.reduceLE,Int.reduceLT,Int.reduceSub,Int.reduceAdd,bP,ah];generalize (pR d)=a0;generalize (d==33)=a1;cases a0<;>cases a1<;>exact⟨_,rfl,rfl⟩
  ·simp only[vT,M.aH,M.aG,M.aS,M.aK,aX,aW,aY,aN,hw,Int.reduceBEq,Int.reduceLE,Int.reduceLT,Int.reduceSub,Int.reduceAdd,bP,ah];generalize (pR d)=a0;generalize (d==33)=a1;cases a0<;>cases a1<;>exact⟨_,rfl,rfl⟩
def aFq(op:Int)(t o:aA)(kids:au)(j d:Int)(h0:0<=j)(h1:j<kids.length)(hk:kids.length<=400)(hc:Cons 44 op kids.length):vT 44 op t o kids j d:=by simp only[vT,M.aH,M.aG,M.aS,M.aK,aX,aW,aY,aN,Int.reduceBEq,Int.reduceLE,Int.reduceLT,Int.reduceSub,Int.reduceAdd,bP,ah];generalize (j==i64.wrap ((kids.length:Int) - 1))=a0;generalize (d==33)=a1;generalize (d==1)=a2;cases a0<;>cases a1<;>cases a2<;>exact⟨_,rfl,rfl⟩
def aFr(op:Int)(t o:aA)(kids:au)(j d:Int)(h0:0<=j)(h1:j<kids.length)(hk:kids.length<=400)(hc:Cons 45 op kids.length):vT 45 op t o kids j d:=by simp only[vT,M.aH,M.aG,M.aS,M.aK,aX,aW,aY,aN,Int.reduceBEq,Int.reduceLE,Int.reduceLT,Int.reduceSub,Int.reduceAdd,bP,ah];generalize (isIt d)=a0;generalize (d==34)=a1;cases a0<;>cases a1<;>exact⟨_,rfl,rfl⟩
def avM(k:Int)(op:Int)(t o:aA)(kids:au)(j d:Int)(hj0:0<=j)(hj1:j<kids.length)(hk:kids.length<=400)(hc:Cons k op kids.length):vT k op t o kids j d:=by
 by_cases h1:k=1
 ·subst h1;exact aQd op t o kids j d hj0 hj1 hk hc
 by_cases h2:k=2
 ·subst h2;exact aQe op t o kids j d hj0 hj1 hk hc
 by_cases h3:k=3
 ·subst h3;exact aQf op t o kids j d hj0 hj1 hk hc
 by_cases h4:k=4
 ·subst h4;exact aQg op t o kids j d hj0 hj1 hk hc
 by_cases h5:k=5
 ·subst h5;exact aQh op t o kids j d hj0 hj1 hk hc
 by_cases h6:k=6
 ·subst h6;exact aQi op t o kids j d hj0 hj1 hk hc
 by_cases h7:k=7
 ·subst h7;exact aQj op t o kids j d hj0 hj1 hk hc
 by_cases h8:k=8
 ·subst h8;exact aQk op t o kids j d hj0 hj1 hk hc
 by_cases h9:k=9
 ·subst h9;exact aQl op t o kids j d hj0 hj1 hk hc
 by_cases h10:k=10
 ·subst h10;exact aEZ op t o kids j d hj0 hj1 hk hc
 by_cases h11:k=11
 ·subst h11;exact aE0 op t o kids j d hj0 hj1 hk hc
 by_cases h12:k=12
 ·subst h12;exact aE1 op t o kids j d hj0 hj1 hk hc
 by_cases h13:k=13
 ·subst h13;exact aE2 op t o kids j d hj0 hj1 hk hc
 by_cases h14:k=14
 ·subst h14;exact aE3 op t o kids j d hj0 hj1 hk hc
 by_cases h15:k=15
 ·subst h15;exact aE4 op t o kids j d hj0 hj1 hk hc
 by_cases h16:k=16
 ·subst h16;exact aE5 op t o kids j d hj0 hj1 hk hc
 by_cases h20:k=20
 ·subst h20;exact aE6 op t o kids j d hj0 hj1 hk hc
 by_cases h21:k=21
 ·subst h21;exact aE7 op t o kids j d hj0 hj1 hk hc
 by_cases h22:k=22
 ·subst h22;exact aE8 op t o kids j d hj0 hj1 hk hc
 by_cases h23:k=23
 ·subst h23;exact aE9 op t o kids j d hj0 hj1 hk hc
 by_cases h24:k=24
 ·subst h24;exact aFa op t o kids j d hj0 hj1 hk hc
 by_cases h25:k=25
 ·subst h25;exact aFb op t o kids j d hj0 hj1 hk hc
 by_cases h26:k=26
 ·subst h26;exact aFc op t o kids j d hj0 hj1 hk hc
 by_cases h27:k=27
 ·subst h27;exact aFd op t o kids j d hj0 hj1 hk hc
 by_cases h28:k=28
 ·subst h28;exact aFe op t o kids j d hj0 hj1 hk hc
 by_cases h29:k=29
 ·subst h29;exact aFf op t o kids j d hj0 hj1 hk hc
 by_cases h30:k=30
 ·subst h30;exact aFg op t o kids j d hj0 hj1 hk hc
 by_cases h31:k=31
 ·subst h31;exact aFh op t o kids j d hj0 hj1 hk hc
 by_cases h32:k=32
 ·subst h32;exact aFi op t o kids j d hj0 hj1 hk hc
 by_cases h33:k=33
 ·subst h33;exact aFj op t o kids j d hj0 hj1 hk hc
 by_cases h34:k=34
 ·subst h34;exact aFk op t o kids j d hj0 hj1 hk hc
 by_cases h40:k=40
 ·subst h40;exact aFl op t o kids j d hj0 hj1 hk hc
 by_cases h41:k=41
 ·subst h41;exact aFm op t o kids j d hj0 hj1 hk hc
 by_cases h42:k=42
 ·subst h42;exact aFo op t o kids j d hj0 hj1 hk hc
 by_cases h43:k=43
 ·subst h43;exact aFp op t o kids j d hj0 hj1 hk hc
 by_cases h44:k=44
 ·subst h44;exact aFq op t o kids j d hj0 hj1 hk hc
 by_cases h45:k=45
 ·subst h45;exact aFr op t o kids j d hj0 hj1 hk hc
 have e1:(k==1)=false:=by simpa using h1
 have e2:(k==2)=false:=by simpa using h2
 have e3:(k==3)=false:=by simpa using h3
 have e4:(k==4)=false:=by simpa using h4
 have e5:(k==5)=false:=by simpa using h5
 have e6:(k==6)=false:=by simpa using h6
 have e7:(k==7)=false:=by simpa using h7
 have e8:(k==8)=false:=by simpa using h8
 have e9:(k==9)=false:=by simpa using h9
 have e10:(k==10)=false:=by simpa using h10
 have e11:(k==11)=false:=by simpa using h11
 have e12:(k==12)=false:=by simpa using h12
 have e13:(k==13)=false:=by simpa using h13
 have e14:(k==14)=false:=by simpa using h14
 have e15:(k==15)=false:=by simpa using h15
 have e16:(k==16)=false:=by simpa using h16
 have e20:(k==20)=false:=by simpa using h20
 have e21:(k==21)=false:=by simpa using h21
 have e22:(k==22)=false:=by simpa using h22
 have e23:(k==23)=false:=by simpa using h23
 have e24:(k==24)=false:=by simpa using h24
 have e25:(k==25)=false:=by simpa using h25
 have e26:(k==26)=false:=by simpa using h26
 have e27:(k==27)=false:=by simpa using h27
 have e28:(k==28)=false:=by simpa using h28
 have e29:(k==29)=false:=by simpa using h29
 have e30:(k==30)=false:=by simpa using h30
 have e31:(k==31)=false:=by simpa using h31
 have e32:(k==32)=false:=by simpa using h32
 have e33:(k==33)=false:=by simpa using h33
 have e34:(k==34)=false:=by simpa using h34
 have e40:(k==40)=false:=by simpa using h40
 have e41:(k==41)=false:=by simpa using h41
 have e42:(k==42)=false:=by simpa using h42
 have e43:(k==43)=false:=by simpa using h43
 have e44:(k==44)=false:=by simpa using h44
 have e45:(k==45)=false:=by simpa using h45
 simp only[vT,M.aH,M.aG,M.aS,M.aK,aX,aW,aY,aN,e1,e2,e3,e4,e5,e6,e7,e8,e9,e10,e11,e12,e13,e14,e15,e16,e20,e21,e22,e23,e24,e25,e26,e27,e28,e29,e30,e31,e32,e33,e34,e40,e41,e42,e43,e44,e45,cu,ah];exact⟨_,rfl,rfl⟩
end Go.Proofs.YtbgadfelmhoheaaGreatDoor
namespace Go.Proofs.YtbgadfelmhoheaaGreatDoor
set_option linter.unusedVariables false
set_option linter.unusedSimpArgs false
open Go Go.Vm
open Go.IntKind (i64)
def wN(n:Nd):Nat:=n.text.length+n.other.length+n.kids.length
def wNs:List Nd->Nat
 |[]=>0
 |n::l=>wN n+wNs l
def alK(k:List Int)(L:Int)(h0:0<=L)(h1:L<=1048576)(hk:k.length<=maxLen):M.zy (encI k) L=some (if(k.length:Int)<=L then L - k.length else -1):=by
 unfold maxLen at hk;simp only[M.zy,M.JG,aU];rw[aC (by omega) (by omega)]
 by_cases h:(k.length:Int)<=L
 ·rw[qN (by omega),if_pos h];rfl
 ·rw[zdt (by omega),if_neg h];rfl
def alL(n:Nd)(o:Bool)(L:Int)(h0:0<=L)(h1:L<=1048576)(ht:n.text.length<=maxLen)(ho:n.other.length<=maxLen)(hk:n.kids.length<=maxLen):
  M.zA n.kind n.op n.text n.other (encI n.kids) L=some (if(wN n:Int)<=L then L - wN n else -1):=by
 have ht':=ht;have ho':=ho;have hk':=hk;unfold maxLen at ht' ho' hk';have hwn:wN n=n.text.length+n.other.length+n.kids.length:=rfl;simp only[M.zA,M.JH];rw[aC (n:=L - n.text.length) (by omega) (by omega)]
 by_cases c1:(n.text.length:Int)<=L
 ·rw[qN (by omega),cu,aC (by omega) (by omega)]
  by_cases c2:(n.other.length:Int)<=L - n.text.length
  ·rw[qN (by omega),cu,alK _ _ (by omega) (by omega) hk,ah]
   by_cases c3:(n.kids.length:Int)<=L - n.text.length - n.other.length
   ·rw[if_pos c3,qN (by omega),cu,if_pos (by omega)];congr 1;omega
   ·rw[if_neg c3,zdt (by omega),aT,if_neg (by omega)]
  ·rw[zdt (by omega),aT,if_neg (by omega)]
 ·rw[zdt (by omega),aT,if_neg (by omega)]
def aoW(l:List Nd)(len:Nat):∀w:Int,0<=w->aaY (fun(w:Int) (n:Nd)=>(if(wN n:Int)<=w then .inl (w - wN n) else .inr (.inl ()):Int⊕(Unit⊕(Int×Int)))) (λw=> .inr (w,(len:Int))) l w=
  if(wNs l:Int)<=w then .inr (w - wNs l,(len:Int)) else .inl ():=by
 induction l with
 |nil=>intro w h;simp[aaY,wNs,h]
 |cons n l ih=>
  intro w h;have hw:wNs (n::l)=wN n+wNs l:=rfl;simp only[aaY]
  by_cases c:(wN n:Int)<=w
  ·rw[if_pos c];simp only;rw[ih (w - wN n) (by omega)]
   by_cases c2:(wNs l:Int)<=w - wN n
   ·rw[if_pos c2,if_pos (by omega)];congr 2;omega
   ·rw[if_neg c2,if_neg (by omega)]
  ·rw[if_neg c,if_neg (by omega)]
def ajo(l:List Nd)(o:Bool)(L:Int)(h0:0<=L)(h1:L<=1048576)(hl:l.length<=maxLen)(hf:∀n,n∈l->Fit n):
  M.vX (aQ o l) L=some (if(l.length+wNs l:Int)<=L then L - l.length - wNs l else -1):=by
 unfold maxLen at hl;simp only[M.vX,M.Hy,dn];rw[aC (by omega) (by omega)]
 by_cases c:(l.length:Int)<=L
 ·rw[qN (by omega),cu];have hloop:=ajb (M.BM (aQ o l)) l (λi (w:Int)=>(w,(i:Int)))
   (fun(w:Int) (n:Nd)=>(if(wN n:Int)<=w then .inl (w - wN n) else .inr (.inl ()):Int⊕(Unit⊕(Int×Int)))) (λw=> .inr (w,(l.length:Int))) (λ_ w=>0<=w∧w<=1048576)
   (by
    intro i n w hi hw;have hlt:=(G9.1 hi).1;have hfn:=hf n (Gy hi);simp only[lK,M.BM,M.wJ,dn,bU,jK,hi,He,ah,Lp,NR,NQ,NS,Jo];rw[zdt (by omega),aT,alL n o w hw.1 hw.2 hfn.text hfn.other hfn.kids,ah]
    by_cases c2:(wN n:Int)<=w
    ·rw[if_pos c2,qN (by omega),cu,if_pos c2,aC (by omega) (by omega)];simp
    ·rw[if_neg c2,zdt (by omega),aT,if_neg c2])
   (by
    intro i n w w' hi hw he
    by_cases c2:(wN n:Int)<=w
    ·simp only[c2,if_true,Sum.inl.injEq] at he;omega
    ·simp[c2] at he)
   (by intro w hw;simp only[lK,M.BM,M.wJ,dn];rw[qN (by omega),cu])
   (L - l.length) (by omega)
  have h0':((0:Nat):Int)=0:=rfl;simp only[h0'] at hloop;rw[M.Fh,hloop,ah,aoW l l.length _ (by omega)]
  by_cases c2:(wNs l:Int)<=L - l.length
  ·rw[if_pos c2,if_pos (by omega)];rfl
  ·rw[if_neg c2,if_neg (by omega)];rfl
 ·rw[zdt (by omega),aT,if_neg (by omega)]
def akx{l:List Nd}{n:Nd}(h:n∈l):wN n<=wNs l:=by
 induction l with
 |nil=>simp at h
 |cons m l ih=>
  have hw:wNs (m::l)=wN m+wNs l:=rfl;rcases List.mem_cons.1 h with rfl|h
  ·omega
  ·have:=ih h;omega
def OJ{α:Type}(a:List α)(b:List α)(x y:α):(a++x::b).set a.length y=a++y::b:=by
 induction a with
 |nil=>rfl
 |cons z a ih=>simp[ih]
def filled{α β:Type}(f:α->β)(z:β)(l:List α)(i:Nat):List β:=(l.take i).map f++List.replicate (l.length - i) z
def Y0{α β:Type}(f:α->β)(z:β)(l:List α):filled f z l 0=List.replicate l.length z:=by simp[filled]
def abu{α β:Type}(f:α->β)(z:β)(l:List α):filled f z l l.length=l.map f:=by simp[filled]
def abv{α β:Type}(f:α->β)(z:β)(l:List α){i:Nat}(h:i<l.length):(filled f z l i)[i]? =some z:=by unfold filled;rw[List.getElem?_append_right (by simp;omega)];simp[List.getElem?_replicate];omega
def abw{α β:Type}(f:α->β)(z:β)(l:List α){i:Nat}{x:α}(h:l[i]? =some x):(filled f z l i).set i (f x)=filled f z l (i+1):=by
 have hlt:=(G9.1 h).1;unfold filled;have hn:l.length - i=(l.length - (i+1))+1:=by omega
 rw[hn,List.replicate_succ];have hl:((l.take i).map f).length=i:=by simp;omega
 have:=OJ ((l.take i).map f) (List.replicate (l.length - (i+1)) z) z (f x);rw[hl] at this;rw[this,List.take_add_one,h];simp
def alM(k:List Int)(hk:k.length<=1048576):M.zB (encI k)=some (encI k):=by
 simp only[M.zB,M.JI,aU];rw[zdt (by omega),zdt (by omega),zdt (by omega),zdt (by omega)];simp only[Bool.and_true,aT,QS];have hloop:=fF (b:=M.Eb (encI k)) (t:=((k.length:Int),encI k)) (λi=>((i:Int),filled (λx=>[D.int .i64 x]) [D.int .i64 0] k i)) k.length
  (by
   intro i hi;obtain⟨x,hx⟩:∃x,k[i]? =some x:=⟨k[i],by simp[hi]⟩
   simp only[M.Eb,M.yM,aU,bU,kU,hx,He,ah,MI,QS,abv _ _ k hi];rw[zdt (by omega),aT,aC (by omega) (by omega)];have hs:splice [D.int IntKind.i64 0] 0 [D.int IntKind.i64 x]=[D.int IntKind.i64 x]:=rfl;rw[hs,abw (λx=>[D.int .i64 x]) _ k hx];simp)
  (by simp only[M.Eb,M.yM,aU];rw[qN (by omega),cu,abu];rfl) 0 (Nat.zero_le _)
 rw[M.Hz];simp only[Y0] at hloop;have h0':((0:Nat):Int)=0:=rfl;rw[h0'] at hloop;rw[hloop,ah];simp
def alN(n:Nd)(hk:n.kids.length<=1048576):M.zC n.kind n.op n.text n.other (encI n.kids)=some (n.kind,n.op,n.text,n.other,encI n.kids):=by simp only[M.zC,M.JJ];rw[alM _ hk,ah];simp
def ajp(l:List Nd)(o:Bool)(hl:l.length<=1048576)(hk:∀n,n∈l->n.kids.length<=1048576):M.oh (aQ o l)=some (aQ true l):=by
 simp only[M.oh,M.HY,dn];rw[zdt (by omega),zdt (by omega),zdt (by omega),zdt (by omega)];simp only[Bool.and_true,aT,QS];have hloop:=fF (b:=M.BN (aQ o l)) (t:=((l.length:Int),aQ true l)) (λi=>((i:Int),filled (KN true) [D.int IntKind.i64 0,D.int IntKind.i64 0,D.str [],D.str [],D.sl true 1 []] l i)) l.length
  (by
   intro i hi;obtain⟨x,hx⟩:∃x,l[i]? =some x:=⟨l[i],by simp[hi]⟩
   have hkx:=hk x (Gy hx);simp only[lK,M.BN,M.wL,dn,bU,jK,hx,He,ah,Lp,NR,NQ,NS,Jo,alN x hkx,QS,abv _ _ l hi,Bh,aT];rw[zdt (by omega),aT,aC (by omega) (by omega)];have hs:splice [D.int IntKind.i64 0,D.int IntKind.i64 0,D.str [],D.str [],D.sl true 1 []] 0 [D.int IntKind.i64 x.kind,D.int IntKind.i64 x.op,D.str x.text,D.str x.other,D.sl true 1 (encI x.kids)]=KN true x:=rfl;rw[hs,abw (KN true) _ l hx];simp)
  (by simp only[lK,M.BN,M.wL,dn];rw[qN (by omega),cu,abu];rfl) 0 (Nat.zero_le _)
 rw[M.Fj];simp only[Y0] at hloop;have h0':((0:Nat):Int)=0:=rfl;rw[h0'] at hloop;rw[hloop,ah]
def ahH(k:List Int)(hk:k.length<=maxLen):M.zT (encI k) (encI k)=some true:=by
 unfold maxLen at hk;simp only[M.zT,M.Ky,bne_self_eq_false,cu];have hloop:=fF (b:=M.EM (encI k) (encI k)) (t:=.inr ((k.length:Int))) (λi=>(i:Int)) k.length
  (by
   intro i hi;obtain⟨x,hx⟩:∃x,k[i]? =some x:=⟨k[i],by simp[hi]⟩
   simp only[M.EM,M.zi,aU,bU,kU,hx,He,ah,MI,bne_self_eq_false,cu];rw[zdt (by omega),aT,aC (by omega) (by omega)];simp)
  (by simp only[M.EM,M.zi,aU];rw[qN (by omega),cu]) 0 (Nat.zero_le _)
 have h0':((0:Nat):Int)=0:=rfl;rw[h0'] at hloop;rw[M.IV,hloop,ah];rfl
def ahI(n:Nd)(hk:n.kids.length<=maxLen):M.zU n.kind n.op n.text n.other (encI n.kids) n.kind n.op n.text n.other (encI n.kids)=some true:=by simp only[M.zU,M.Kz,bne_self_eq_false,cu,beq_self_eq_true,Bool.not_true];rw[ahH _ hk];rfl
def aeM(l:List Nd)(o o':Bool)(hl:l.length<=maxLen)(hk:∀n,n∈l->n.kids.length<=maxLen):M.wI (aQ o l) (aQ o' l)=some true:=by
 unfold maxLen at hl;simp only[M.wI,M.IW,dn,bne_self_eq_false,cu];have hloop:=fF (b:=M.CW (aQ o l) (aQ o' l)) (t:=.inr ((l.length:Int))) (λi=>(i:Int)) l.length
  (by
   intro i hi;obtain⟨x,hx⟩:∃x,l[i]? =some x:=⟨l[i],by simp[hi]⟩
   simp only[lK,M.CW,M.xJ,dn,bU,jK,hx,He,ah,Lp,NR,NQ,NS,Jo,ahI x (hk x (Gy hx)),Bool.not_true,cu];rw[zdt (by omega),aT,aC (by omega) (by omega)];simp)
  (by simp only[lK,M.CW,M.xJ,dn];rw[qN (by omega),cu]) 0 (Nat.zero_le _)
 have h0':((0:Nat):Int)=0:=rfl;rw[h0'] at hloop;rw[M.Gf,hloop,ah];rfl
end Go.Proofs.YtbgadfelmhoheaaGreatDoor
