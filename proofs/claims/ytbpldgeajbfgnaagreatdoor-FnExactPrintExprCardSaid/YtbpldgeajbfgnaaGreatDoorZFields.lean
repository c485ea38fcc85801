import Derived.Test.YtbpldgeajbfgnaaGreatDoorPForms4
import Derived.Test.YtbpldgeajbfgnaaGreatDoorVm4
import Derived.Lib.IndexLaws
set_option linter.defProp false
namespace Go.Proofs.YtbpldgeajbfgnaaGreatDoor
set_option linter.unusedVariables false
set_option linter.unusedSimpArgs false
set_option linter.unusedSectionVars false
open Go Go.Vm
open Go.IntKind (i64)
def aU:(∀a b:Int,(a>=b)=(b<=a))∧(∀a b:Int,(a>b)=(b<a))∧(∀h:Decidable True,@decide True h=true)∧(∀h:Decidable False,@decide False h=false)∧(∀(α:Type) (a b:α),cond true a b=a)∧(∀(α:Type) (a b:α),cond false a b=b)∧(∀b:Bool,(b && true)=b)∧(∀b:Bool,(b && false)=false)∧(∀b:Bool,(true && b)=b)∧(∀b:Bool,(false && b)=false)∧((!true)=false)∧((!false)=true):=
 ⟨λ_ _=>rfl,λ_ _=>rfl,λh=>@decide_eq_true True h trivial,λh=>@decide_eq_false False h id,λ_ _ _=>rfl,λ_ _ _=>rfl,λb=>by cases b<;>rfl,λb=>by cases b<;>rfl,λ_=>rfl,λ_=>rfl,rfl,rfl⟩
def dN{m n:Nat}(h:m<=n):m.ble n=true:=Nat.ble_eq_true_of_le h
def ah{α β:Type}(a:α)(f:α->Option β):(some a).bind f=f a:=rfl
def rE:((0:Nat):Int)=0:=rfl
def L6(s:aC)(a:Int):Int:=if 0<=a then(match s[a.toNat]? with|some c=>(c.toNat:Int)|none=> -1) else -1
def isD(b:Int):Bool:=decide (b>=48) && decide (b<=57)
def GV(s:aC)(a:Int):Int:=if 0<=a then a+(((s.drop a.toNat).takeWhile λc=>isD (c.toNat:Int)).length:Nat) else a
def ahT(c:UInt8):c.toNat<256:=c.toNat_lt
def NW(s:aC)(i:Nat):L6 s (i:Int)=(match s[i]? with|some c=>(c.toNat:Int)|none=> -1):=by rw[L6,if_pos (by omega),O9]
section
variable {s:aC} (h:s.length<=1048576)
include h
theorem IZ(a:Int):M.fC s a=some (L6 s a):=by
 simp only[M.fC,M.JW]
 by_cases h0:a<0
 ·rw[zdt h0,bW,L6,if_neg (by omega)]
 ·rw[uh h0,dP];obtain⟨i,rfl⟩:∃i:Nat,a=i:=⟨a.toNat,by omega⟩
  rw[NW]
  by_cases h1:(i:Int)>=(s.length:Int)
  ·rw[zdt h1,bW,List.getElem?_eq_none (by omega)]
  ·obtain⟨c,hc⟩:∃c,s[i]? =some c:=⟨s[i]'(by omega),by simp⟩
   have:=ahT c;rw[uh h1,dP,dF,hc,ah,aG (by omega) (by omega)]
theorem I4(a:Int):M.jq s a=some (L6 s a):=by
 simp only[M.jq,M.J9,M.cO,M.uJ];rw[aG (by omega) (by omega)]
 by_cases h0:a<0
 ·rw[uh (by omega),dP,ah,Bool.not_false,bW,L6,if_neg (by omega)]
 ·rw[zdt (by omega),bW,ah];obtain⟨i,rfl⟩:∃i:Nat,a=i:=⟨a.toNat,by omega⟩
  rw[NW]
  by_cases h1:(i:Int)>=(s.length:Int)
  ·rw[uh (by omega),Bool.not_false,bW,List.getElem?_eq_none (by omega)]
  ·obtain⟨c,hc⟩:∃c,s[i]? =some c:=⟨s[i]'(by omega),by simp⟩
   have:=ahT c;rw[zdt (by omega),Bool.not_true,dP,dF,hc,ah,aG (by omega) (by omega)]
end
def ahU(b:Int):M.qU b=some (isD b):=by simp only[M.qU,M.H9,M.dh,M.wY,isD];cases decide (b>=48)<;>rfl
def ahV(b:Int):M.qX b=some (isD b):=by simp only[M.qX,M.Iq,isD];cases decide (b>=48)<;>rfl
def asw{s:aC}{b:Int->Option (Int⊕Int)}(hb:∀a,0<=a->a<=2000000->b a=some (bif isD (L6 s a) then .inl (a+1) else .inr a))(h:s.length<=1048576):
  ∀(rest pre:aC),s=pre++rest->fF b (pre.length:Int)=some ((pre.length:Int)+((rest.takeWhile λc=>isD (c.toNat:Int)).length:Nat))
 |[],pre,e=>by
  have hl:pre.length=s.length:=by rw[e];simp
  refine dD ?_;rw[hb _ (by omega) (by omega),NW,List.getElem?_eq_none (by omega)];simp[isD]
 |c::rest,pre,e=>by
  have hl:s.length=pre.length+(rest.length+1):=by rw[e];simp
  have hget:s[pre.length]? =some c:=by rw[e,List.getElem?_append_right (Nat.le_refl _),Nat.sub_self];rfl
  have hs:=hb (pre.length:Int) (by omega) (by omega);rw[NW,hget] at hs;simp only at hs;cases hd:isD (c.toNat:Int) with
  |true=>have:=asw hb h rest (pre++[c]) (by rw[e];simp);rw[vS,GX] at this;rw[hd,bW] at hs;rw[eF hs,List.takeWhile_cons,if_pos hd,show(pre.length:Int)+1=((pre.length+1:Nat):Int) by omega,this];simp;omega
  |false=>rw[hd,dP] at hs;rw[dD hs,List.takeWhile_cons,hd];simp
def ao1{s:aC}{b:Int->Option (Int⊕Int)}(hb:∀a,0<=a->a<=2000000->b a=some (bif isD (L6 s a) then .inl (a+1) else .inr a))(h:s.length<=1048576)(a:Int)(h0:0<=a)(h1:a<=2000000):fF b a=some (GV s a):=by
 obtain⟨i,rfl⟩:∃i:Nat,a=i:=⟨a.toNat,by omega⟩
 rw[GV,if_pos h0,O9]
 by_cases hi:i<=s.length
 ·have:=asw hb h (s.drop i) (s.take i) (List.take_append_drop i s).symm;rw[U2,Nat.min_eq_left hi] at this;exact this
 ·rw[List.drop_eq_nil_of_le (by omega)];refine dD ?_;rw[hb _ h0 h1,NW,List.getElem?_eq_none (by omega)];simp[isD]
def P6{s:aC}(h:s.length<=1048576){a:Int}(h0:0<=a):a<=GV s a∧(GV s a<=a∨GV s a<=s.length):=by have h1:=(List.takeWhile_sublist (p:=λc:UInt8=>isD (c.toNat:Int)) (l:=s.drop a.toNat)).length_le;rw[List.length_drop] at h1;rw[GV,if_pos h0];omega
section
variable {s:aC} (h:s.length<=1048576)
include h
theorem zq(a:Int)(h0:0<=a)(h1:a<=2000000):M.aX s a=some (GV s a):=by simp only[M.aX,M.Fg,M.DY];rw[ao1 (λa h0 h1=>by simp only[M.MS,M.Af,IZ h,ahU,ah];rw[aG (by omega) (by omega)];cases isD (L6 s a)<;>rfl) h a h0 h1,ah]
theorem xY(a:Int)(h0:0<=a)(h1:a<=2000000):M.eU s a=some (GV s a):=by simp only[M.eU,M.Eb,M.BZ];rw[ao1 (λa h0 h1=>by simp only[M.Lr,M.yH,I4 h,ahV,ah];rw[aG (by omega) (by omega)];cases isD (L6 s a)<;>rfl) h a h0 h1,ah]
end
def Xy(s:aC)(r:Int):Int:=bif(L6 s r==101)||(L6 s r==69) then
  (bif(L6 s (r+1)==43)||(L6 s (r+1)==45) then(bif decide (GV s (r+1+1)>r+1+1) then GV s (r+1+1) else r) else(bif decide (GV s (r+1)>r+1) then GV s (r+1) else r)) else r
def abg(s:aC)(a:Int):Int:=if a<0∨(s.length:Int)<=a then -1 else
 bif L6 s (GV s a)==46 then(bif(GV s a==a) &&(GV s (GV s a+1)==GV s a+1) then -1 else Xy s (GV s (GV s a+1))) else(bif GV s a==a then -1 else Xy s (GV s a))
section
variable {s:aC} (h:s.length<=1048576)
include h
set_option maxHeartbeats 2000000 in
theorem abh(a:Int)(ha:a<=1048576):M.zO s a=some (abg s a):=by
 simp only[M.zO,M.Ko,M.cO,M.uJ,abg];rw[aG (by omega) (by omega)]
 by_cases h0:a<0
 ·rw[uh (by omega),dP,ah,Bool.not_false,bW,if_pos (.inl h0)]
 ·rw[zdt (by omega),bW,ah]
  by_cases h1:(s.length:Int)<=a
  ·rw[uh (by omega),Bool.not_false,bW,if_pos (.inr h1)]
  ·rw[zdt (by omega),Bool.not_true,dP,if_neg (by omega),xY h a (by omega) (by omega),ah];have e1:=P6 h (a:=a) (by omega);generalize hE:GV s a=e at e1⊢;simp only[I4 h,ah];rw[aG (n:=e+1) (by omega) (by omega),aG (n:=e - a) (by omega) (by omega),xY h (e+1) (by omega) (by omega),ah];have e2:=P6 h (a:=e+1) (by omega);generalize hK:GV s (e+1)=k at e2⊢;have hz:(i64.wrap (e - a+i64.wrap (i64.wrap (k - e) - 1))==0)=((e==a) &&(k==e+1)):=by rw[aG (n:=k - e) (by omega) (by omega),aG (n:=k - e - 1) (by omega) (by omega),aG (by omega) (by omega),Bool.eq_iff_iff];simp only[AL,beq_iff_eq];omega
   have hz2:(e - a==0)=(e==a):=by rw[Bool.eq_iff_iff];simp only[beq_iff_eq];omega
   rw[hz,hz2];have ex:∀r:Int,0<=r->r<=1048578->(bif L6 s r==101 then
      ((some (L6 s (i64.wrap (r+1)))).bind λaG7=>
      (bif aG7==43 then
       ((M.eU s (i64.wrap (i64.wrap (r+1)+1))).bind λaG8=>
       (bif decide (aG8>i64.wrap (i64.wrap (r+1)+1)) then(some aG8) else(some r))) else
       (bif aG7==45 then
       ((M.eU s (i64.wrap (i64.wrap (r+1)+1))).bind λaG9=>(bif decide (aG9>i64.wrap (i64.wrap (r+1)+1)) then(some aG9) else(some r))) else
       ((M.eU s (i64.wrap (r+1))).bind λaHa=>(bif decide (aHa>i64.wrap (r+1)) then(some aHa) else(some r)))))) else
      (bif L6 s r==69 then
      ((some (L6 s (i64.wrap (r+1)))).bind λaHb=>
       (bif aHb==43 then
       ((M.eU s (i64.wrap (i64.wrap (r+1)+1))).bind λaHc=>(bif decide (aHc>i64.wrap (i64.wrap (r+1)+1)) then(some aHc) else(some r))) else
       (bif aHb==45 then
        ((M.eU s (i64.wrap (i64.wrap (r+1)+1))).bind λaHd=>
        (bif decide (aHd>i64.wrap (i64.wrap (r+1)+1)) then(some aHd) else(some r))) else
        ((M.eU s (i64.wrap (r+1))).bind λaHe=>(bif decide (aHe>i64.wrap (r+1)) then(some aHe) else(some r)))))) else(some r)))=some (Xy s r):=by
    intro r h0 h1;rw[aG (n:=r+1) (by omega) (by omega),aG (n:=r+1+1) (by omega) (by omega),xY h (r+1) (by omega) (by omega),xY h (r+1+1) (by omega) (by omega),Xy];simp only[ah];cases L6 s r==101<;>cases L6 s r==69<;>cases L6 s (r+1)==43<;>cases L6 s (r+1)==45<;>cases decide (GV s (r+1+1)>r+1+1)<;>cases decide (GV s (r+1)>r+1)<;>rfl
   simp only[ah] at ex;cases L6 s e==46 with
   |true=>
    simp only[bW];cases(e==a) &&(k==e+1) with
    |true=>rfl
    |false=>simp only[dP];exact ex k (by omega) (by omega)
   |false=>
    simp only[dP];cases e==a with
    |true=>rfl
    |false=>simp only[dP];have h2:=ex e (by omega) (by omega);rw[aG (n:=e+1) (by omega) (by omega),xY h (e+1) (by omega) (by omega),hK] at h2;simp only[ah] at h2;exact h2
theorem abj(a:Int)(ha:a<=1048576):M.zJ s a=some (abg s a):=by
 simp only[M.zJ,M.JX,abg]
 by_cases h0:a<0
 ·rw[zdt h0,bW,if_pos (.inl h0)]
 ·rw[uh h0,dP];have e1:=P6 h (a:=a) (by omega);rw[zq h a (by omega) (by omega),ah];simp only[IZ h,ah]
  by_cases h1:(s.length:Int)<=a
  ·have he:GV s a=a:=by omega
   obtain⟨i,rfl⟩:∃i:Nat,a=i:=⟨a.toNat,by omega⟩
   have hb:L6 s (i:Int)= -1:=by rw[NW,List.getElem?_eq_none (by omega)]
   rw[he,hb,if_pos (.inr h1),show((-1:Int)==46)=false from rfl,dP,beq_self_eq_true,bW]
  ·rw[if_neg (by omega)];generalize hE:GV s a=e at e1⊢;have e2:=P6 h (a:=e+1) (by omega);rw[aG (n:=e+1) (by omega) (by omega),zq h (e+1) (by omega) (by omega),ah];have ex:∀r:Int,0<=r->r<=1048578->(bif L6 s r==101 then
      (bif L6 s (i64.wrap (r+1))==43 then
       ((M.aX s (i64.wrap (i64.wrap (r+1)+1))).bind λatb=>
        (bif decide (atb>i64.wrap (i64.wrap (r+1)+1)) then
        ((M.aX s (i64.wrap (i64.wrap (r+1)+1))).bind λatc=>(some atc)) else(some r))) else
        (bif L6 s (i64.wrap (r+1))==45 then
        ((M.aX s (i64.wrap (i64.wrap (r+1)+1))).bind λatd=>
         (bif decide (atd>i64.wrap (i64.wrap (r+1)+1)) then
         ((M.aX s (i64.wrap (i64.wrap (r+1)+1))).bind λate=>(some ate)) else(some r))) else
        ((M.aX s (i64.wrap (r+1))).bind λatf=>(bif decide (atf>i64.wrap (r+1)) then((M.aX s (i64.wrap (r+1))).bind λatg=>(some atg)) else(some r))))) else
       (bif L6 s r==69 then
        (bif L6 s (i64.wrap (r+1))==43 then
        ((M.aX s (i64.wrap (i64.wrap (r+1)+1))).bind λath=>
         (bif decide (ath>i64.wrap (i64.wrap (r+1)+1)) then
         ((M.aX s (i64.wrap (i64.wrap (r+1)+1))).bind λati=>(some ati)) else(some r))) else
         (bif L6 s (i64.wrap (r+1))==45 then
         ((M.aX s (i64.wrap (i64.wrap (r+1)+1))).bind λatj=>
          (bif decide (atj>i64.wrap (i64.wrap (r+1)+1)) then
          ((M.aX s (i64.wrap (i64.wrap (r+1)+1))).bind λatl=>(some atl)) else(some r))) else
         ((M.aX s (i64.wrap (r+1))).bind λatm=>(bif decide (atm>i64.wrap (r+1)) then((M.aX s (i64.wrap (r+1))).bind λatn=>(some atn)) else(some r))))) else(some r)))=some (Xy s r):=by
    intro r h0 h1;rw[aG (n:=r+1) (by omega) (by omega),aG (n:=r+1+1) (by omega) (by omega),zq h (r+1) (by omega) (by omega),zq h (r+1+1) (by omega) (by omega),Xy];simp only[ah];cases L6 s r==101<;>cases L6 s r==69<;>cases L6 s (r+1)==43<;>cases L6 s (r+1)==45<;>cases decide (GV s (r+1+1)>r+1+1)<;>cases decide (GV s (r+1)>r+1)<;>rfl
   generalize hK:GV s (e+1)=k at e2⊢;have hka:(k==a)=false:=by rw[Nw];omega
   rw[hka];cases L6 s e==46 with
   |true=>
    simp only[bW,dP];cases e==a with
    |true=>
     simp only[bW,Bool.true_and];cases k==e+1 with
     |true=>rfl
     |false=>simp only[dP];exact ex k (by omega) (by omega)
    |false=>simp only[dP,Bool.false_and];exact ex k (by omega) (by omega)
   |false=>
    simp only[dP];cases e==a with
    |true=>rfl
    |false=>simp only[dP];have h2:=ex e (by omega) (by omega);rw[aG (n:=e+1) (by omega) (by omega),zq h (e+1) (by omega) (by omega),hK] at h2;simp only[ah] at h2;exact h2
end
def acH(q:Int):aC->Int->Int
 |[],_=> -1
 |c::l,i=>if(c.toNat:Int)=q then i+1 else if(c.toNat:Int)=10 then -1 else if(c.toNat:Int)=92 then(match l with
   |[]=> -1
   |d::l'=>if(d.toNat:Int)=10 then -1 else acH q l' (i+2)) else acH q l (i+1)
def adF(q:Int)(c:UInt8)(l:aC)(i:Int):acH q (c::l) i=if(c.toNat:Int)=q then i+1 else if(c.toNat:Int)=10 then -1 else if(c.toNat:Int)=92 then(match l with
   |[]=> -1
   |d::l'=>if(d.toNat:Int)=10 then -1 else acH q l' (i+2)) else acH q l (i+1):=by
 cases l with
 |nil=>simp[acH]
 |cons d l=>simp[acH]
def hdI:aC->Int
 |[]=> -1
 |d::_=>(d.toNat:Int)
def quoted(s:aC)(a q:Int):Int:=if L6 s a=q then acH q (s.drop (a+1).toNat) (a+1) else -1
def ao2{s:aC}(h:s.length<=1048576)(q:Int)(hq:q≠10):∀(n:Nat) (rest pre:aC),rest.length<=n->s=pre++rest->
  (∃r,M.qL s q (pre.length:Int)=some r∧(nX r some λu=>letE u λ_=>some (-1))=some (acH q rest (pre.length:Int)))∧
  (∃r,M.oU s q (pre.length:Int)=some r∧(nX r some λu=>letE u λ_=>some (-1))=some (acH q rest (pre.length:Int)))
 |n,[],pre,hn,e=>by
  have hl:pre.length=s.length:=by rw[e];simp
  constructor
  ·refine⟨.inr (pre.length:Int), ?_,rfl⟩;rw[M.qL];refine dD ?_;simp only[M.uY,M.qK];rw[uh (by omega),dP]
  ·refine⟨.inr (pre.length:Int), ?_,rfl⟩;rw[M.oU];refine dD ?_;simp only[M.tV,M.pG];rw[uh (by omega),dP]
 |0,c::rest,pre,hn,e=>by simp at hn
 |n+1,c::rest,pre,hn,e=>by
  simp only[vX] at hn;have hl:s.length=pre.length+(rest.length+1):=by rw[e];simp
  have hget:s[pre.length]? =some c:=by rw[e,List.getElem?_append_right (Nat.le_refl _),Nat.sub_self];rfl
  have hc:=ahT c;have hw:i64.wrap ((c.toNat:Nat):Int)=(c.toNat:Int):=aG (by omega) (by omega);have hw1:i64.wrap ((pre.length:Int)+1)=((pre.length+1:Nat):Int):=by rw[aG (by omega) (by omega)];omega
  have hw2:i64.wrap (((pre.length+1:Nat):Int)+1)=((pre.length+2:Nat):Int):=by rw[aG (by omega) (by omega)];omega
  have hnext:L6 s ((pre.length+1:Nat):Int)=hdI rest:=by rw[NW,e,List.getElem?_append_right (by omega),show pre.length+1 - pre.length=1 by omega];cases rest<;>rfl
  have hS:M.uY s q (pre.length:Int)=some (if(c.toNat:Int)=q then .inr (.inl ((pre.length+1:Nat):Int)) else if(c.toNat:Int)=10 then .inr (.inl (-1)) else if(c.toNat:Int)=92 then
    (if L6 s ((pre.length+1:Nat):Int)=10 then .inr (.inl (-1)) else .inl ((pre.length+2:Nat):Int)) else .inl ((pre.length+1:Nat):Int)):=by
   simp only[M.uY,M.qK,dF,hget,ah,hw,hw1,hw2,IZ h];rw[zdt (by omega),bW]
   by_cases c1:(c.toNat:Int)=q
   ·rw[if_pos c1,show((c.toNat:Int)==q)=true by simpa using c1,bW]
   ·rw[if_neg c1,show((c.toNat:Int)==q)=false by simpa using c1,dP]
    by_cases c2:(c.toNat:Int)=10
    ·rw[if_pos c2,show((c.toNat:Int)==10)=true by simpa using c2,bW]
    ·rw[if_neg c2,show((c.toNat:Int)==10)=false by simpa using c2,dP]
     by_cases c3:(c.toNat:Int)=92
     ·rw[if_pos c3,show((c.toNat:Int)==92)=true by simpa using c3,bW]
      by_cases c4:L6 s ((pre.length+1:Nat):Int)=10
      ·rw[if_pos c4,c4];rfl
      ·rw[if_neg c4,show(L6 s ((pre.length+1:Nat):Int)==10)=false by simpa using c4,dP]
     ·rw[if_neg c3,show((c.toNat:Int)==92)=false by simpa using c3,dP]
  have hI:M.tV s q (pre.length:Int)=some (if(c.toNat:Int)=10 then .inr (.inr (pre.length:Int)) else if(c.toNat:Int)=q then .inr (.inl ((pre.length+1:Nat):Int)) else if(c.toNat:Int)=92 then
    (if L6 s ((pre.length+1:Nat):Int)=10 then .inl ((pre.length+1:Nat):Int) else .inl ((pre.length+2:Nat):Int)) else .inl ((pre.length+1:Nat):Int)):=by
   simp only[M.tV,M.pG,dF,hget,ah,hw,hw1,hw2,I4 h];rw[zdt (by omega),bW]
   by_cases c2:(c.toNat:Int)=10
   ·rw[if_pos c2,show((c.toNat:Int) !=10)=false by simpa using c2,dP]
   ·rw[if_neg c2,show((c.toNat:Int) !=10)=true by simpa using c2,bW]
    by_cases c1:(c.toNat:Int)=q
    ·rw[if_pos c1,show((c.toNat:Int)==q)=true by simpa using c1,bW]
    ·rw[if_neg c1,show((c.toNat:Int)==q)=false by simpa using c1,dP]
     by_cases c3:(c.toNat:Int)=92
     ·rw[if_pos c3,show((c.toNat:Int)==92)=true by simpa using c3,bW]
      by_cases c4:L6 s ((pre.length+1:Nat):Int)=10
      ·rw[if_pos c4,c4];rfl
      ·rw[if_neg c4,show(L6 s ((pre.length+1:Nat):Int) !=10)=true by simpa using c4,bW]
     ·rw[if_neg c3,show((c.toNat:Int)==92)=false by simpa using c3,dP]
  have e1:s=(pre++[c])++rest:=by rw[e];simp
  have ih1:=ao2 h q hq n rest (pre++[c]) (by omega) e1;rw[vS,GX] at ih1;rw[M.qL,M.oU] at ih1⊢;rw[adF]
  by_cases c1:(c.toNat:Int)=q
  ·have c2:¬(c.toNat:Int)=10:=by omega
   rw[if_pos c1];rw[if_pos c1] at hS;rw[if_neg c2,if_pos c1] at hI;refine⟨⟨_,dD hS, ?_⟩,⟨_,dD hI, ?_⟩⟩<;>simp[nX]
  ·rw[if_neg c1];rw[if_neg c1] at hS
   by_cases c2:(c.toNat:Int)=10
   ·rw[if_pos c2];rw[if_pos c2] at hS hI;exact⟨⟨_,dD hS,rfl⟩,⟨_,dD hI,rfl⟩⟩
   ·rw[if_neg c2];rw[if_neg c2] at hS hI;rw[if_neg c1] at hI
    by_cases c3:(c.toNat:Int)=92
    ·rw[if_pos c3];rw[if_pos c3] at hS hI;cases rest with
     |nil=>
      rw[hnext,hdI] at hS hI;simp only[show¬((-1:Int)=10) by omega,if_false] at hS hI;have hend:∀(b:Int->Option (Int⊕(Int⊕Int))),True:=λ_=>trivial
      simp only[EN] at hl;refine⟨⟨.inr ((pre.length+2:Nat):Int), ?_,rfl⟩,⟨.inr ((pre.length+2:Nat):Int), ?_,rfl⟩⟩
      ·rw[eF hS];refine dD ?_;simp only[M.uY,M.qK];rw[uh (by omega),dP]
      ·rw[eF hI];refine dD ?_;simp only[M.tV,M.pG];rw[uh (by omega),dP]
     |cons d rest'=>
      simp only[hdI] at hnext⊢;rw[hnext] at hS hI
      by_cases c4:(d.toNat:Int)=10
      ·rw[if_pos c4];rw[if_pos c4] at hS hI;refine⟨⟨_,dD hS,rfl⟩, ?_⟩;obtain⟨r,h1,h2⟩:=ih1.2;refine⟨r,by rw[eF hI];exact h1, ?_⟩;rw[h2,adF,if_neg (by omega),if_pos c4]
      ·rw[if_neg c4];rw[if_neg c4] at hS hI;have e2:s=(pre++[c,d])++rest':=by rw[e];simp
       simp only[vX] at hn;have ih2:=ao2 h q hq n rest' (pre++[c,d]) (by omega) e2;rw[vS,show[c,d].length=2 from rfl,M.qL,M.oU] at ih2;rw[eF hS,eF hI,show(pre.length:Int)+2=((pre.length+2:Nat):Int) by omega];exact ih2
    ·rw[if_neg c3];rw[if_neg c3] at hS hI;rw[eF hS,eF hI,show(pre.length:Int)+1=((pre.length+1:Nat):Int) by omega];exact ih1
section
variable {s:aC} (h:s.length<=1048576)
include h
theorem adG(a q:Int)(h0:0<=a)(h1:a<=1048576)(hq:0<=q)(hq2:q≠10):M.oh s a q=some (quoted s a q)∧M.mV s a q=some (quoted s a q):=by
 simp only[M.oh,M.Fh,M.mV,M.Ec,IZ h,I4 h,ah,quoted]
 by_cases hb:L6 s a=q
 ·rw[if_pos hb,show(L6 s a !=q)=false by simpa using hb,dP,dP,aG (by omega) (by omega)];obtain⟨i,rfl⟩:∃i:Nat,a=i:=⟨a.toNat,by omega⟩
  have hi:i<s.length:=by
   rcases Nat.lt_or_ge i s.length with hlt|hge
   ·exact hlt
   ·rw[NW,List.getElem?_eq_none hge] at hb;simp only at hb;omega
  obtain⟨⟨r,k1,k2⟩,⟨r',k3,k4⟩⟩:=ao2 h q hq2 _ (s.drop (i+1)) (s.take (i+1)) (Nat.le_refl _) (List.take_append_drop _ s).symm;rw[U2,Nat.min_eq_left (by omega)] at k1 k2 k3 k4;rw[show(i:Int)+1=((i+1:Nat):Int) by omega,O9,k1,k3,ah,ah];exact⟨k2,k4⟩
 ·rw[if_neg hb,show(L6 s a !=q)=true by simpa using hb,bW,bW];exact⟨rfl,rfl⟩
theorem alM(a:Int)(h0:0<=a)(h1:a<=1048576):M.zK s a=some (quoted s a 34)∧M.zQ s a=some (quoted s a 34):=by have:=adG h a 34 h0 h1 (by omega) (by omega);simp only[M.zK,M.JY,M.zQ,M.Kq,this.1,this.2,ah];constructor<;>first|rfl|trivial
def abk(s:aC)(a:Int):Int:=bif quoted s a 47==a+2 then -1 else quoted s a 47
theorem alN(a:Int)(h0:0<=a)(h1:a<=1048576):M.zL s a=some (abk s a)∧M.zS s a=some (abk s a):=by have:=adG h a 47 h0 h1 (by omega) (by omega);simp only[M.zL,M.JZ,M.zS,M.Kr,this.1,this.2,ah,abk];rw[aG (by omega) (by omega)];cases quoted s a 47==a+2<;>simp
end
end Go.Proofs.YtbpldgeajbfgnaaGreatDoor
namespace Go.Proofs.YtbpldgeajbfgnaaGreatDoor
set_option linter.unusedVariables false
set_option linter.unusedSimpArgs false
set_option linter.unusedSectionVars false
open Go Go.Vm
open Go.IntKind (i64)
@[simp] theorem KO(l:List (aC)):(encS l).length=l.length:=by simp[encS]
@[simp] theorem Rn(l:List (aC))(i:Nat):(encS l)[i]? =(l[i]?).map λs=>[D.str s]:=by simp[encS]
def cS0(s:aC):cStr [D.str s] 0=some s:=rfl
def strsOf:Row->List (aC)
 |[]=>[]
 | .str s::r=>s::strsOf r
 |_::r=>strsOf r
def Ro:List (aC):=strsOf zD
def O1:List (aC):=strsOf MQ
def ahW:List (aC):=strsOf GI
def KP(s:aC):List (aC)->Int->Int
 |[],_=> -1
 |x::l,i=>if x==s then i else KP s l (i+1)
def YA(s:aC):∀(l:List (aC)) (i:Int),0<=i-> -1<=KP s l i∧KP s l i<i+l.length
 |[],i,h=>by simp[KP];omega
 |x::l,i,h=>by
  rw[KP];split
  ·simp;omega
  ·have:=YA s l (i+1) (by omega);simp only[vX];omega
def adH(s:aC)(l:List (aC))(hl:l.length<=1048576){b:Int->Option (Int⊕(Int⊕Int))}
  (hb:∀(i:Nat) x,l[i]? =some x->b (i:Int)=some (if x==s then .inr (.inl (i:Int)) else .inl ((i:Int)+1))) (he:b (l.length:Int)=some (.inr (.inr (l.length:Int)))):
  ∃r,fF b 0=some r∧(nX r some λu=>letE u λ_=>some (-1))=some (KP s l 0):=by
 have key:∀(t:List (aC)) (i:Nat),l.drop i=t->i<=l.length->∃r,fF b (i:Int)=some r∧(nX r some λu=>letE u λ_=>some (-1))=some (KP s t (i:Int)):=by
  intro t;induction t with
  |nil=>
   intro i hd hi;have:i=l.length:=by have:=congrArg List.length hd;simp at this;omega
   subst this;exact⟨_,dD he,rfl⟩
  |cons x t ih=>
   intro i hd hi;have hx:l[i]? =some x:=by
    have:(l.drop i)[0]? =some x:=by rw[hd];rfl
    simpa using this
   have hlt:i<l.length:=(Je.1 hx).1;have hd':l.drop (i+1)=t:=by rw[<-List.drop_drop,hd];rfl
   have hs:=hb i x hx;rw[KP];cases hxs:x==s with
   |true=>rw[hxs] at hs;exact⟨_,dD hs,rfl⟩
   |false=>
    rw[hxs] at hs;obtain⟨r,h1,h2⟩:=ih (i+1) hd' hlt;refine⟨r, ?_, ?_⟩
    ·rw[eF hs,show(i:Int)+1=((i+1:Nat):Int) by omega];exact h1
    ·rw[h2];simp
 exact key l 0 rfl (Nat.zero_le _)
def adI(s:aC)(l:List (aC))(hl:l.length<=1048576):M.uD (encS l) s=some (KP s l 0):=by
 obtain⟨r,h1,h2⟩:=adH s l hl (b:=M.DV (encS l) s)
  (λi x hx=>by have hi:=(Je.1 hx).1;simp only[M.DV,M.yS,KO,dF,Rn,hx,Jf,ah,cS0];rw[zdt (by omega),bW,aG (by omega) (by omega)];cases x==s<;>rfl)
  (by simp only[M.DV,M.yS,KO];rw[uh (by omega),dP])
 simp only[M.uD,M.JU,M.Ia];rw[h1,ah];exact h2
def abl(s:aC)(l:List (aC))(hl:l.length<=1048576):M.slices_Index (encS l) s=some (KP s l 0):=by
 obtain⟨r,h1,h2⟩:=adH s l hl (b:=M.BX (encS l) s (l.length:Int))
  (λi x hx=>by have hi:=(Je.1 hx).1;simp only[M.BX,M.xC,dF,Rn,hx,Jf,ah,cS0];rw[zdt (by omega),bW,aG (by omega) (by omega),show(s==x)=(x==s) by rw[Bool.eq_iff_iff,beq_iff_eq,beq_iff_eq];exact⟨Eq.symm,Eq.symm⟩];cases x==s<;>rfl)
  (by simp only[M.BX,M.xC];rw[uh (by omega),dP])
 simp only[M.slices_Index,M.Ir,M.FD,KO];rw[h1,ah];exact h2
def ao3(s:aC):Int:=if KP s Ro 0<0 then 0 else 10+KP s Ro 0
def YB(s:aC):Bool:=decide (KP s ahW 0>=0)
def ahX:M.uj=some (encS Ro):=rfl
def ahY:M.sW=some (encS ahW):=rfl
def ahZ:M.um=some (encS O1):=rfl
def au0:List.map (λx=>[x]) zD=encS Ro:=rfl
def aq8:List.map (λx=>[x]) GI=encS ahW:=rfl
def aeS(s:aC):M.rO s=some (ao3 s)∧M.rQ s=some (ao3 s):=by
 have hr:=YA s Ro 0 (by omega);have hl:Ro.length=17:=rfl;simp only[M.rO,M.DW,M.rQ,M.D9,ahX,au0,ah,adI s Ro (by rw[hl];omega),abl s Ro (by rw[hl];omega),ao3]
 by_cases h:KP s Ro 0<0
 ·rw[zdt h,bW,if_pos h];exact⟨rfl,rfl⟩
 ·rw[uh h,dP,if_neg h,aG (by omega) (by omega)];exact⟨rfl,rfl⟩
def dU(s:aC):M.jU s=some (YB s)∧M.kU s=some (YB s):=by have hl:ahW.length=21:=rfl;simp only[M.jU,M.DX,M.kU,M.Ea,M.slices_Contains,M.xE,ahY,aq8,ah,adI s ahW (by rw[hl];omega),abl s ahW (by rw[hl];omega),YB];constructor<;>first|rfl|trivial
def isL(b:Int):Bool:=(decide (b>=97) && decide (b<=122))||((decide (b>=65) && decide (b<=90))||(b==95))
def isW(b:Int):Bool:=isL b||isD b
def YC(b:Int):M.og b=some (isL b)∧M.oz b=some (isL b):=by simp only[M.og,M.Fb,M.dh,M.wY,M.oz,M.FC,isL];cases decide (b>=97)<;>cases decide (b<=122)<;>cases decide (b>=65)<;>cases decide (b<=90)<;>cases(b==95)<;>exact⟨rfl,rfl⟩
def KE(b:Int):M.jD b=some (isW b)∧M.jE b=some (isW b):=by simp only[M.jD,M.BM,M.jE,M.BR,YC,ahU,ahV,ah,isW];cases isL b<;>cases isD b<;>exact⟨rfl,rfl⟩
def ao4(s:aC):Bool:=s.all λc=>isW (c.toNat:Int)
def aQB:aC->Bool
 |[]=>false
 |c::_=>isL (c.toNat:Int)
def O4(s:aC):Bool:=ao4 s &&((decide ((s.length:Int)>=1) && decide ((s.length:Int)<=12)) && aQB s)
def abm(s:aC){b:Int->Option (Int⊕(Unit⊕Int))}
  (hb:∀(i:Nat) c,s[i]? =some c->b (i:Int)=some (bif isW (c.toNat:Int) then .inl ((i:Int)+1) else .inr (.inl ()))) (he:b (s.length:Int)=some (.inr (.inr (s.length:Int)))):
  fF b 0=some (bif ao4 s then .inr (s.length:Int) else .inl ()):=by
 have key:∀(t:aC) (i:Nat),s.drop i=t->i<=s.length->fF b (i:Int)=some (bif ao4 t then .inr (s.length:Int) else .inl ()):=by
  intro t;induction t with
  |nil=>
   intro i hd hi;have:i=s.length:=by have:=congrArg List.length hd;simp at this;omega
   subst this;exact dD he
  |cons x t ih=>
   intro i hd hi;have hx:s[i]? =some x:=by
    have:(s.drop i)[0]? =some x:=by rw[hd];rfl
    simpa using this
   have hlt:i<s.length:=(Je.1 hx).1;have hd':s.drop (i+1)=t:=by rw[<-List.drop_drop,hd];rfl
   have hs:=hb i x hx;rw[ao4,List.all_cons];cases hw:isW (x.toNat:Int) with
   |true=>rw[hw,bW] at hs;rw[eF hs,show(i:Int)+1=((i+1:Nat):Int) by omega,ih (i+1) hd' hlt,Bool.true_and];rfl
   |false=>rw[hw,dP] at hs;rw[dD hs];rfl
 exact key s 0 rfl (Nat.zero_le _)
def aeT(s:aC)(h:s.length<=1048576):M.rM s=some (O4 s)∧M.rP s=some (O4 s):=by
 have hw:∀c:UInt8,i64.wrap ((c.toNat:Nat):Int)=(c.toNat:Int):=λc=>by have:=ahT c;exact aG (by omega) (by omega)
 have h1:=abm s (b:=M.yF s)
  (λi c hc=>by have hi:=(Je.1 hc).1;simp only[M.yF,M.tJ,dF,hc,ah,hw,KE];rw[zdt (by omega),bW,aG (by omega) (by omega)];cases isW (c.toNat:Int)<;>rfl)
  (by simp only[M.yF,M.tJ];rw[uh (by omega),dP])
 have h2:=abm s (b:=M.yG s (s.length:Int))
  (λi c hc=>by have hi:=(Je.1 hc).1;simp only[M.yG,M.tN,dF,hc,ah,hw,KE];rw[zdt (by omega),bW,aG (by omega) (by omega)];cases isW (c.toNat:Int)<;>rfl)
  (by simp only[M.yG,M.tN];rw[uh (by omega),dP])
 simp only[M.rM,M.DU,M.rP,M.D8,M.BN,M.BU,M.dh,M.wY,M.cO,M.uJ];rw[h1,h2,ah,ah,O4];cases ao4 s with
 |false=>exact⟨rfl,rfl⟩
 |true=>
  simp only[bW,nX,letE,Bool.true_and];cases s with
  |nil=>exact⟨rfl,rfl⟩
  |cons c l=>have hi:idx (c::l) 0=some c:=rfl;simp only[hi,ah,hw,YC];cases decide (((c::l).length:Int)>=1)<;>cases decide (((c::l).length:Int)<=12)<;>exact⟨rfl,rfl⟩
def I5(s:aC):Bool:=O4 s &&((ao3 s==0) && !(YB s))
def bZ(s:aC)(h:s.length<=1048576):M.gW s=some (I5 s)∧M.jo s=some (I5 s):=by have h1:=aeT s h;simp only[M.gW,M.JV,M.jo,M.J8,h1.1,h1.2,aeS,dU,ah,I5];cases O4 s<;>cases ao3 s==0<;>cases YB s<;>exact⟨rfl,rfl⟩
end Go.Proofs.YtbpldgeajbfgnaaGreatDoor
namespace Go.Proofs.YtbpldgeajbfgnaaGreatDoor
set_option linter.unusedVariables false
set_option linter.unusedSimpArgs false
set_option linter.unusedSectionVars false
open Go Go.Vm
open Go.IntKind (i64)
def aHf(c:UInt8)(n:Nat)(h:n<256):(((c.toNat:Nat):Int)==(n:Int))=(c==UInt8.ofNat n):=by
 rw[Bool.eq_iff_iff,beq_iff_eq,beq_iff_eq];constructor
 ·intro e;apply UInt8.toNat_inj.1;rw[UInt8.toNat_ofNat',Nat.mod_eq_of_lt h];omega
 ·rintro rfl;rw[UInt8.toNat_ofNat',Nat.mod_eq_of_lt h]
def hasB(c:UInt8)(s:aC):Bool:=s.any (· ==c)
def adJ(s:aC)(c:UInt8):decide (0<=Lib.indexByte s c)=hasB c s:=by
 have hge:=Lib.indexByte_ge s c;rw[Bool.eq_iff_iff,decide_eq_true_eq,hasB,List.any_eq_true];constructor
 ·intro h;obtain⟨i,hi⟩:∃i:Nat,Lib.indexByte s c=i:=⟨(Lib.indexByte s c).toNat,by omega⟩
  exact⟨c,Lu (Lib.indexByte_some hi).1,by simp⟩
 ·rintro⟨x,hx,hc⟩;have:=beq_iff_eq.1 hc;subst this;rcases Int.lt_or_le (Lib.indexByte s x) 0 with h|h
  ·obtain⟨i,hi⟩:=List.mem_iff_getElem?.1 hx;exact absurd hi (Lib.indexByte_none (by omega) i)
  ·exact h
def ah0(s:aC)(h:s.length<=1000000000):M.lT s=some (!(hasB 10 s)):=by
 have key:∀(t:aC) (i:Nat),s.drop i=t->i<=s.length->fF (M.xq s) (i:Int)=some (bif hasB 10 t then .inl () else .inr (s.length:Int)):=by
  intro t;induction t with
  |nil=>
   intro i hd hi;have:i=s.length:=by have:=congrArg List.length hd;simp at this;omega
   subst this;refine dD ?_;simp only[M.xq,M.xk];rw[uh (by omega),dP];rfl
  |cons x t ih=>
   intro i hd hi;have hx:s[i]? =some x:=by
    have:(s.drop i)[0]? =some x:=by rw[hd];rfl
    simpa using this
   have hlt:i<s.length:=(Je.1 hx).1;have hd':s.drop (i+1)=t:=by rw[<-List.drop_drop,hd];rfl
   have hs:M.xq s (i:Int)=some (bif x==10 then .inr (.inl ()) else .inl ((i:Int)+1)):=by simp only[M.xq,M.xk,dF,hx,ah];rw[zdt (by omega),bW,show(10:Int)=((10:Nat):Int) from rfl,aHf _ _ (by omega),aG (by omega) (by omega),show(x==UInt8.ofNat 10)=(x==10) from rfl];cases x==10<;>rfl
   rw[hasB,List.any_cons];cases hc:x==10 with
   |true=>rw[hc,bW] at hs;rw[dD hs];rfl
   |false=>rw[hc,dP] at hs;rw[eF hs,show(i:Int)+1=((i+1:Nat):Int) by omega,ih (i+1) hd' hlt,Bool.false_or];rfl
 have:=key s 0 rfl (Nat.zero_le _);rw[rE] at this;simp only[M.lT,M.Ic,M.Fe];rw[this,ah];cases hasB 10 s<;>rfl
def aq9:∀i,i<17->cStr zD i=Ro[i]? :=by decide+kernel
def akB:∀i,i<39->cStr MQ i=O1[i]? :=by decide+kernel
def spell(k:Int):aC:=if k=1 then[10] else if 10<=k∧k<=26 then Ro[(k - 10).toNat]?.getD [] else if 30<=k∧k<=68 then O1[(k - 30).toNat]?.getD [] else[]
def lM(k:Int)(hk:I64 k):M.iZ k=some (spell k)∧M.gZ k=some (spell k):=by
 have l1:Ro.length=17:=rfl;have l2:O1.length=39:=rfl;simp only[M.iZ,M.Ie,M.gZ,M.Iu,M.nG,M.xG,M.iy,M.xH,M.cO,M.uJ,M.dh,M.wY,ahX,ahZ,ah,spell]
 by_cases h1:k=1
 ·subst h1;exact⟨rfl,rfl⟩
 ·rw[show(k==1)=false by simpa using h1,dP,dP,if_neg h1]
  by_cases h2:10<=k∧k<=26
  ·obtain⟨i,hi⟩:∃i:Nat,k=10+i:=⟨(k - 10).toNat,by omega⟩
   have hw:i64.wrap (k - 10)=(i:Int):=by rw[aG (by omega) (by omega)];omega
   obtain⟨x,hx⟩:∃x,Ro[i]? =some x:=⟨Ro[i]'(by omega),by simp⟩
   rw[if_pos h2,zdt (show k>=10 by omega),bW,zdt (show k<=26 by omega),hw,zdt (show(0:Int)<=(i:Int) by omega),zdt (show(i:Int)<17 by omega)];simp only[ah,bW,dF,O9,Rn,hx,Jf,cS0,Bool.and_self,Nat.zero_add,Nat.mul_one,aq9 i (by omega)];rw[show(k - 10).toNat=i by omega,hx];exact⟨rfl,rfl⟩
  ·have hf:(bif decide (k>=10) then some (decide (k<=26)) else some false)=some false:=by
    by_cases h3:k>=10
    ·rw[zdt h3,bW,uh (by omega)]
    ·rw[uh h3,dP]
   rw[if_neg h2,hf];simp only[ah,dP]
   by_cases h4:30<=k∧k<=68
   ·obtain⟨i,hi⟩:∃i:Nat,k=30+i:=⟨(k - 30).toNat,by omega⟩
    have hw:i64.wrap (k - 30)=(i:Int):=by rw[aG (by omega) (by omega)];omega
    obtain⟨x,hx⟩:∃x,O1[i]? =some x:=⟨O1[i]'(by omega),by simp⟩
    rw[if_pos h4,zdt (show k>=30 by omega),bW,zdt (show k<=68 by omega),hw,zdt (show(0:Int)<=(i:Int) by omega),zdt (show(i:Int)<39 by omega)];simp only[ah,bW,dF,O9,Rn,hx,Jf,cS0,Bool.and_self,Nat.zero_add,Nat.mul_one,akB i (by omega)];rw[show(k - 30).toNat=i by omega,hx];exact⟨rfl,rfl⟩
   ·have hf:(bif decide (k>=30) then some (decide (k<=68)) else some false)=some false:=by
     by_cases h3:k>=30
     ·rw[zdt h3,bW,uh (by omega)]
     ·rw[uh h3,dP]
    rw[if_neg h4,hf];exact⟨rfl,rfl⟩
def P7(k:Int)(s:aC):Bool:=bif s==[] then false else
 bif k==2 then(L6 s 0==35) && !(hasB 10 s) else bif k==3 then abg s 0==(s.length:Int) else bif k==4 then quoted s 0 34==(s.length:Int) else bif k==5 then abk s 0==(s.length:Int) else
 bif k==6 then I5 s else bif k==7 then I5 s else bif k==8 then YB s else s==spell k
def fJ(k:Int)(s:aC)(a:Int)(h:s.length<=1048576)(hk:I64 k):M.kL k s a=some (P7 k s)∧M.ng k s a=some (P7 k s):=by
 have hn:=bZ s h;have hb:=dU s;have hst:=alM h 0 (by omega) (by omega);have her:=alN h 0 (by omega) (by omega);have hsp:=lM k hk;have hct:M.strings_Contains s [10]=some (hasB 10 s):=by rw[M.strings_Contains,adJ]
 simp only[M.kL,M.Ig,M.ng,M.Iw,hn.1,hn.2,hb.1,hb.2,hst.1,hst.2,her.1,her.2,hsp.1,hsp.2,hct,ah0 s (by omega),abj h 0 (by omega),abh h 0 (by omega),ah,P7];cases s with
 |nil=>refine⟨?_,rfl⟩;have q1:I5 []=false:=rfl;have q2:YB []=false:=rfl;have q3:(quoted [] 0 34==(([]:aC).length:Int))=false:=rfl;have q4:(abk [] 0==(([]:aC).length:Int))=false:=rfl;rw[q1,q2,q3,q4];cases k==2<;>cases k==3<;>cases k==4<;>cases k==5<;>cases k==6<;>cases k==7<;>cases k==8<;>rfl
 |cons c l=>
  have hi:idx (c::l) 0=some c:=rfl;have hb0:L6 (c::l) 0=(c.toNat:Int):=rfl;have hne:((c::l:aC)==[])=false:=rfl;have hgt:decide (((c::l).length:Int)>0)=true:=by simp
  have hsw:(spell k==c::l)=(c::l==spell k):=by rw[Bool.eq_iff_iff,beq_iff_eq,beq_iff_eq];exact⟨Eq.symm,Eq.symm⟩
  rw[hi,hb0,hne,hgt,hsw];simp only[ah,bW,dP,Bool.not_false];cases k==2<;>cases k==3<;>cases k==4<;>cases k==5<;>cases k==6<;>cases k==7<;>cases k==8<;>cases(c.toNat:Int)==35<;>exact⟨rfl,rfl⟩
end Go.Proofs.YtbpldgeajbfgnaaGreatDoor
namespace Go.Proofs.YtbpldgeajbfgnaaGreatDoor
set_option linter.unusedVariables false
set_option linter.unusedSimpArgs false
set_option linter.unusedSectionVars false
open Go Go.Vm
open Go.IntKind (i64)
def aT(x a b:Int):M.dh x a b=some (decide (x>=a) && decide (x<=b)):=by simp only[M.dh,M.wY];cases decide (x>=a)<;>rfl
def aJ(x a b:Int):M.cO x a b=some (decide (x>=a) && decide (x<=b)):=aT x a b
def abn(op:Int):Bool:=op==60||op==57||op==58||op==59||op==55||op==56||op==99||op==63||op==48||op==47||op==50||op==62||op==49||op==67||op==46||op==45||op==44
def dH(op:Int):M.wM op=some (abn op)∧∃lv,M.lC op=some lv∧(lv !=0)=abn op:=by
 by_cases h44:op=44
 ·subst h44;exact⟨rfl,_,rfl,rfl⟩
 have e44:(op==44)=false:=by simpa using h44
 by_cases h45:op=45
 ·subst h45;exact⟨rfl,_,rfl,rfl⟩
 have e45:(op==45)=false:=by simpa using h45
 by_cases h67:op=67
 ·subst h67;exact⟨rfl,_,rfl,rfl⟩
 have e67:(op==67)=false:=by simpa using h67
 by_cases h46:op=46
 ·subst h46;exact⟨rfl,_,rfl,rfl⟩
 have e46:(op==46)=false:=by simpa using h46
 by_cases h63:op=63
 ·subst h63;exact⟨rfl,_,rfl,rfl⟩
 have e63:(op==63)=false:=by simpa using h63
 by_cases h48:op=48
 ·subst h48;exact⟨rfl,_,rfl,rfl⟩
 have e48:(op==48)=false:=by simpa using h48
 by_cases h47:op=47
 ·subst h47;exact⟨rfl,_,rfl,rfl⟩
 have e47:(op==47)=false:=by simpa using h47
 by_cases h50:op=50
 ·subst h50;exact⟨rfl,_,rfl,rfl⟩
 have e50:(op==50)=false:=by simpa using h50
 by_cases h62:op=62
 ·subst h62;exact⟨rfl,_,rfl,rfl⟩
 have e62:(op==62)=false:=by simpa using h62
 by_cases h49:op=49
 ·subst h49;exact⟨rfl,_,rfl,rfl⟩
 have e49:(op==49)=false:=by simpa using h49
 by_cases h99:op=99
 ·subst h99;exact⟨rfl,_,rfl,rfl⟩
 have e99:(op==99)=false:=by simpa using h99
 by_cases h55:op=55
 ·subst h55;exact⟨rfl,_,rfl,rfl⟩
 have e55:(op==55)=false:=by simpa using h55
 by_cases h56:op=56
 ·subst h56;exact⟨rfl,_,rfl,rfl⟩
 have e56:(op==56)=false:=by simpa using h56
 by_cases h57:op=57
 ·subst h57;exact⟨rfl,_,rfl,rfl⟩
 have e57:(op==57)=false:=by simpa using h57
 by_cases h58:op=58
 ·subst h58;exact⟨rfl,_,rfl,rfl⟩
 have e58:(op==58)=false:=by simpa using h58
 by_cases h59:op=59
 ·subst h59;exact⟨rfl,_,rfl,rfl⟩
 have e59:(op==59)=false:=by simpa using h59
 by_cases h60:op=60
 ·subst h60;exact⟨rfl,_,rfl,rfl⟩
 have e60:(op==60)=false:=by simpa using h60
 simp only[M.wM,M.H8,M.lC,M.Df,abn,e44,e45,e67,e46,e63,e48,e47,e50,e62,e49,e99,e55,e56,e57,e58,e59,e60,dP,Bool.or_self];exact⟨trivial,0,rfl,rfl⟩
def abo(op:Int):Bool:=op==54||(decide (op>=38) && decide (op<=43))
def bf(op:Int):M.qo op=some (abo op)∧M.uF op=some (abo op):=by simp only[M.qo,M.BL,M.uF,M.FH,aT,aJ,ah,abo];cases op==54<;>exact⟨rfl,rfl⟩
def Rq(s:aC)(l:List (aC))(hl:l.length<=1048576):M.slices_Contains (encS l) s=some (decide (KP s l 0>=0)):=by simp only[M.slices_Contains,M.xE,abl s l hl,ah]
def Bz:([[D.str []],[D.str [62]],[D.str [62,62]],[D.str [124]]]:au)=encS [[],[62],[62,62],[124]]:=rfl
def UO(s:aC):decide (KP s [[],[62],[62,62],[124]] 0>=0)=(s==[]||(s==[62]||(s==[62,62]||s==[124]))):=by
 have sw:∀a b:aC,(a==b)=(b==a):=λa b=>by rw[Bool.eq_iff_iff,beq_iff_eq,beq_iff_eq];exact⟨Eq.symm,Eq.symm⟩
 simp only[KP,sw _ s];cases s==[]<;>cases s==[62]<;>cases s==[62,62]<;>cases s==[124]<;>rfl
def zu(k op:Int)(t o:aC)(kids:au):Prop:=∃b,M.ay k op t o kids=some b∧M.bH k op t o kids=some b
def aQC(op:Int)(t o:aC)(kids:au)(ht:t.length<=1048576)(ho:o.length<=1048576)(hk:kids.length<=400):zu 1 op t o kids:=by
 have hn:=bZ t ht;have hn2:=bZ o ho;have hb:=dU t;have ha:=bf op;obtain⟨hi,lv,hlv,hi2⟩:=dH op;have tk:=λk hk=>fJ k t 0 ht hk
 simp only[zu,M.ay,M.aB,M.aN,M.aH,M.aS,M.aP,M.aO,M.aI,M.bH,M.aY,M.bG,M.bQ,M.bY,M.bT,M.bJ,M.bC,M.bK,M.bD,M.bM,M.bF,M.cZ,M.bV,aT,aJ,hn.1,hn.2,hn2.1,hn2.2,hb.1,hb.2,ha.1,ha.2,hi,hlv,hi2,ge_iff_le,Int.reduceBEq,Int.reduceLE,Int.reduceSub,decide_true,decide_false,bW,dP,Bool.and_true,Bool.and_false,Bool.true_and,Bool.false_and,ah];generalize (op==0)=a0;generalize (I5 t)=a1;generalize (o==[])=a2;cases a0<;>cases a1<;>cases a2<;>exact⟨_,rfl,rfl⟩
def aQD(op:Int)(t o:aC)(kids:au)(ht:t.length<=1048576)(ho:o.length<=1048576)(hk:kids.length<=400):zu 2 op t o kids:=by
 have hn:=bZ t ht;have hn2:=bZ o ho;have hb:=dU t;have ha:=bf op;obtain⟨hi,lv,hlv,hi2⟩:=dH op;have tk:=λk hk=>fJ k t 0 ht hk
 have tk3:=tk 3 ⟨by omega,by omega⟩;have hc:eu IntKind.i64 [D.int IntKind.i64 3,D.int IntKind.i64 4,D.int IntKind.i64 5] (i64.wrap 0).toNat=some 3:=rfl;have d1:decide ((0:Int)<=i64.wrap 0)=true:=rfl;have d2:decide (i64.wrap 0<3)=true:=rfl;simp only[zu,M.ay,M.aB,M.aN,M.aH,M.aS,M.aP,M.aO,M.aI,M.bH,M.aY,M.bG,M.bQ,M.bY,M.bT,M.bJ,M.bC,M.bK,M.bD,M.bM,M.bF,M.cZ,M.bV,aT,aJ,hn.1,hn.2,hn2.1,hn2.2,hb.1,hb.2,ha.1,ha.2,hi,hlv,hi2,tk3.1,tk3.2,hc,d1,d2,ge_iff_le,Int.reduceBEq,Int.reduceLE,Int.reduceSub,decide_true,decide_false,bW,dP,Bool.and_true,Bool.and_false,Bool.true_and,Bool.false_and,ah];generalize (op==0)=a0;generalize (P7 3 t)=a1;generalize (o==[])=a2;cases a0<;>cases a1<;>cases a2<;>exact⟨_,rfl,rfl⟩
def aQE(op:Int)(t o:aC)(kids:au)(ht:t.length<=1048576)(ho:o.length<=1048576)(hk:kids.length<=400):zu 3 op t o kids:=by
 have hn:=bZ t ht;have hn2:=bZ o ho;have hb:=dU t;have ha:=bf op;obtain⟨hi,lv,hlv,hi2⟩:=dH op;have tk:=λk hk=>fJ k t 0 ht hk
 have tk4:=tk 4 ⟨by omega,by omega⟩;have hc:eu IntKind.i64 [D.int IntKind.i64 3,D.int IntKind.i64 4,D.int IntKind.i64 5] (i64.wrap 1).toNat=some 4:=rfl;have d1:decide ((0:Int)<=i64.wrap 1)=true:=rfl;have d2:decide (i64.wrap 1<3)=true:=rfl;simp only[zu,M.ay,M.aB,M.aN,M.aH,M.aS,M.aP,M.aO,M.aI,M.bH,M.aY,M.bG,M.bQ,M.bY,M.bT,M.bJ,M.bC,M.bK,M.bD,M.bM,M.bF,M.cZ,M.bV,aT,aJ,hn.1,hn.2,hn2.1,hn2.2,hb.1,hb.2,ha.1,ha.2,hi,hlv,hi2,tk4.1,tk4.2,hc,d1,d2,ge_iff_le,Int.reduceBEq,Int.reduceLE,Int.reduceSub,decide_true,decide_false,bW,dP,Bool.and_true,Bool.and_false,Bool.true_and,Bool.false_and,ah];generalize (op==0)=a0;generalize (P7 4 t)=a1;generalize (o==[])=a2;cases a0<;>cases a1<;>cases a2<;>exact⟨_,rfl,rfl⟩
def aQF(op:Int)(t o:aC)(kids:au)(ht:t.length<=1048576)(ho:o.length<=1048576)(hk:kids.length<=400):zu 4 op t o kids:=by
 have hn:=bZ t ht;have hn2:=bZ o ho;have hb:=dU t;have ha:=bf op;obtain⟨hi,lv,hlv,hi2⟩:=dH op;have tk:=λk hk=>fJ k t 0 ht hk
 have tk5:=tk 5 ⟨by omega,by omega⟩;have hc:eu IntKind.i64 [D.int IntKind.i64 3,D.int IntKind.i64 4,D.int IntKind.i64 5] (i64.wrap 2).toNat=some 5:=rfl;have d1:decide ((0:Int)<=i64.wrap 2)=true:=rfl;have d2:decide (i64.wrap 2<3)=true:=rfl;simp only[zu,M.ay,M.aB,M.aN,M.aH,M.aS,M.aP,M.aO,M.aI,M.bH,M.aY,M.bG,M.bQ,M.bY,M.bT,M.bJ,M.bC,M.bK,M.bD,M.bM,M.bF,M.cZ,M.bV,aT,aJ,hn.1,hn.2,hn2.1,hn2.2,hb.1,hb.2,ha.1,ha.2,hi,hlv,hi2,tk5.1,tk5.2,hc,d1,d2,ge_iff_le,Int.reduceBEq,Int.reduceLE,Int.reduceSub,decide_true,decide_false,bW,dP,Bool.and_true,Bool.and_false,Bool.true_and,Bool.false_and,ah];generalize (op==0)=a0;generalize (P7 5 t)=a1;generalize (o==[])=a2;cases a0<;>cases a1<;>cases a2<;>exact⟨_,rfl,rfl⟩
def aQG(op:Int)(t o:aC)(kids:au)(ht:t.length<=1048576)(ho:o.length<=1048576)(hk:kids.length<=400):zu 5 op t o kids:=by
 have hn:=bZ t ht;have hn2:=bZ o ho;have hb:=dU t;have ha:=bf op;obtain⟨hi,lv,hlv,hi2⟩:=dH op;have tk:=λk hk=>fJ k t 0 ht hk
 simp only[zu,M.ay,M.aB,M.aN,M.aH,M.aS,M.aP,M.aO,M.aI,M.bH,M.aY,M.bG,M.bQ,M.bY,M.bT,M.bJ,M.bC,M.bK,M.bD,M.bM,M.bF,M.cZ,M.bV,aT,aJ,hn.1,hn.2,hn2.1,hn2.2,hb.1,hb.2,ha.1,ha.2,hi,hlv,hi2,ge_iff_le,Int.reduceBEq,Int.reduceLE,Int.reduceSub,decide_true,decide_false,bW,dP,Bool.and_true,Bool.and_false,Bool.true_and,Bool.false_and,ah];generalize (op==0)=a0;generalize (I5 t)=a1;generalize (o==[])=a2;cases a0<;>cases a1<;>cases a2<;>exact⟨_,rfl,rfl⟩
def aQH(op:Int)(t o:aC)(kids:au)(ht:t.length<=1048576)(ho:o.length<=1048576)(hk:kids.length<=400):zu 6 op t o kids:=by
 have hn:=bZ t ht;have hn2:=bZ o ho;have hb:=dU t;have ha:=bf op;obtain⟨hi,lv,hlv,hi2⟩:=dH op;have tk:=λk hk=>fJ k t 0 ht hk
 simp only[zu,M.ay,M.aB,M.aN,M.aH,M.aS,M.aP,M.aO,M.aI,M.bH,M.aY,M.bG,M.bQ,M.bY,M.bT,M.bJ,M.bC,M.bK,M.bD,M.bM,M.bF,M.cZ,M.bV,aT,aJ,hn.1,hn.2,hn2.1,hn2.2,hb.1,hb.2,ha.1,ha.2,hi,hlv,hi2,ge_iff_le,Int.reduceBEq,Int.reduceLE,Int.reduceSub,decide_true,decide_false,bW,dP,Bool.and_true,Bool.and_false,Bool.true_and,Bool.false_and,ah];generalize (op==0)=a0;generalize (t==[])=a1;generalize (o==[])=a2;cases a0<;>cases a1<;>cases a2<;>exact⟨_,rfl,rfl⟩
def aQI(op:Int)(t o:aC)(kids:au)(ht:t.length<=1048576)(ho:o.length<=1048576)(hk:kids.length<=400):zu 7 op t o kids:=by
 have hn:=bZ t ht;have hn2:=bZ o ho;have hb:=dU t;have ha:=bf op;obtain⟨hi,lv,hlv,hi2⟩:=dH op;have tk:=λk hk=>fJ k t 0 ht hk
 simp only[zu,M.ay,M.aB,M.aN,M.aH,M.aS,M.aP,M.aO,M.aI,M.bH,M.aY,M.bG,M.bQ,M.bY,M.bT,M.bJ,M.bC,M.bK,M.bD,M.bM,M.bF,M.cZ,M.bV,aT,aJ,hn.1,hn.2,hn2.1,hn2.2,hb.1,hb.2,ha.1,ha.2,hi,hlv,hi2,ge_iff_le,Int.reduceBEq,Int.reduceLE,Int.reduceSub,decide_true,decide_false,bW,dP,Bool.and_true,Bool.and_false,Bool.true_and,Bool.false_and,ah];generalize (op==0)=a0;generalize (I5 t)=a1;generalize (o==[])=a2;cases a0<;>cases a1<;>cases a2<;>exact⟨_,rfl,rfl⟩
def aQJ(op:Int)(t o:aC)(kids:au)(ht:t.length<=1048576)(ho:o.length<=1048576)(hk:kids.length<=400):zu 8 op t o kids:=by
 have hn:=bZ t ht;have hn2:=bZ o ho;have hb:=dU t;have ha:=bf op;obtain⟨hi,lv,hlv,hi2⟩:=dH op;have tk:=λk hk=>fJ k t 0 ht hk
 simp only[zu,M.ay,M.aB,M.aN,M.aH,M.aS,M.aP,M.aO,M.aI,M.bH,M.aY,M.bG,M.bQ,M.bY,M.bT,M.bJ,M.bC,M.bK,M.bD,M.bM,M.bF,M.cZ,M.bV,aT,aJ,hn.1,hn.2,hn2.1,hn2.2,hb.1,hb.2,ha.1,ha.2,hi,hlv,hi2,ge_iff_le,Int.reduceBEq,Int.reduceLE,Int.reduceSub,decide_true,decide_false,bW,dP,Bool.and_true,Bool.and_false,Bool.true_and,Bool.false_and,ah];generalize (op==0)=a0;generalize (YB t)=a1;generalize (o==[])=a2;cases a0<;>cases a1<;>cases a2<;>exact⟨_,rfl,rfl⟩
def aQK(op:Int)(t o:aC)(kids:au)(ht:t.length<=1048576)(ho:o.length<=1048576)(hk:kids.length<=400):zu 9 op t o kids:=by
 have hn:=bZ t ht;have hn2:=bZ o ho;have hb:=dU t;have ha:=bf op;obtain⟨hi,lv,hlv,hi2⟩:=dH op;have tk:=λk hk=>fJ k t 0 ht hk
 simp only[zu,M.ay,M.aB,M.aN,M.aH,M.aS,M.aP,M.aO,M.aI,M.bH,M.aY,M.bG,M.bQ,M.bY,M.bT,M.bJ,M.bC,M.bK,M.bD,M.bM,M.bF,M.cZ,M.bV,aT,aJ,hn.1,hn.2,hn2.1,hn2.2,hb.1,hb.2,ha.1,ha.2,hi,hlv,hi2,ge_iff_le,Int.reduceBEq,Int.reduceLE,Int.reduceSub,decide_true,decide_false,bW,dP,Bool.and_true,Bool.and_false,Bool.true_and,Bool.false_and,ah];generalize (op==51)=a0;generalize (op==52)=a1;generalize (t==[])=a2;generalize (o==[])=a3;cases a0<;>cases a1<;>cases a2<;>cases a3<;>exact⟨_,rfl,rfl⟩
def aHg(op:Int)(t o:aC)(kids:au)(ht:t.length<=1048576)(ho:o.length<=1048576)(hk:kids.length<=400):zu 10 op t o kids:=by
 have hn:=bZ t ht;have hn2:=bZ o ho;have hb:=dU t;have ha:=bf op;obtain⟨hi,lv,hlv,hi2⟩:=dH op;have tk:=λk hk=>fJ k t 0 ht hk
 simp only[zu,M.ay,M.aB,M.aN,M.aH,M.aS,M.aP,M.aO,M.aI,M.bH,M.aY,M.bG,M.bQ,M.bY,M.bT,M.bJ,M.bC,M.bK,M.bD,M.bM,M.bF,M.cZ,M.bV,aT,aJ,hn.1,hn.2,hn2.1,hn2.2,hb.1,hb.2,ha.1,ha.2,hi,hlv,hi2,ge_iff_le,Int.reduceBEq,Int.reduceLE,Int.reduceSub,decide_true,decide_false,bW,dP,Bool.and_true,Bool.and_false,Bool.true_and,Bool.false_and,ah];generalize (op==51)=a0;generalize (op==52)=a1;generalize (t==[])=a2;generalize (o==[])=a3;cases a0<;>cases a1<;>cases a2<;>cases a3<;>exact⟨_,rfl,rfl⟩
def aHh(op:Int)(t o:aC)(kids:au)(ht:t.length<=1048576)(ho:o.length<=1048576)(hk:kids.length<=400):zu 11 op t o kids:=by
 have hn:=bZ t ht;have hn2:=bZ o ho;have hb:=dU t;have ha:=bf op;obtain⟨hi,lv,hlv,hi2⟩:=dH op;have tk:=λk hk=>fJ k t 0 ht hk
 simp only[zu,M.ay,M.aB,M.aN,M.aH,M.aS,M.aP,M.aO,M.aI,M.bH,M.aY,M.bG,M.bQ,M.bY,M.bT,M.bJ,M.bC,M.bK,M.bD,M.bM,M.bF,M.cZ,M.bV,aT,aJ,hn.1,hn.2,hn2.1,hn2.2,hb.1,hb.2,ha.1,ha.2,hi,hlv,hi2,ge_iff_le,Int.reduceBEq,Int.reduceLE,Int.reduceSub,decide_true,decide_false,bW,dP,Bool.and_true,Bool.and_false,Bool.true_and,Bool.false_and,ah];generalize (op==55)=a0;generalize (op==56)=a1;generalize (op==61)=a2;generalize (t==[])=a3;generalize (o==[])=a4;cases a0<;>cases a1<;>cases a2<;>cases a3<;>cases a4<;>exact⟨_,rfl,rfl⟩
def aHi(op:Int)(t o:aC)(kids:au)(ht:t.length<=1048576)(ho:o.length<=1048576)(hk:kids.length<=400):zu 12 op t o kids:=by
 have hn:=bZ t ht;have hn2:=bZ o ho;have hb:=dU t;have ha:=bf op;obtain⟨hi,lv,hlv,hi2⟩:=dH op;have tk:=λk hk=>fJ k t 0 ht hk
 simp only[zu,M.ay,M.aB,M.aN,M.aH,M.aS,M.aP,M.aO,M.aI,M.bH,M.aY,M.bG,M.bQ,M.bY,M.bT,M.bJ,M.bC,M.bK,M.bD,M.bM,M.bF,M.cZ,M.bV,aT,aJ,hn.1,hn.2,hn2.1,hn2.2,hb.1,hb.2,ha.1,ha.2,hi,hlv,hi2,ge_iff_le,Int.reduceBEq,Int.reduceLE,Int.reduceSub,decide_true,decide_false,bW,dP,Bool.and_true,Bool.and_false,Bool.true_and,Bool.false_and,ah];generalize (abn op)=a0;generalize (t==[])=a1;generalize (o==[])=a2;cases a0<;>cases a1<;>cases a2<;>exact⟨_,rfl,rfl⟩
def aHj(op:Int)(t o:aC)(kids:au)(ht:t.length<=1048576)(ho:o.length<=1048576)(hk:kids.length<=400):zu 13 op t o kids:=by
 have hn:=bZ t ht;have hn2:=bZ o ho;have hb:=dU t;have ha:=bf op;obtain⟨hi,lv,hlv,hi2⟩:=dH op;have tk:=λk hk=>fJ k t 0 ht hk
 simp only[zu,M.ay,M.aB,M.aN,M.aH,M.aS,M.aP,M.aO,M.aI,M.bH,M.aY,M.bG,M.bQ,M.bY,M.bT,M.bJ,M.bC,M.bK,M.bD,M.bM,M.bF,M.cZ,M.bV,aT,aJ,hn.1,hn.2,hn2.1,hn2.2,hb.1,hb.2,ha.1,ha.2,hi,hlv,hi2,ge_iff_le,Int.reduceBEq,Int.reduceLE,Int.reduceSub,decide_true,decide_false,bW,dP,Bool.and_true,Bool.and_false,Bool.true_and,Bool.false_and,ah];generalize (op==0)=a0;generalize (I5 t)=a1;generalize (o==[])=a2;cases a0<;>cases a1<;>cases a2<;>exact⟨_,rfl,rfl⟩
def aHk(op:Int)(t o:aC)(kids:au)(ht:t.length<=1048576)(ho:o.length<=1048576)(hk:kids.length<=400):zu 14 op t o kids:=by
 have hn:=bZ t ht;have hn2:=bZ o ho;have hb:=dU t;have ha:=bf op;obtain⟨hi,lv,hlv,hi2⟩:=dH op;have tk:=λk hk=>fJ k t 0 ht hk
 simp only[zu,M.ay,M.aB,M.aN,M.aH,M.aS,M.aP,M.aO,M.aI,M.bH,M.aY,M.bG,M.bQ,M.bY,M.bT,M.bJ,M.bC,M.bK,M.bD,M.bM,M.bF,M.cZ,M.bV,aT,aJ,hn.1,hn.2,hn2.1,hn2.2,hb.1,hb.2,ha.1,ha.2,hi,hlv,hi2,ge_iff_le,Int.reduceBEq,Int.reduceLE,Int.reduceSub,decide_true,decide_false,bW,dP,Bool.and_true,Bool.and_false,Bool.true_and,Bool.false_and,ah];generalize (op==0)=a0;generalize (t==[])=a1;generalize (o==[])=a2;cases a0<;>cases a1<;>cases a2<;>exact⟨_,rfl,rfl⟩
def aHl(op:Int)(t o:aC)(kids:au)(ht:t.length<=1048576)(ho:o.length<=1048576)(hk:kids.length<=400):zu 15 op t o kids:=by
 have hn:=bZ t ht;have hn2:=bZ o ho;have hb:=dU t;have ha:=bf op;obtain⟨hi,lv,hlv,hi2⟩:=dH op;have tk:=λk hk=>fJ k t 0 ht hk
 simp only[zu,M.ay,M.aB,M.aN,M.aH,M.aS,M.aP,M.aO,M.aI,M.bH,M.aY,M.bG,M.bQ,M.bY,M.bT,M.bJ,M.bC,M.bK,M.bD,M.bM,M.bF,M.cZ,M.bV,aT,aJ,hn.1,hn.2,hn2.1,hn2.2,hb.1,hb.2,ha.1,ha.2,hi,hlv,hi2,ge_iff_le,Int.reduceBEq,Int.reduceLE,Int.reduceSub,decide_true,decide_false,bW,dP,Bool.and_true,Bool.and_false,Bool.true_and,Bool.false_and,ah];generalize (abo op)=a0;generalize (t==[])=a1;generalize (o==[])=a2;cases a0<;>cases a1<;>cases a2<;>exact⟨_,rfl,rfl⟩
def aHm(op:Int)(t o:aC)(kids:au)(ht:t.length<=1048576)(ho:o.length<=1048576)(hk:kids.length<=400):zu 16 op t o kids:=by
 have hn:=bZ t ht;have hn2:=bZ o ho;have hb:=dU t;have ha:=bf op;obtain⟨hi,lv,hlv,hi2⟩:=dH op;have tk:=λk hk=>fJ k t 0 ht hk
 simp only[zu,M.ay,M.aB,M.aN,M.aH,M.aS,M.aP,M.aO,M.aI,M.bH,M.aY,M.bG,M.bQ,M.bY,M.bT,M.bJ,M.bC,M.bK,M.bD,M.bM,M.bF,M.cZ,M.bV,aT,aJ,hn.1,hn.2,hn2.1,hn2.2,hb.1,hb.2,ha.1,ha.2,hi,hlv,hi2,ge_iff_le,Int.reduceBEq,Int.reduceLE,Int.reduceSub,decide_true,decide_false,bW,dP,Bool.and_true,Bool.and_false,Bool.true_and,Bool.false_and,ah];generalize (op==0)=a0;generalize (t==[])=a1;generalize (o==[])=a2;cases a0<;>cases a1<;>cases a2<;>exact⟨_,rfl,rfl⟩
def aHn(op:Int)(t o:aC)(kids:au)(ht:t.length<=1048576)(ho:o.length<=1048576)(hk:kids.length<=400):zu 20 op t o kids:=by
 have hn:=bZ t ht;have hn2:=bZ o ho;have hb:=dU t;have ha:=bf op;obtain⟨hi,lv,hlv,hi2⟩:=dH op;have tk:=λk hk=>fJ k t 0 ht hk
 simp only[zu,M.ay,M.aB,M.aN,M.aH,M.aS,M.aP,M.aO,M.aI,M.bH,M.aY,M.bG,M.bQ,M.bY,M.bT,M.bJ,M.bC,M.bK,M.bD,M.bM,M.bF,M.cZ,M.bV,aT,aJ,hn.1,hn.2,hn2.1,hn2.2,hb.1,hb.2,ha.1,ha.2,hi,hlv,hi2,ge_iff_le,Int.reduceBEq,Int.reduceLE,Int.reduceSub,decide_true,decide_false,bW,dP,Bool.and_true,Bool.and_false,Bool.true_and,Bool.false_and,ah];generalize (op==0)=a0;generalize (t==[])=a1;generalize (o==[])=a2;cases a0<;>cases a1<;>cases a2<;>exact⟨_,rfl,rfl⟩
def aHo(op:Int)(t o:aC)(kids:au)(ht:t.length<=1048576)(ho:o.length<=1048576)(hk:kids.length<=400):zu 22 op t o kids:=by
 have hn:=bZ t ht;have hn2:=bZ o ho;have hb:=dU t;have ha:=bf op;obtain⟨hi,lv,hlv,hi2⟩:=dH op;have tk:=λk hk=>fJ k t 0 ht hk
 simp only[zu,M.ay,M.aB,M.aN,M.aH,M.aS,M.aP,M.aO,M.aI,M.bH,M.aY,M.bG,M.bQ,M.bY,M.bT,M.bJ,M.bC,M.bK,M.bD,M.bM,M.bF,M.cZ,M.bV,aT,aJ,hn.1,hn.2,hn2.1,hn2.2,hb.1,hb.2,ha.1,ha.2,hi,hlv,hi2,ge_iff_le,Int.reduceBEq,Int.reduceLE,Int.reduceSub,decide_true,decide_false,bW,dP,Bool.and_true,Bool.and_false,Bool.true_and,Bool.false_and,ah];generalize (op==0)=a0;generalize (t==[])=a1;generalize (o==[])=a2;cases a0<;>cases a1<;>cases a2<;>exact⟨_,rfl,rfl⟩
def aHp(op:Int)(t o:aC)(kids:au)(ht:t.length<=1048576)(ho:o.length<=1048576)(hk:kids.length<=400):zu 23 op t o kids:=by
 have hn:=bZ t ht;have hn2:=bZ o ho;have hb:=dU t;have ha:=bf op;obtain⟨hi,lv,hlv,hi2⟩:=dH op;have tk:=λk hk=>fJ k t 0 ht hk
 simp only[zu,M.ay,M.aB,M.aN,M.aH,M.aS,M.aP,M.aO,M.aI,M.bH,M.aY,M.bG,M.bQ,M.bY,M.bT,M.bJ,M.bC,M.bK,M.bD,M.bM,M.bF,M.cZ,M.bV,aT,aJ,hn.1,hn.2,hn2.1,hn2.2,hb.1,hb.2,ha.1,ha.2,hi,hlv,hi2,ge_iff_le,Int.reduceBEq,Int.reduceLE,Int.reduceSub,decide_true,decide_false,bW,dP,Bool.and_true,Bool.and_false,Bool.true_and,Bool.false_and,ah];generalize (op==0)=a0;generalize (t==[])=a1;generalize (o==[])=a2;cases a0<;>cases a1<;>cases a2<;>exact⟨_,rfl,rfl⟩
def aHq(op:Int)(t o:aC)(kids:au)(ht:t.length<=1048576)(ho:o.length<=1048576)(hk:kids.length<=400):zu 24 op t o kids:=by
 have hn:=bZ t ht;have hn2:=bZ o ho;have hb:=dU t;have ha:=bf op;obtain⟨hi,lv,hlv,hi2⟩:=dH op;have tk:=λk hk=>fJ k t 0 ht hk
 simp only[zu,M.ay,M.aB,M.aN,M.aH,M.aS,M.aP,M.aO,M.aI,M.bH,M.aY,M.bG,M.bQ,M.bY,M.bT,M.bJ,M.bC,M.bK,M.bD,M.bM,M.bF,M.cZ,M.bV,aT,aJ,hn.1,hn.2,hn2.1,hn2.2,hb.1,hb.2,ha.1,ha.2,hi,hlv,hi2,ge_iff_le,Int.reduceBEq,Int.reduceLE,Int.reduceSub,decide_true,decide_false,bW,dP,Bool.and_true,Bool.and_false,Bool.true_and,Bool.false_and,ah];generalize (op==0)=a0;generalize (t==[])=a1;generalize (o==[])=a2;cases a0<;>cases a1<;>cases a2<;>exact⟨_,rfl,rfl⟩
def aHr(op:Int)(t o:aC)(kids:au)(ht:t.length<=1048576)(ho:o.length<=1048576)(hk:kids.length<=400):zu 25 op t o kids:=by
 have hn:=bZ t ht;have hn2:=bZ o ho;have hb:=dU t;have ha:=bf op;obtain⟨hi,lv,hlv,hi2⟩:=dH op;have tk:=λk hk=>fJ k t 0 ht hk
 simp only[zu,M.ay,M.aB,M.aN,M.aH,M.aS,M.aP,M.aO,M.aI,M.bH,M.aY,M.bG,M.bQ,M.bY,M.bT,M.bJ,M.bC,M.bK,M.bD,M.bM,M.bF,M.cZ,M.bV,aT,aJ,hn.1,hn.2,hn2.1,hn2.2,hb.1,hb.2,ha.1,ha.2,hi,hlv,hi2,ge_iff_le,Int.reduceBEq,Int.reduceLE,Int.reduceSub,decide_true,decide_false,bW,dP,Bool.and_true,Bool.and_false,Bool.true_and,Bool.false_and,ah];generalize (op==0)=a0;generalize (t==[])=a1;generalize (o==[])=a2;cases a0<;>cases a1<;>cases a2<;>exact⟨_,rfl,rfl⟩
def aHs(op:Int)(t o:aC)(kids:au)(ht:t.length<=1048576)(ho:o.length<=1048576)(hk:kids.length<=400):zu 26 op t o kids:=by
 have hn:=bZ t ht;have hn2:=bZ o ho;have hb:=dU t;have ha:=bf op;obtain⟨hi,lv,hlv,hi2⟩:=dH op;have tk:=λk hk=>fJ k t 0 ht hk
 simp only[zu,M.ay,M.aB,M.aN,M.aH,M.aS,M.aP,M.aO,M.aI,M.bH,M.aY,M.bG,M.bQ,M.bY,M.bT,M.bJ,M.bC,M.bK,M.bD,M.bM,M.bF,M.cZ,M.bV,aT,aJ,hn.1,hn.2,hn2.1,hn2.2,hb.1,hb.2,ha.1,ha.2,hi,hlv,hi2,ge_iff_le,Int.reduceBEq,Int.reduceLE,Int.reduceSub,decide_true,decide_false,bW,dP,Bool.and_true,Bool.and_false,Bool.true_and,Bool.false_and,ah];generalize (op==0)=a0;generalize (t==[])=a1;generalize (o==[])=a2;cases a0<;>cases a1<;>cases a2<;>exact⟨_,rfl,rfl⟩
def aHt(op:Int)(t o:aC)(kids:au)(ht:t.length<=1048576)(ho:o.length<=1048576)(hk:kids.length<=400):zu 27 op t o kids:=by
 have hn:=bZ t ht;have hn2:=bZ o ho;have hb:=dU t;have ha:=bf op;obtain⟨hi,lv,hlv,hi2⟩:=dH op;have tk:=λk hk=>fJ k t 0 ht hk
 simp only[zu,M.ay,M.aB,M.aN,M.aH,M.aS,M.aP,M.aO,M.aI,M.bH,M.aY,M.bG,M.bQ,M.bY,M.bT,M.bJ,M.bC,M.bK,M.bD,M.bM,M.bF,M.cZ,M.bV,aT,aJ,hn.1,hn.2,hn2.1,hn2.2,hb.1,hb.2,ha.1,ha.2,hi,hlv,hi2,ge_iff_le,Int.reduceBEq,Int.reduceLE,Int.reduceSub,decide_true,decide_false,bW,dP,Bool.and_true,Bool.and_false,Bool.true_and,Bool.false_and,ah];generalize (op==0)=a0;generalize (I5 t)=a1;generalize (o==[])=a2;cases a0<;>cases a1<;>cases a2<;>exact⟨_,rfl,rfl⟩
def aHu(op:Int)(t o:aC)(kids:au)(ht:t.length<=1048576)(ho:o.length<=1048576)(hk:kids.length<=400):zu 28 op t o kids:=by
 have hn:=bZ t ht;have hn2:=bZ o ho;have hb:=dU t;have ha:=bf op;obtain⟨hi,lv,hlv,hi2⟩:=dH op;have tk:=λk hk=>fJ k t 0 ht hk
 simp only[zu,M.ay,M.aB,M.aN,M.aH,M.aS,M.aP,M.aO,M.aI,M.bH,M.aY,M.bG,M.bQ,M.bY,M.bT,M.bJ,M.bC,M.bK,M.bD,M.bM,M.bF,M.cZ,M.bV,aT,aJ,hn.1,hn.2,hn2.1,hn2.2,hb.1,hb.2,ha.1,ha.2,hi,hlv,hi2,ge_iff_le,Int.reduceBEq,Int.reduceLE,Int.reduceSub,decide_true,decide_false,bW,dP,Bool.and_true,Bool.and_false,Bool.true_and,Bool.false_and,ah];generalize (op==0)=a0;generalize (t==[])=a1;generalize (o==[])=a2;cases a0<;>cases a1<;>cases a2<;>exact⟨_,rfl,rfl⟩
def aHv(op:Int)(t o:aC)(kids:au)(ht:t.length<=1048576)(ho:o.length<=1048576)(hk:kids.length<=400):zu 29 op t o kids:=by
 have hn:=bZ t ht;have hn2:=bZ o ho;have hb:=dU t;have ha:=bf op;obtain⟨hi,lv,hlv,hi2⟩:=dH op;have tk:=λk hk=>fJ k t 0 ht hk
 simp only[zu,M.ay,M.aB,M.aN,M.aH,M.aS,M.aP,M.aO,M.aI,M.bH,M.aY,M.bG,M.bQ,M.bY,M.bT,M.bJ,M.bC,M.bK,M.bD,M.bM,M.bF,M.cZ,M.bV,aT,aJ,hn.1,hn.2,hn2.1,hn2.2,hb.1,hb.2,ha.1,ha.2,hi,hlv,hi2,ge_iff_le,Int.reduceBEq,Int.reduceLE,Int.reduceSub,decide_true,decide_false,bW,dP,Bool.and_true,Bool.and_false,Bool.true_and,Bool.false_and,ah];generalize (op==0)=a0;generalize (t==[])=a1;generalize (o==[])=a2;cases a0<;>cases a1<;>cases a2<;>exact⟨_,rfl,rfl⟩
def aHw(op:Int)(t o:aC)(kids:au)(ht:t.length<=1048576)(ho:o.length<=1048576)(hk:kids.length<=400):zu 30 op t o kids:=by
 have hn:=bZ t ht;have hn2:=bZ o ho;have hb:=dU t;have ha:=bf op;obtain⟨hi,lv,hlv,hi2⟩:=dH op;have tk:=λk hk=>fJ k t 0 ht hk
 simp only[zu,M.ay,M.aB,M.aN,M.aH,M.aS,M.aP,M.aO,M.aI,M.bH,M.aY,M.bG,M.bQ,M.bY,M.bT,M.bJ,M.bC,M.bK,M.bD,M.bM,M.bF,M.cZ,M.bV,aT,aJ,hn.1,hn.2,hn2.1,hn2.2,hb.1,hb.2,ha.1,ha.2,hi,hlv,hi2,ge_iff_le,Int.reduceBEq,Int.reduceLE,Int.reduceSub,decide_true,decide_false,bW,dP,Bool.and_true,Bool.and_false,Bool.true_and,Bool.false_and,ah];generalize (op==0)=a0;generalize (t==[])=a1;generalize (o==[])=a2;cases a0<;>cases a1<;>cases a2<;>exact⟨_,rfl,rfl⟩
def aHx(op:Int)(t o:aC)(kids:au)(ht:t.length<=1048576)(ho:o.length<=1048576)(hk:kids.length<=400):zu 31 op t o kids:=by
 have hn:=bZ t ht;have hn2:=bZ o ho;have hb:=dU t;have ha:=bf op;obtain⟨hi,lv,hlv,hi2⟩:=dH op;have tk:=λk hk=>fJ k t 0 ht hk
 simp only[zu,M.ay,M.aB,M.aN,M.aH,M.aS,M.aP,M.aO,M.aI,M.bH,M.aY,M.bG,M.bQ,M.bY,M.bT,M.bJ,M.bC,M.bK,M.bD,M.bM,M.bF,M.cZ,M.bV,aT,aJ,hn.1,hn.2,hn2.1,hn2.2,hb.1,hb.2,ha.1,ha.2,hi,hlv,hi2,ge_iff_le,Int.reduceBEq,Int.reduceLE,Int.reduceSub,decide_true,decide_false,bW,dP,Bool.and_true,Bool.and_false,Bool.true_and,Bool.false_and,ah];generalize (op==0)=a0;generalize (t==[])=a1;generalize (o==[])=a2;cases a0<;>cases a1<;>cases a2<;>exact⟨_,rfl,rfl⟩
def aHy(op:Int)(t o:aC)(kids:au)(ht:t.length<=1048576)(ho:o.length<=1048576)(hk:kids.length<=400):zu 32 op t o kids:=by
 have hn:=bZ t ht;have hn2:=bZ o ho;have hb:=dU t;have ha:=bf op;obtain⟨hi,lv,hlv,hi2⟩:=dH op;have tk:=λk hk=>fJ k t 0 ht hk
 simp only[zu,M.ay,M.aB,M.aN,M.aH,M.aS,M.aP,M.aO,M.aI,M.bH,M.aY,M.bG,M.bQ,M.bY,M.bT,M.bJ,M.bC,M.bK,M.bD,M.bM,M.bF,M.cZ,M.bV,aT,aJ,hn.1,hn.2,hn2.1,hn2.2,hb.1,hb.2,ha.1,ha.2,hi,hlv,hi2,ge_iff_le,Int.reduceBEq,Int.reduceLE,Int.reduceSub,decide_true,decide_false,bW,dP,Bool.and_true,Bool.and_false,Bool.true_and,Bool.false_and,ah];generalize (op==0)=a0;generalize (I5 t)=a1;generalize (I5 o)=a2;cases a0<;>cases a1<;>cases a2<;>exact⟨_,rfl,rfl⟩
def aHz(op:Int)(t o:aC)(kids:au)(ht:t.length<=1048576)(ho:o.length<=1048576)(hk:kids.length<=400):zu 33 op t o kids:=by
 have hn:=bZ t ht;have hn2:=bZ o ho;have hb:=dU t;have ha:=bf op;obtain⟨hi,lv,hlv,hi2⟩:=dH op;have tk:=λk hk=>fJ k t 0 ht hk
 simp only[zu,M.ay,M.aB,M.aN,M.aH,M.aS,M.aP,M.aO,M.aI,M.bH,M.aY,M.bG,M.bQ,M.bY,M.bT,M.bJ,M.bC,M.bK,M.bD,M.bM,M.bF,M.cZ,M.bV,aT,aJ,hn.1,hn.2,hn2.1,hn2.2,hb.1,hb.2,ha.1,ha.2,hi,hlv,hi2,ge_iff_le,Int.reduceBEq,Int.reduceLE,Int.reduceSub,decide_true,decide_false,bW,dP,Bool.and_true,Bool.and_false,Bool.true_and,Bool.false_and,ah];have z1:decide ((kids.length:Int)<=400)=true:=zdt (by omega);have z2:decide ((0:Int)<=(kids.length:Int))=true:=zdt (by omega);have z3:decide ((kids.length:Int)<=(kids.length:Int))=true:=zdt (by omega);simp only[z1,z2,z3,bW,Bool.and_true];generalize (op==0)=a0;generalize (t==[])=a1;generalize (o==[])=a2;cases a0<;>cases a1<;>cases a2<;>exact⟨_,rfl,rfl⟩
def aHA(op:Int)(t o:aC)(kids:au)(ht:t.length<=1048576)(ho:o.length<=1048576)(hk:kids.length<=400):zu 34 op t o kids:=by
 have hn:=bZ t ht;have hn2:=bZ o ho;have hb:=dU t;have ha:=bf op;obtain⟨hi,lv,hlv,hi2⟩:=dH op;have tk:=λk hk=>fJ k t 0 ht hk
 have tk2:=tk 2 ⟨by omega,by omega⟩;simp only[zu,M.ay,M.aB,M.aN,M.aH,M.aS,M.aP,M.aO,M.aI,M.bH,M.aY,M.bG,M.bQ,M.bY,M.bT,M.bJ,M.bC,M.bK,M.bD,M.bM,M.bF,M.cZ,M.bV,aT,aJ,hn.1,hn.2,hn2.1,hn2.2,hb.1,hb.2,ha.1,ha.2,hi,hlv,hi2,tk2.1,tk2.2,ge_iff_le,Int.reduceBEq,Int.reduceLE,Int.reduceSub,decide_true,decide_false,bW,dP,Bool.and_true,Bool.and_false,Bool.true_and,Bool.false_and,ah];generalize (op==0)=a0;generalize (P7 2 t)=a1;generalize (o==[])=a2;cases a0<;>cases a1<;>cases a2<;>exact⟨_,rfl,rfl⟩
def aHB(op:Int)(t o:aC)(kids:au)(ht:t.length<=1048576)(ho:o.length<=1048576)(hk:kids.length<=400):zu 40 op t o kids:=by
 have hn:=bZ t ht;have hn2:=bZ o ho;have hb:=dU t;have ha:=bf op;obtain⟨hi,lv,hlv,hi2⟩:=dH op;have tk:=λk hk=>fJ k t 0 ht hk
 simp only[zu,M.ay,M.aB,M.aN,M.aH,M.aS,M.aP,M.aO,M.aI,M.bH,M.aY,M.bG,M.bQ,M.bY,M.bT,M.bJ,M.bC,M.bK,M.bD,M.bM,M.bF,M.cZ,M.bV,aT,aJ,hn.1,hn.2,hn2.1,hn2.2,hb.1,hb.2,ha.1,ha.2,hi,hlv,hi2,ge_iff_le,Int.reduceBEq,Int.reduceLE,Int.reduceSub,decide_true,decide_false,bW,dP,Bool.and_true,Bool.and_false,Bool.true_and,Bool.false_and,ah];generalize (op==0)=a0;generalize (t==[])=a1;generalize (o==[])=a2;cases a0<;>cases a1<;>cases a2<;>exact⟨_,rfl,rfl⟩
def aHC(op:Int)(t o:aC)(kids:au)(ht:t.length<=1048576)(ho:o.length<=1048576)(hk:kids.length<=400):zu 41 op t o kids:=by
 have hn:=bZ t ht;have hn2:=bZ o ho;have hb:=dU t;have ha:=bf op;obtain⟨hi,lv,hlv,hi2⟩:=dH op;have tk:=λk hk=>fJ k t 0 ht hk
 simp only[zu,M.ay,M.aB,M.aN,M.aH,M.aS,M.aP,M.aO,M.aI,M.bH,M.aY,M.bG,M.bQ,M.bY,M.bT,M.bJ,M.bC,M.bK,M.bD,M.bM,M.bF,M.cZ,M.bV,aT,aJ,hn.1,hn.2,hn2.1,hn2.2,hb.1,hb.2,ha.1,ha.2,hi,hlv,hi2,ge_iff_le,Int.reduceBEq,Int.reduceLE,Int.reduceSub,decide_true,decide_false,bW,dP,Bool.and_true,Bool.and_false,Bool.true_and,Bool.false_and,ah];generalize (op==0)=a0;generalize (t==[])=a1;generalize (o==[])=a2;cases a0<;>cases a1<;>cases a2<;>exact⟨_,rfl,rfl⟩
def aHD(op:Int)(t o:aC)(kids:au)(ht:t.length<=1048576)(ho:o.length<=1048576)(hk:kids.length<=400):zu 44 op t o kids:=by
 have hn:=bZ t ht;have hn2:=bZ o ho;have hb:=dU t;have ha:=bf op;obtain⟨hi,lv,hlv,hi2⟩:=dH op;have tk:=λk hk=>fJ k t 0 ht hk
 simp only[zu,M.ay,M.aB,M.aN,M.aH,M.aS,M.aP,M.aO,M.aI,M.bH,M.aY,M.bG,M.bQ,M.bY,M.bT,M.bJ,M.bC,M.bK,M.bD,M.bM,M.bF,M.cZ,M.bV,aT,aJ,hn.1,hn.2,hn2.1,hn2.2,hb.1,hb.2,ha.1,ha.2,hi,hlv,hi2,ge_iff_le,Int.reduceBEq,Int.reduceLE,Int.reduceSub,decide_true,decide_false,bW,dP,Bool.and_true,Bool.and_false,Bool.true_and,Bool.false_and,ah];generalize (op==0)=a0;generalize (I5 t)=a1;generalize (o==[])=a2;cases a0<;>cases a1<;>cases a2<;>exact⟨_,rfl,rfl⟩
def aHE(op:Int)(t o:aC)(kids:au)(ht:t.length<=1048576)(ho:o.length<=1048576)(hk:kids.length<=400):zu 45 op t o kids:=by
 have hn:=bZ t ht;have hn2:=bZ o ho;have hb:=dU t;have ha:=bf op;obtain⟨hi,lv,hlv,hi2⟩:=dH op;have tk:=λk hk=>fJ k t 0 ht hk
 simp only[zu,M.ay,M.aB,M.aN,M.aH,M.aS,M.aP,M.aO,M.aI,M.bH,M.aY,M.bG,M.bQ,M.bY,M.bT,M.bJ,M.bC,M.bK,M.bD,M.bM,M.bF,M.cZ,M.bV,aT,aJ,hn.1,hn.2,hn2.1,hn2.2,hb.1,hb.2,ha.1,ha.2,hi,hlv,hi2,ge_iff_le,Int.reduceBEq,Int.reduceLE,Int.reduceSub,decide_true,decide_false,bW,dP,Bool.and_true,Bool.and_false,Bool.true_and,Bool.false_and,ah];have z1:decide ((kids.length:Int)<=400)=true:=zdt (by omega);have z2:decide ((0:Int)<=(kids.length:Int))=true:=zdt (by omega);have z3:decide ((kids.length:Int)<=(kids.length:Int))=true:=zdt (by omega);simp only[z1,z2,z3,bW,Bool.and_true];generalize (op==0)=a0;generalize (t==[])=a1;generalize (o==[])=a2;cases a0<;>cases a1<;>cases a2<;>exact⟨_,rfl,rfl⟩
def aHF(op:Int)(t o:aC)(kids:au)(ht:t.length<=1048576)(ho:o.length<=1048576)(hk:kids.length<=400):zu 21 op t o kids:=by
 have hp:=Rq o [[],[62],[62,62],[124]] (by decide);rw[UO] at hp
 by_cases h0:op=0
 ·subst h0;simp only[zu,M.ay,M.aB,M.aN,M.aH,M.aS,M.aP,M.aO,M.aI,M.bH,M.aY,M.bG,M.bQ,M.bY,M.bT,M.bJ,M.bC,M.bK,M.bD,M.bM,M.bF,M.cZ,M.bV,aT,aJ,Bz,hp,show i64.wrap (0+1)=1 from rfl,show i64.wrap (1+1)=2 from rfl,show i64.wrap (1+i64.wrap (Int.tdiv 1 3))=1 from rfl,show i64.wrap (1+i64.wrap (Int.tdiv 2 3))=1 from rfl,show i64.wrap (1+i64.wrap (Int.tdiv 3 3))=2 from rfl,show i64.wrap (2+i64.wrap (Int.tdiv 1 3))=2 from rfl,show i64.wrap (2+i64.wrap (Int.tdiv 3 3))=3 from rfl,ge_iff_le,Int.reduceBEq,Int.reduceLE,Int.reduceSub,decide_true,decide_false,bW,dP,Bool.and_true,Bool.and_false,Bool.true_and,Bool.false_and,ah];generalize (t==[])=a0;generalize (o==[])=a1;generalize (o==[62])=a2;generalize (o==[62,62])=a3;generalize (o==[124])=a4;cases a0<;>cases a1<;>cases a2<;>cases a3<;>cases a4<;>exact⟨_,rfl,rfl⟩
 by_cases h1:op=1
 ·subst h1;simp only[zu,M.ay,M.aB,M.aN,M.aH,M.aS,M.aP,M.aO,M.aI,M.bH,M.aY,M.bG,M.bQ,M.bY,M.bT,M.bJ,M.bC,M.bK,M.bD,M.bM,M.bF,M.cZ,M.bV,aT,aJ,Bz,hp,show i64.wrap (0+1)=1 from rfl,show i64.wrap (1+1)=2 from rfl,show i64.wrap (1+i64.wrap (Int.tdiv 1 3))=1 from rfl,show i64.wrap (1+i64.wrap (Int.tdiv 2 3))=1 from rfl,show i64.wrap (1+i64.wrap (Int.tdiv 3 3))=2 from rfl,show i64.wrap (2+i64.wrap (Int.tdiv 1 3))=2 from rfl,show i64.wrap (2+i64.wrap (Int.tdiv 3 3))=3 from rfl,ge_iff_le,Int.reduceBEq,Int.reduceLE,Int.reduceSub,decide_true,decide_false,bW,dP,Bool.and_true,Bool.and_false,Bool.true_and,Bool.false_and,ah];generalize (t==[])=a0;generalize (o==[])=a1;generalize (o==[62])=a2;generalize (o==[62,62])=a3;generalize (o==[124])=a4;cases a0<;>cases a1<;>cases a2<;>cases a3<;>cases a4<;>exact⟨_,rfl,rfl⟩
 have e0:(op==0)=false:=by simpa using h0
 have e1:(op==1)=false:=by simpa using h1
 have hf:(decide ((0:Int)<=op) && decide (op<=1))=false:=by rw[Bool.and_eq_false_iff,decide_eq_false_iff_not,decide_eq_false_iff_not];omega
 simp only[zu,M.ay,M.aB,M.aN,M.aH,M.aS,M.aP,M.aO,M.aI,M.bH,M.aY,M.bG,M.bQ,M.bY,M.bT,M.bJ,M.bC,M.bK,M.bD,M.bM,M.bF,M.cZ,M.bV,aT,aJ,Bz,hp,e0,e1,hf,ge_iff_le,Int.reduceBEq,Int.reduceLE,Int.reduceSub,decide_true,decide_false,bW,dP,Bool.and_true,Bool.and_false,Bool.true_and,Bool.false_and,ah];generalize (t==[])=a0;generalize (o==[])=a1;generalize (o==[62])=a2;generalize (o==[62,62])=a3;generalize (o==[124])=a4;cases a0<;>cases a1<;>cases a2<;>cases a3<;>cases a4<;>exact⟨_,rfl,rfl⟩
def aHG(op:Int)(t o:aC)(kids:au)(ht:t.length<=1048576)(ho:o.length<=1048576)(hk:kids.length<=400):zu 42 op t o kids:=by
 have hp:=Rq o [[],[62],[62,62],[124]] (by decide);rw[UO] at hp
 by_cases h1:op=1
 ·subst h1;simp only[zu,M.ay,M.aB,M.aN,M.aH,M.aS,M.aP,M.aO,M.aI,M.bH,M.aY,M.bG,M.bQ,M.bY,M.bT,M.bJ,M.bC,M.bK,M.bD,M.bM,M.bF,M.cZ,M.bV,aT,aJ,Bz,hp,show i64.wrap (0+1)=1 from rfl,show i64.wrap (1+1)=2 from rfl,show i64.wrap (1+i64.wrap (Int.tdiv 1 3))=1 from rfl,show i64.wrap (1+i64.wrap (Int.tdiv 2 3))=1 from rfl,show i64.wrap (1+i64.wrap (Int.tdiv 3 3))=2 from rfl,show i64.wrap (2+i64.wrap (Int.tdiv 1 3))=2 from rfl,show i64.wrap (2+i64.wrap (Int.tdiv 3 3))=3 from rfl,ge_iff_le,Int.reduceBEq,Int.reduceLE,Int.reduceSub,decide_true,decide_false,bW,dP,Bool.and_true,Bool.and_false,Bool.true_and,Bool.false_and,ah];generalize (t==[])=a0;generalize (o==[])=a1;cases a0<;>cases a1<;>exact⟨_,rfl,rfl⟩
 by_cases h2:op=2
 ·subst h2;simp only[zu,M.ay,M.aB,M.aN,M.aH,M.aS,M.aP,M.aO,M.aI,M.bH,M.aY,M.bG,M.bQ,M.bY,M.bT,M.bJ,M.bC,M.bK,M.bD,M.bM,M.bF,M.cZ,M.bV,aT,aJ,Bz,hp,show i64.wrap (0+1)=1 from rfl,show i64.wrap (1+1)=2 from rfl,show i64.wrap (1+i64.wrap (Int.tdiv 1 3))=1 from rfl,show i64.wrap (1+i64.wrap (Int.tdiv 2 3))=1 from rfl,show i64.wrap (1+i64.wrap (Int.tdiv 3 3))=2 from rfl,show i64.wrap (2+i64.wrap (Int.tdiv 1 3))=2 from rfl,show i64.wrap (2+i64.wrap (Int.tdiv 3 3))=3 from rfl,ge_iff_le,Int.reduceBEq,Int.reduceLE,Int.reduceSub,decide_true,decide_false,bW,dP,Bool.and_true,Bool.and_false,Bool.true_and,Bool.false_and,ah];generalize (t==[])=a0;generalize (o==[])=a1;cases a0<;>cases a1<;>exact⟨_,rfl,rfl⟩
 by_cases h3:op=3
 ·subst h3;simp only[zu,M.ay,M.aB,M.aN,M.aH,M.aS,M.aP,M.aO,M.aI,M.bH,M.aY,M.bG,M.bQ,M.bY,M.bT,M.bJ,M.bC,M.bK,M.bD,M.bM,M.bF,M.cZ,M.bV,aT,aJ,Bz,hp,show i64.wrap (0+1)=1 from rfl,show i64.wrap (1+1)=2 from rfl,show i64.wrap (1+i64.wrap (Int.tdiv 1 3))=1 from rfl,show i64.wrap (1+i64.wrap (Int.tdiv 2 3))=1 from rfl,show i64.wrap (1+i64.wrap (Int.tdiv 3 3))=2 from rfl,show i64.wrap (2+i64.wrap (Int.tdiv 1 3))=2 from rfl,show i64.wrap (2+i64.wrap (Int.tdiv 3 3))=3 from rfl,ge_iff_le,Int.reduceBEq,Int.reduceLE,Int.reduceSub,decide_true,decide_false,bW,dP,Bool.and_true,Bool.and_false,Bool.true_and,Bool.false_and,ah];generalize (t==[])=a0;generalize (o==[])=a1;cases a0<;>cases a1<;>exact⟨_,rfl,rfl⟩
 have e1:(op==1)=false:=by simpa using h1
 have e2:(op==2)=false:=by simpa using h2
 have e3:(op==3)=false:=by simpa using h3
 have hf:(decide ((1:Int)<=op) && decide (op<=3))=false:=by rw[Bool.and_eq_false_iff,decide_eq_false_iff_not,decide_eq_false_iff_not];omega
 simp only[zu,M.ay,M.aB,M.aN,M.aH,M.aS,M.aP,M.aO,M.aI,M.bH,M.aY,M.bG,M.bQ,M.bY,M.bT,M.bJ,M.bC,M.bK,M.bD,M.bM,M.bF,M.cZ,M.bV,aT,aJ,Bz,hp,e1,e2,e3,hf,ge_iff_le,Int.reduceBEq,Int.reduceLE,Int.reduceSub,decide_true,decide_false,bW,dP,Bool.and_true,Bool.and_false,Bool.true_and,Bool.false_and,ah];generalize (t==[])=a0;generalize (o==[])=a1;cases a0<;>cases a1<;>exact⟨_,rfl,rfl⟩
def aHH(op:Int)(t o:aC)(kids:au)(ht:t.length<=1048576)(ho:o.length<=1048576)(hk:kids.length<=400):zu 43 op t o kids:=by
 have hp:=Rq o [[],[62],[62,62],[124]] (by decide);rw[UO] at hp
 by_cases h1:op=1
 ·subst h1;simp only[zu,M.ay,M.aB,M.aN,M.aH,M.aS,M.aP,M.aO,M.aI,M.bH,M.aY,M.bG,M.bQ,M.bY,M.bT,M.bJ,M.bC,M.bK,M.bD,M.bM,M.bF,M.cZ,M.bV,aT,aJ,Bz,hp,show i64.wrap (0+1)=1 from rfl,show i64.wrap (1+1)=2 from rfl,show i64.wrap (1+i64.wrap (Int.tdiv 1 3))=1 from rfl,show i64.wrap (1+i64.wrap (Int.tdiv 2 3))=1 from rfl,show i64.wrap (1+i64.wrap (Int.tdiv 3 3))=2 from rfl,show i64.wrap (2+i64.wrap (Int.tdiv 1 3))=2 from rfl,show i64.wrap (2+i64.wrap (Int.tdiv 3 3))=3 from rfl,ge_iff_le,Int.reduceBEq,Int.reduceLE,Int.reduceSub,decide_true,decide_false,bW,dP,Bool.and_true,Bool.and_false,Bool.true_and,Bool.false_and,ah];generalize (t==[])=a0;generalize (o==[])=a1;cases a0<;>cases a1<;>exact⟨_,rfl,rfl⟩
 by_cases h3:op=3
 ·subst h3;simp only[zu,M.ay,M.aB,M.aN,M.aH,M.aS,M.aP,M.aO,M.aI,M.bH,M.aY,M.bG,M.bQ,M.bY,M.bT,M.bJ,M.bC,M.bK,M.bD,M.bM,M.bF,M.cZ,M.bV,aT,aJ,Bz,hp,show i64.wrap (0+1)=1 from rfl,show i64.wrap (1+1)=2 from rfl,show i64.wrap (1+i64.wrap (Int.tdiv 1 3))=1 from rfl,show i64.wrap (1+i64.wrap (Int.tdiv 2 3))=1 from rfl,show i64.wrap (1+i64.wrap (Int.tdiv 3 3))=2 from rfl,show i64.wrap (2+i64.wrap (Int.tdiv 1 3))=2 from rfl,show i64.wrap (2+i64.wrap (Int.tdiv 3 3))=3 from rfl,ge_iff_le,Int.reduceBEq,Int.reduceLE,Int.reduceSub,decide_true,decide_false,bW,dP,Bool.and_true,Bool.and_false,Bool.true_and,Bool.false_and,ah];generalize (t==[])=a0;generalize (o==[])=a1;cases a0<;>cases a1<;>exact⟨_,rfl,rfl⟩
 have e1:(op==1)=false:=by simpa using h1
 have e3:(op==3)=false:=by simpa using h3
 have hf:True:=trivial;simp only[zu,M.ay,M.aB,M.aN,M.aH,M.aS,M.aP,M.aO,M.aI,M.bH,M.aY,M.bG,M.bQ,M.bY,M.bT,M.bJ,M.bC,M.bK,M.bD,M.bM,M.bF,M.cZ,M.bV,aT,aJ,Bz,hp,e1,e3,hf,ge_iff_le,Int.reduceBEq,Int.reduceLE,Int.reduceSub,decide_true,decide_false,bW,dP,Bool.and_true,Bool.and_false,Bool.true_and,Bool.false_and,ah];generalize (t==[])=a0;generalize (o==[])=a1;cases a0<;>cases a1<;>exact⟨_,rfl,rfl⟩
def ah1(k:Int)(op:Int)(t o:aC)(kids:au)(ht:t.length<=1048576)(ho:o.length<=1048576)(hk:kids.length<=400):zu k op t o kids:=by
 by_cases h1:k=1
 ·subst h1;exact aQC op t o kids ht ho hk
 by_cases h2:k=2
 ·subst h2;exact aQD op t o kids ht ho hk
 by_cases h3:k=3
 ·subst h3;exact aQE op t o kids ht ho hk
 by_cases h4:k=4
 ·subst h4;exact aQF op t o kids ht ho hk
 by_cases h5:k=5
 ·subst h5;exact aQG op t o kids ht ho hk
 by_cases h6:k=6
 ·subst h6;exact aQH op t o kids ht ho hk
 by_cases h7:k=7
 ·subst h7;exact aQI op t o kids ht ho hk
 by_cases h8:k=8
 ·subst h8;exact aQJ op t o kids ht ho hk
 by_cases h9:k=9
 ·subst h9;exact aQK op t o kids ht ho hk
 by_cases h10:k=10
 ·subst h10;exact aHg op t o kids ht ho hk
 by_cases h11:k=11
 ·subst h11;exact aHh op t o kids ht ho hk
 by_cases h12:k=12
 ·subst h12;exact aHi op t o kids ht ho hk
 by_cases h13:k=13
 ·subst h13;exact aHj op t o kids ht ho hk
 by_cases h14:k=14
 ·subst h14;exact aHk op t o kids ht ho hk
 by_cases h15:k=15
 ·subst h15;exact aHl op t o kids ht ho hk
 by_cases h16:k=16
 ·subst h16;exact aHm op t o kids ht ho hk
 by_cases h20:k=20
 ·subst h20;exact aHn op t o kids ht ho hk
 by_cases h21:k=21
 ·subst h21;exact aHF op t o kids ht ho hk
 by_cases h22:k=22
 ·subst h22;exact aHo op t o kids ht ho hk
 by_cases h23:k=23
 ·subst h23;exact aHp op t o kids ht ho hk
 by_cases h24:k=24
 ·subst h24;exact aHq op t o kids ht ho hk
 by_cases h25:k=25
 ·subst h25;exact aHr op t o kids ht ho hk
 by_cases h26:k=26
 ·subst h26;exact aHs op t o kids ht ho hk
 by_cases h27:k=27
 ·subst h27;exact aHt op t o kids ht ho hk
 by_cases h28:k=28
 ·subst h28;exact aHu op t o kids ht ho hk
 by_cases h29:k=29
 ·subst h29;exact aHv op t o kids ht ho hk
 by_cases h30:k=30
 ·subst h30;exact aHw op t o kids ht ho hk
 by_cases h31:k=31
 ·subst h31;exact aHx op t o kids ht ho hk
 by_cases h32:k=32
 ·subst h32;exact aHy op t o kids ht ho hk
 by_cases h33:k=33
 ·subst h33;exact aHz op t o kids ht ho hk
 by_cases h34:k=34
 ·subst h34;exact aHA op t o kids ht ho hk
 by_cases h40:k=40
 ·subst h40;exact aHB op t o kids ht ho hk
 by_cases h41:k=41
 ·subst h41;exact aHC op t o kids ht ho hk
 by_cases h42:k=42
 ·subst h42;exact aHG op t o kids ht ho hk
 by_cases h43:k=43
 ·subst h43;exact aHH op t o kids ht ho hk
 by_cases h44:k=44
 ·subst h44;exact aHD op t o kids ht ho hk
 by_cases h45:k=45
 ·subst h45;exact aHE op t o kids ht ho hk
 have f1:(decide (k>=1) && decide (k<=16))=false:=by rw[Bool.and_eq_false_iff,decide_eq_false_iff_not,decide_eq_false_iff_not];omega
 have f2:(decide (k>=20) && decide (k<=34))=false:=by rw[Bool.and_eq_false_iff,decide_eq_false_iff_not,decide_eq_false_iff_not];omega
 have f3:(decide (k>=40) && decide (k<=45))=false:=by rw[Bool.and_eq_false_iff,decide_eq_false_iff_not,decide_eq_false_iff_not];omega
 have f4:(decide (k>=1) && decide (k<=15))=false:=by rw[Bool.and_eq_false_iff,decide_eq_false_iff_not,decide_eq_false_iff_not];omega
 have g:(k==16)=false:=by simpa using h16
 have e1:(k==1)=false:=by simpa using h1
 have e2:(k==2)=false:=by simpa using h2
 have e3:(k==3)=false:=by simpa using h3
 have e4:(k==4)=false:=by simpa using h4
 have e5:(k==5)=false:=by simpa using h5
 have e6:(k==6)=false:=by simpa using h6
 have e7:(k==7)=false:=by simpa using h7
 have e8:(k==8)=false:=by simpa using h8
 have e9:(k==9)=false:=by simpa using h9
 have e10:(k==10)=false:=by simpa using h10
 have e11:(k==11)=false:=by simpa using h11
 have e12:(k==12)=false:=by simpa using h12
 have e13:(k==13)=false:=by simpa using h13
 have e14:(k==14)=false:=by simpa using h14
 have e15:(k==15)=false:=by simpa using h15
 have e16:(k==16)=false:=by simpa using h16
 have e20:(k==20)=false:=by simpa using h20
 have e21:(k==21)=false:=by simpa using h21
 have e22:(k==22)=false:=by simpa using h22
 have e23:(k==23)=false:=by simpa using h23
 have e24:(k==24)=false:=by simpa using h24
 have e25:(k==25)=false:=by simpa using h25
 have e26:(k==26)=false:=by simpa using h26
 have e27:(k==27)=false:=by simpa using h27
 have e28:(k==28)=false:=by simpa using h28
 have e29:(k==29)=false:=by simpa using h29
 have e30:(k==30)=false:=by simpa using h30
 have e31:(k==31)=false:=by simpa using h31
 have e32:(k==32)=false:=by simpa using h32
 have e33:(k==33)=false:=by simpa using h33
 have e34:(k==34)=false:=by simpa using h34
 have e40:(k==40)=false:=by simpa using h40
 have e41:(k==41)=false:=by simpa using h41
 have e42:(k==42)=false:=by simpa using h42
 have e43:(k==43)=false:=by simpa using h43
 have e44:(k==44)=false:=by simpa using h44
 have e45:(k==45)=false:=by simpa using h45
 simp only[zu,M.ay,M.aB,M.aN,M.aH,M.bH,M.aY,M.bG,M.bQ,M.bY,M.bT,aT,aJ,f1,f2,f3,f4,e1,e2,e3,e4,e5,e6,e7,e8,e9,e10,e11,e12,e13,e14,e15,e16,e20,e21,e22,e23,e24,e25,e26,e27,e28,e29,e30,e31,e32,e33,e34,e40,e41,e42,e43,e44,e45,dP,ah];exact⟨false,rfl,rfl⟩
end Go.Proofs.YtbpldgeajbfgnaaGreatDoor
