import Derived.Test.YtbpldgeajbfgnaaGreatDoorPForms4
import Derived.Test.YtbpldgeajbfgnaaGreatDoorVm4
import Derived.Lib.IndexLaws
set_option linter.defProp false
namespace Go.Proofs.YtbpldgeajbfgnaaGreatDoor
set_option linter.unusedVariables false
set_option linter.unusedSimpArgs false
set_option linter.unusedSectionVars false
open Go Go.Vm
open Go.IntKind (i64)
def aY:(∀a b:Int,(a>=b)=(b<=a))∧(∀a b:Int,(a>b)=(b<a))∧(∀h:Decidable True,@decide True h=true)∧(∀h:Decidable False,@decide False h=false)∧(∀(α:Type) (a b:α),cond true a b=a)∧(∀(α:Type) (a b:α),cond false a b=b)∧(∀b:Bool,(b && true)=b)∧(∀b:Bool,(b && false)=false)∧(∀b:Bool,(true && b)=b)∧(∀b:Bool,(false && b)=false)∧((!true)=false)∧((!false)=true):=
 ⟨λ_ _=>rfl,λ_ _=>rfl,λh=>@decide_eq_true True h trivial,λh=>@decide_eq_false False h id,λ_ _ _=>rfl,λ_ _ _=>rfl,λb=>by cases b<;>rfl,λb=>by cases b<;>rfl,λ_=>rfl,λ_=>rfl,rfl,rfl⟩
def dP{m n:Nat}(h:m<=n):m.ble n=true:=Nat.ble_eq_true_of_le h
def ah{α β:Type}(a:α)(f:α->Option β):(some a).bind f=f a:=rfl
def qP:((0:Nat):Int)=0:=rfl
def NT(s:aC)(a:Int):Int:=if 0<=a then(match s[a.toNat]? with|some c=>(c.toNat:Int)|none=> -1) else -1
def isD(b:Int):Bool:=decide (b>=48) && decide (b<=57)
def Jd(s:aC)(a:Int):Int:=if 0<=a then a+(((s.drop a.toNat).takeWhile λc=>isD (c.toNat:Int)).length:Nat) else a
def aiJ(c:UInt8):c.toNat<256:=c.toNat_lt
def O8(s:aC)(i:Nat):NT s (i:Int)=(match s[i]? with|some c=>(c.toNat:Int)|none=> -1):=by rw[NT,if_pos (by omega),Yq]
section
variable {s:aC} (h:s.length<=1048576)
include h
theorem Kq(a:Int):M.fG s a=some (NT s a):=by
 simp only[M.fG,M.Lu]
 by_cases h0:a<0
 ·rw[zdt h0,cO,NT,if_neg (by omega)]
 ·rw[uw h0,dO];obtain⟨i,rfl⟩:∃i:Nat,a=i:=⟨a.toNat,by omega⟩
  rw[O8]
  by_cases h1:(i:Int)>=(s.length:Int)
  ·rw[zdt h1,cO,List.getElem?_eq_none (by omega)]
  ·obtain⟨c,hc⟩:∃c,s[i]? =some c:=⟨s[i]'(by omega),by simp⟩
   have:=aiJ c;rw[uw h1,dO,fQ,hc,ah,aJ (by omega) (by omega)]
theorem Kr(a:Int):M.jW s a=some (NT s a):=by
 simp only[M.jW,M.LV,M.dX,M.y9];rw[aJ (by omega) (by omega)]
 by_cases h0:a<0
 ·rw[uw (by omega),dO,ah,Bool.not_false,cO,NT,if_neg (by omega)]
 ·rw[zdt (by omega),cO,ah];obtain⟨i,rfl⟩:∃i:Nat,a=i:=⟨a.toNat,by omega⟩
  rw[O8]
  by_cases h1:(i:Int)>=(s.length:Int)
  ·rw[uw (by omega),Bool.not_false,cO,List.getElem?_eq_none (by omega)]
  ·obtain⟨c,hc⟩:∃c,s[i]? =some c:=⟨s[i]'(by omega),by simp⟩
   have:=aiJ c;rw[zdt (by omega),Bool.not_true,dO,fQ,hc,ah,aJ (by omega) (by omega)]
end
def aiK(b:Int):M.rM b=some (isD b):=by simp only[M.rM,M.Jv,M.dR,M.xU,isD];cases decide (b>=48)<;>rfl
def aiL(b:Int):M.rQ b=some (isD b):=by simp only[M.rQ,M.JQ,isD];cases decide (b>=48)<;>rfl
def atC{s:aC}{b:Int->Option (Int⊕Int)}(hb:∀a,0<=a->a<=2000000->b a=some (bif isD (NT s a) then .inl (a+1) else .inr a))(h:s.length<=1048576):
  ∀(rest pre:aC),s=pre++rest->iT b (pre.length:Int)=some ((pre.length:Int)+((rest.takeWhile λc=>isD (c.toNat:Int)).length:Nat))
 |[],pre,e=>by
  have hl:pre.length=s.length:=by rw[e];simp
  refine jq ?_;rw[hb _ (by omega) (by omega),O8,List.getElem?_eq_none (by omega)];simp[isD]
 |c::rest,pre,e=>by
  have hl:s.length=pre.length+(rest.length+1):=by rw[e];simp
  have hget:s[pre.length]? =some c:=by rw[e,List.getElem?_append_right (Nat.le_refl _),Nat.sub_self];rfl
  have hs:=hb (pre.length:Int) (by omega) (by omega);rw[O8,hget] at hs;simp only at hs;cases hd:isD (c.toNat:Int) with
  |true=>have:=atC hb h rest (pre++[c]) (by rw[e];simp);rw[uq,OJ] at this;rw[hd,cO] at hs;rw[kQ hs,List.takeWhile_cons,if_pos hd,show(pre.length:Int)+1=((pre.length+1:Nat):Int) by omega,this];simp;omega
  |false=>rw[hd,dO] at hs;rw[jq hs,List.takeWhile_cons,hd];simp
def apP{s:aC}{b:Int->Option (Int⊕Int)}(hb:∀a,0<=a->a<=2000000->b a=some (bif isD (NT s a) then .inl (a+1) else .inr a))(h:s.length<=1048576)(a:Int)(h0:0<=a)(h1:a<=2000000):iT b a=some (Jd s a):=by
 obtain⟨i,rfl⟩:∃i:Nat,a=i:=⟨a.toNat,by omega⟩
 rw[Jd,if_pos h0,Yq]
 by_cases hi:i<=s.length
 ·have:=atC hb h (s.drop i) (s.take i) (List.take_append_drop i s).symm;rw[PE,Nat.min_eq_left hi] at this;exact this
 ·rw[List.drop_eq_nil_of_le (by omega)];refine jq ?_;rw[hb _ h0 h1,O8,List.getElem?_eq_none (by omega)];simp[isD]
def QT{s:aC}(h:s.length<=1048576){a:Int}(h0:0<=a):a<=Jd s a∧(Jd s a<=a∨Jd s a<=s.length):=by have h1:=(List.takeWhile_sublist (p:=λc:UInt8=>isD (c.toNat:Int)) (l:=s.drop a.toNat)).length_le;rw[List.length_drop] at h1;rw[Jd,if_pos h0];omega
section
variable {s:aC} (h:s.length<=1048576)
include h
theorem Ak(a:Int)(h0:0<=a)(h1:a<=2000000):M.bf s a=some (Jd s a):=by simp only[M.bf,M.Hq,M.Fg];rw[apP (λa h0 h1=>by simp only[M.Oo,M.BF,Kq h,aiK,ah];rw[aJ (by omega) (by omega)];cases isD (NT s a)<;>rfl) h a h0 h1,ah]
theorem yM(a:Int)(h0:0<=a)(h1:a<=2000000):M.eY s a=some (Jd s a):=by simp only[M.eY,M.FI,M.DW];rw[apP (λa h0 h1=>by simp only[M.Nv,M.zx,Kr h,aiL,ah];rw[aJ (by omega) (by omega)];cases isD (NT s a)<;>rfl) h a h0 h1,ah]
end
def Ye(s:aC)(r:Int):Int:=bif(NT s r==101)||(NT s r==69) then
  (bif(NT s (r+1)==43)||(NT s (r+1)==45) then(bif decide (Jd s (r+1+1)>r+1+1) then Jd s (r+1+1) else r) else(bif decide (Jd s (r+1)>r+1) then Jd s (r+1) else r)) else r
def abX(s:aC)(a:Int):Int:=if a<0∨(s.length:Int)<=a then -1 else
 bif NT s (Jd s a)==46 then(bif(Jd s a==a) &&(Jd s (Jd s a+1)==Jd s a+1) then -1 else Ye s (Jd s (Jd s a+1))) else(bif Jd s a==a then -1 else Ye s (Jd s a))
section
variable {s:aC} (h:s.length<=1048576)
include h
set_option maxHeartbeats 2000000 in
theorem abY(a:Int)(ha:a<=1048576):M.AY s a=some (abX s a):=by
 simp only[M.AY,M.LW,M.dX,M.y9,abX];rw[aJ (by omega) (by omega)]
 by_cases h0:a<0
 ·rw[uw (by omega),dO,ah,Bool.not_false,cO,if_pos (.inl h0)]
 ·rw[zdt (by omega),cO,ah]
  by_cases h1:(s.length:Int)<=a
  ·rw[uw (by omega),Bool.not_false,cO,if_pos (.inr h1)]
  ·rw[zdt (by omega),Bool.not_true,dO,if_neg (by omega),yM h a (by omega) (by omega),ah];have e1:=QT h (a:=a) (by omega);generalize hE:Jd s a=e at e1⊢;simp only[Kr h,ah];rw[aJ (n:=e+1) (by omega) (by omega),aJ (n:=e - a) (by omega) (by omega),yM h (e+1) (by omega) (by omega),ah];have e2:=QT h (a:=e+1) (by omega);generalize hK:Jd s (e+1)=k at e2⊢;have hz:(i64.wrap (e - a+i64.wrap (i64.wrap (k - e) - 1))==0)=((e==a) &&(k==e+1)):=by rw[aJ (n:=k - e) (by omega) (by omega),aJ (n:=k - e - 1) (by omega) (by omega),aJ (by omega) (by omega),Bool.eq_iff_iff];simp only[GH,beq_iff_eq];omega
   have hz2:(e - a==0)=(e==a):=by rw[Bool.eq_iff_iff];simp only[beq_iff_eq];omega
   rw[hz,hz2];have ex:∀r:Int,0<=r->r<=1048578->(bif NT s r==101 then
      ((some (NT s (i64.wrap (r+1)))).bind λaLK=>
      (bif aLK==43 then
       ((M.eY s (i64.wrap (i64.wrap (r+1)+1))).bind λaLL=>
       (bif decide (aLL>i64.wrap (i64.wrap (r+1)+1)) then(some aLL) else(some r))) else
       (bif aLK==45 then
       ((M.eY s (i64.wrap (i64.wrap (r+1)+1))).bind λaLM=>(bif decide (aLM>i64.wrap (i64.wrap (r+1)+1)) then(some aLM) else(some r))) else
       ((M.eY s (i64.wrap (r+1))).bind λaLN=>(bif decide (aLN>i64.wrap (r+1)) then(some aLN) else(some r)))))) else
      (bif NT s r==69 then
      ((some (NT s (i64.wrap (r+1)))).bind λaLO=>
       (bif aLO==43 then
       ((M.eY s (i64.wrap (i64.wrap (r+1)+1))).bind λaLP=>(bif decide (aLP>i64.wrap (i64.wrap (r+1)+1)) then(some aLP) else(some r))) else
       (bif aLO==45 then
        ((M.eY s (i64.wrap (i64.wrap (r+1)+1))).bind λaLQ=>
        (bif decide (aLQ>i64.wrap (i64.wrap (r+1)+1)) then(some aLQ) else(some r))) else
        ((M.eY s (i64.wrap (r+1))).bind λaLR=>(bif decide (aLR>i64.wrap (r+1)) then(some aLR) else(some r)))))) else(some r)))=some (Ye s r):=by
    intro r h0 h1;rw[aJ (n:=r+1) (by omega) (by omega),aJ (n:=r+1+1) (by omega) (by omega),yM h (r+1) (by omega) (by omega),yM h (r+1+1) (by omega) (by omega),Ye];simp only[ah];cases NT s r==101<;>cases NT s r==69<;>cases NT s (r+1)==43<;>cases NT s (r+1)==45<;>cases decide (Jd s (r+1+1)>r+1+1)<;>cases decide (Jd s (r+1)>r+1)<;>rfl
   simp only[ah] at ex;cases NT s e==46 with
   |true=>
    simp only[cO];cases(e==a) &&(k==e+1) with
    |true=>rfl
    |false=>simp only[dO];exact ex k (by omega) (by omega)
   |false=>
    simp only[dO];cases e==a with
    |true=>rfl
    |false=>simp only[dO];have h2:=ex e (by omega) (by omega);rw[aJ (n:=e+1) (by omega) (by omega),yM h (e+1) (by omega) (by omega),hK] at h2;simp only[ah] at h2;exact h2
theorem abZ(a:Int)(ha:a<=1048576):M.AP s a=some (abX s a):=by
 simp only[M.AP,M.LC,abX]
 by_cases h0:a<0
 ·rw[zdt h0,cO,if_pos (.inl h0)]
 ·rw[uw h0,dO];have e1:=QT h (a:=a) (by omega);rw[Ak h a (by omega) (by omega),ah];simp only[Kq h,ah]
  by_cases h1:(s.length:Int)<=a
  ·have he:Jd s a=a:=by omega
   obtain⟨i,rfl⟩:∃i:Nat,a=i:=⟨a.toNat,by omega⟩
   have hb:NT s (i:Int)= -1:=by rw[O8,List.getElem?_eq_none (by omega)]
   rw[he,hb,if_pos (.inr h1),show((-1:Int)==46)=false from rfl,dO,beq_self_eq_true,cO]
  ·rw[if_neg (by omega)];generalize hE:Jd s a=e at e1⊢;have e2:=QT h (a:=e+1) (by omega);rw[aJ (n:=e+1) (by omega) (by omega),Ak h (e+1) (by omega) (by omega),ah];have ex:∀r:Int,0<=r->r<=1048578->(bif NT s r==101 then
      (bif NT s (i64.wrap (r+1))==43 then
       ((M.bf s (i64.wrap (i64.wrap (r+1)+1))).bind λauj=>
        (bif decide (auj>i64.wrap (i64.wrap (r+1)+1)) then
        ((M.bf s (i64.wrap (i64.wrap (r+1)+1))).bind λauk=>(some auk)) else(some r))) else
        (bif NT s (i64.wrap (r+1))==45 then
        ((M.bf s (i64.wrap (i64.wrap (r+1)+1))).bind λaul=>
         (bif decide (aul>i64.wrap (i64.wrap (r+1)+1)) then
         ((M.bf s (i64.wrap (i64.wrap (r+1)+1))).bind λaum=>(some aum)) else(some r))) else
        ((M.bf s (i64.wrap (r+1))).bind λaun=>(bif decide (aun>i64.wrap (r+1)) then((M.bf s (i64.wrap (r+1))).bind λauo=>(some auo)) else(some r))))) else
       (bif NT s r==69 then
        (bif NT s (i64.wrap (r+1))==43 then
        ((M.bf s (i64.wrap (i64.wrap (r+1)+1))).bind λaup=>
         (bif decide (aup>i64.wrap (i64.wrap (r+1)+1)) then
         ((M.bf s (i64.wrap (i64.wrap (r+1)+1))).bind λauq=>(some auq)) else(some r))) else
         (bif NT s (i64.wrap (r+1))==45 then
         ((M.bf s (i64.wrap (i64.wrap (r+1)+1))).bind λaur=>
          (bif decide (aur>i64.wrap (i64.wrap (r+1)+1)) then
          ((M.bf s (i64.wrap (i64.wrap (r+1)+1))).bind λaus=>(some aus)) else(some r))) else
         ((M.bf s (i64.wrap (r+1))).bind λaut=>(bif decide (aut>i64.wrap (r+1)) then((M.bf s (i64.wrap (r+1))).bind λauu=>(some auu)) else(some r))))) else(some r)))=some (Ye s r):=by
    intro r h0 h1;rw[aJ (n:=r+1) (by omega) (by omega),aJ (n:=r+1+1) (by omega) (by omega),Ak h (r+1) (by omega) (by omega),Ak h (r+1+1) (by omega) (by omega),Ye];simp only[ah];cases NT s r==101<;>cases NT s r==69<;>cases NT s (r+1)==43<;>cases NT s (r+1)==45<;>cases decide (Jd s (r+1+1)>r+1+1)<;>cases decide (Jd s (r+1)>r+1)<;>rfl
   generalize hK:Jd s (e+1)=k at e2⊢;have hka:(k==a)=false:=by rw[VZ];omega
   rw[hka];cases NT s e==46 with
   |true=>
    simp only[cO,dO];cases e==a with
    |true=>
     simp only[cO,Bool.true_and];cases k==e+1 with
     |true=>rfl
     |false=>simp only[dO];exact ex k (by omega) (by omega)
    |false=>simp only[dO,Bool.false_and];exact ex k (by omega) (by omega)
   |false=>
    simp only[dO];cases e==a with
    |true=>rfl
    |false=>simp only[dO];have h2:=ex e (by omega) (by omega);rw[aJ (n:=e+1) (by omega) (by omega),Ak h (e+1) (by omega) (by omega),hK] at h2;simp only[ah] at h2;exact h2
end
def adt(q:Int):aC->Int->Int
 |[],_=> -1
 |c::l,i=>if(c.toNat:Int)=q then i+1 else if(c.toNat:Int)=10 then -1 else if(c.toNat:Int)=92 then(match l with
   |[]=> -1
   |d::l'=>if(d.toNat:Int)=10 then -1 else adt q l' (i+2)) else adt q l (i+1)
def aek(q:Int)(c:UInt8)(l:aC)(i:Int):adt q (c::l) i=if(c.toNat:Int)=q then i+1 else if(c.toNat:Int)=10 then -1 else if(c.toNat:Int)=92 then(match l with
   |[]=> -1
   |d::l'=>if(d.toNat:Int)=10 then -1 else adt q l' (i+2)) else adt q l (i+1):=by
 cases l with
 |nil=>simp[adt]
 |cons d l=>simp[adt]
def hdI:aC->Int
 |[]=> -1
 |d::_=>(d.toNat:Int)
def quoted(s:aC)(a q:Int):Int:=if NT s a=q then adt q (s.drop (a+1).toNat) (a+1) else -1
def apQ{s:aC}(h:s.length<=1048576)(q:Int)(hq:q≠10):∀(n:Nat) (rest pre:aC),rest.length<=n->s=pre++rest->
  (∃r,M.rC s q (pre.length:Int)=some r∧(yS r some λu=>letE u λ_=>some (-1))=some (adt q rest (pre.length:Int)))∧
  (∃r,M.qm s q (pre.length:Int)=some r∧(yS r some λu=>letE u λ_=>some (-1))=some (adt q rest (pre.length:Int)))
 |n,[],pre,hn,e=>by
  have hl:pre.length=s.length:=by rw[e];simp
  constructor
  ·refine⟨.inr (pre.length:Int), ?_,rfl⟩;rw[M.rC];refine jq ?_;simp only[M.vT,M.ru];rw[uw (by omega),dO]
  ·refine⟨.inr (pre.length:Int), ?_,rfl⟩;rw[M.qm];refine jq ?_;simp only[M.uF,M.qA];rw[uw (by omega),dO]
 |0,c::rest,pre,hn,e=>by simp at hn
 |n+1,c::rest,pre,hn,e=>by
  simp only[mZ] at hn;have hl:s.length=pre.length+(rest.length+1):=by rw[e];simp
  have hget:s[pre.length]? =some c:=by rw[e,List.getElem?_append_right (Nat.le_refl _),Nat.sub_self];rfl
  have hc:=aiJ c;have hw:i64.wrap ((c.toNat:Nat):Int)=(c.toNat:Int):=aJ (by omega) (by omega);have hw1:i64.wrap ((pre.length:Int)+1)=((pre.length+1:Nat):Int):=by rw[aJ (by omega) (by omega)];omega
  have hw2:i64.wrap (((pre.length+1:Nat):Int)+1)=((pre.length+2:Nat):Int):=by rw[aJ (by omega) (by omega)];omega
  have hnext:NT s ((pre.length+1:Nat):Int)=hdI rest:=by rw[O8,e,List.getElem?_append_right (by omega),show pre.length+1 - pre.length=1 by omega];cases rest<;>rfl
  have hS:M.vT s q (pre.length:Int)=some (if(c.toNat:Int)=q then .inr (.inl ((pre.length+1:Nat):Int)) else if(c.toNat:Int)=10 then .inr (.inl (-1)) else if(c.toNat:Int)=92 then
    (if NT s ((pre.length+1:Nat):Int)=10 then .inr (.inl (-1)) else .inl ((pre.length+2:Nat):Int)) else .inl ((pre.length+1:Nat):Int)):=by
   simp only[M.vT,M.ru,fQ,hget,ah,hw,hw1,hw2,Kq h];rw[zdt (by omega),cO]
   by_cases c1:(c.toNat:Int)=q
   ·rw[if_pos c1,show((c.toNat:Int)==q)=true by simpa using c1,cO]
   ·rw[if_neg c1,show((c.toNat:Int)==q)=false by simpa using c1,dO]
    by_cases c2:(c.toNat:Int)=10
    ·rw[if_pos c2,show((c.toNat:Int)==10)=true by simpa using c2,cO]
    ·rw[if_neg c2,show((c.toNat:Int)==10)=false by simpa using c2,dO]
     by_cases c3:(c.toNat:Int)=92
     ·rw[if_pos c3,show((c.toNat:Int)==92)=true by simpa using c3,cO]
      by_cases c4:NT s ((pre.length+1:Nat):Int)=10
      ·rw[if_pos c4,c4];rfl
      ·rw[if_neg c4,show(NT s ((pre.length+1:Nat):Int)==10)=false by simpa using c4,dO]
     ·rw[if_neg c3,show((c.toNat:Int)==92)=false by simpa using c3,dO]
  have hI:M.uF s q (pre.length:Int)=some (if(c.toNat:Int)=10 then .inr (.inr (pre.length:Int)) else if(c.toNat:Int)=q then .inr (.inl ((pre.length+1:Nat):Int)) else if(c.toNat:Int)=92 then
    (if NT s ((pre.length+1:Nat):Int)=10 then .inl ((pre.length+1:Nat):Int) else .inl ((pre.length+2:Nat):Int)) else .inl ((pre.length+1:Nat):Int)):=by
   simp only[M.uF,M.qA,fQ,hget,ah,hw,hw1,hw2,Kr h];rw[zdt (by omega),cO]
   by_cases c2:(c.toNat:Int)=10
   ·rw[if_pos c2,show((c.toNat:Int) !=10)=false by simpa using c2,dO]
   ·rw[if_neg c2,show((c.toNat:Int) !=10)=true by simpa using c2,cO]
    by_cases c1:(c.toNat:Int)=q
    ·rw[if_pos c1,show((c.toNat:Int)==q)=true by simpa using c1,cO]
    ·rw[if_neg c1,show((c.toNat:Int)==q)=false by simpa using c1,dO]
     by_cases c3:(c.toNat:Int)=92
     ·rw[if_pos c3,show((c.toNat:Int)==92)=true by simpa using c3,cO]
      by_cases c4:NT s ((pre.length+1:Nat):Int)=10
      ·rw[if_pos c4,c4];rfl
      ·rw[if_neg c4,show(NT s ((pre.length+1:Nat):Int) !=10)=true by simpa using c4,cO]
     ·rw[if_neg c3,show((c.toNat:Int)==92)=false by simpa using c3,dO]
  have e1:s=(pre++[c])++rest:=by rw[e];simp
  have ih1:=apQ h q hq n rest (pre++[c]) (by omega) e1;rw[uq,OJ] at ih1;rw[M.rC,M.qm] at ih1⊢;rw[aek]
  by_cases c1:(c.toNat:Int)=q
  ·have c2:¬(c.toNat:Int)=10:=by omega
   rw[if_pos c1];rw[if_pos c1] at hS;rw[if_neg c2,if_pos c1] at hI;refine⟨⟨_,jq hS, ?_⟩,⟨_,jq hI, ?_⟩⟩<;>simp[yS]
  ·rw[if_neg c1];rw[if_neg c1] at hS
   by_cases c2:(c.toNat:Int)=10
   ·rw[if_pos c2];rw[if_pos c2] at hS hI;exact⟨⟨_,jq hS,rfl⟩,⟨_,jq hI,rfl⟩⟩
   ·rw[if_neg c2];rw[if_neg c2] at hS hI;rw[if_neg c1] at hI
    by_cases c3:(c.toNat:Int)=92
    ·rw[if_pos c3];rw[if_pos c3] at hS hI;cases rest with
     |nil=>
      rw[hnext,hdI] at hS hI;simp only[show¬((-1:Int)=10) by omega,if_false] at hS hI;have hend:∀(b:Int->Option (Int⊕(Int⊕Int))),True:=λ_=>trivial
      simp only[xq] at hl;refine⟨⟨.inr ((pre.length+2:Nat):Int), ?_,rfl⟩,⟨.inr ((pre.length+2:Nat):Int), ?_,rfl⟩⟩
      ·rw[kQ hS];refine jq ?_;simp only[M.vT,M.ru];rw[uw (by omega),dO]
      ·rw[kQ hI];refine jq ?_;simp only[M.uF,M.qA];rw[uw (by omega),dO]
     |cons d rest'=>
      simp only[hdI] at hnext⊢;rw[hnext] at hS hI
      by_cases c4:(d.toNat:Int)=10
      ·rw[if_pos c4];rw[if_pos c4] at hS hI;refine⟨⟨_,jq hS,rfl⟩, ?_⟩;obtain⟨r,h1,h2⟩:=ih1.2;refine⟨r,by rw[kQ hI];exact h1, ?_⟩;rw[h2,aek,if_neg (by omega),if_pos c4]
      ·rw[if_neg c4];rw[if_neg c4] at hS hI;have e2:s=(pre++[c,d])++rest':=by rw[e];simp
       simp only[mZ] at hn;have ih2:=apQ h q hq n rest' (pre++[c,d]) (by omega) e2;rw[uq,show[c,d].length=2 from rfl,M.rC,M.qm] at ih2;rw[kQ hS,kQ hI,show(pre.length:Int)+2=((pre.length+2:Nat):Int) by omega];exact ih2
    ·rw[if_neg c3];rw[if_neg c3] at hS hI;rw[kQ hS,kQ hI,show(pre.length:Int)+1=((pre.length+1:Nat):Int) by omega];exact ih1
section
variable {s:aC} (h:s.length<=1048576)
include h
theorem ael(a q:Int)(h0:0<=a)(h1:a<=1048576)(hq:0<=q)(hq2:q≠10):M.oV s a q=some (quoted s a q)∧M.nS s a q=some (quoted s a q):=by
 simp only[M.oV,M.Hr,M.nS,M.FK,Kq h,Kr h,ah,quoted]
 by_cases hb:NT s a=q
 ·rw[if_pos hb,show(NT s a !=q)=false by simpa using hb,dO,dO,aJ (by omega) (by omega)];obtain⟨i,rfl⟩:∃i:Nat,a=i:=⟨a.toNat,by omega⟩
  have hi:i<s.length:=by
   rcases Nat.lt_or_ge i s.length with hlt|hge
   ·exact hlt
   ·rw[O8,List.getElem?_eq_none hge] at hb;simp only at hb;omega
  obtain⟨⟨r,k1,k2⟩,⟨r',k3,k4⟩⟩:=apQ h q hq2 _ (s.drop (i+1)) (s.take (i+1)) (Nat.le_refl _) (List.take_append_drop _ s).symm;rw[PE,Nat.min_eq_left (by omega)] at k1 k2 k3 k4;rw[show(i:Int)+1=((i+1:Nat):Int) by omega,Yq,k1,k3,ah,ah];exact⟨k2,k4⟩
 ·rw[if_neg hb,show(NT s a !=q)=true by simpa using hb,cO,cO];exact⟨rfl,rfl⟩
theorem amb(a:Int)(h0:0<=a)(h1:a<=1048576):M.AQ s a=some (quoted s a 34)∧M.AZ s a=some (quoted s a 34):=by have:=ael h a 34 h0 h1 (by omega) (by omega);simp only[M.AQ,M.LD,M.AZ,M.LX,this.1,this.2,ah];constructor<;>first|rfl|trivial
def ab1(s:aC)(a:Int):Int:=bif quoted s a 47==a+2 then -1 else quoted s a 47
theorem amc(a:Int)(h0:0<=a)(h1:a<=1048576):M.AU s a=some (ab1 s a)∧M.A8 s a=some (ab1 s a):=by have:=ael h a 47 h0 h1 (by omega) (by omega);simp only[M.AU,M.LG,M.A8,M.LY,this.1,this.2,ah,ab1];rw[aJ (by omega) (by omega)];cases quoted s a 47==a+2<;>simp
end
end Go.Proofs.YtbpldgeajbfgnaaGreatDoor
namespace Go.Proofs.YtbpldgeajbfgnaaGreatDoor
set_option linter.unusedVariables false
set_option linter.unusedSimpArgs false
set_option linter.unusedSectionVars false
open Go Go.Vm
open Go.IntKind (i64)
@[simp] theorem MO(l:List (aC)):(encS l).length=l.length:=by simp[encS]
@[simp] theorem Tc(l:List (aC))(i:Nat):(encS l)[i]? =(l[i]?).map λs=>[D.str s]:=by simp[encS]
def cS0(s:aC):cStr [D.str s] 0=some s:=rfl
def strsOf:Row->List (aC)
 |[]=>[]
 | .str s::r=>s::strsOf r
 |_::r=>strsOf r
def Td:List (aC):=strsOf Az
def Qj:List (aC):=strsOf Ol
def aiM:List (aC):=strsOf Jb
def MP(s:aC):List (aC)->Int->Int
 |[],_=> -1
 |x::l,i=>if x==s then i else MP s l (i+1)
def Y5(s:aC):∀(l:List (aC)) (i:Int),0<=i-> -1<=MP s l i∧MP s l i<i+l.length
 |[],i,h=>by simp[MP];omega
 |x::l,i,h=>by
  rw[MP];split
  ·simp;omega
  ·have:=Y5 s l (i+1) (by omega);simp only[mZ];omega
def aem(s:aC)(l:List (aC))(hl:l.length<=1048576){b:Int->Option (Int⊕(Int⊕Int))}
  (hb:∀(i:Nat) x,l[i]? =some x->b (i:Int)=some (if x==s then .inr (.inl (i:Int)) else .inl ((i:Int)+1))) (he:b (l.length:Int)=some (.inr (.inr (l.length:Int)))):
  ∃r,iT b 0=some r∧(yS r some λu=>letE u λ_=>some (-1))=some (MP s l 0):=by
 have key:∀(t:List (aC)) (i:Nat),l.drop i=t->i<=l.length->∃r,iT b (i:Int)=some r∧(yS r some λu=>letE u λ_=>some (-1))=some (MP s t (i:Int)):=by
  intro t;induction t with
  |nil=>
   intro i hd hi;have:i=l.length:=by have:=congrArg List.length hd;simp at this;omega
   subst this;exact⟨_,jq he,rfl⟩
  |cons x t ih=>
   intro i hd hi;have hx:l[i]? =some x:=by
    have:(l.drop i)[0]? =some x:=by rw[hd];rfl
    simpa using this
   have hlt:i<l.length:=(MG.1 hx).1;have hd':l.drop (i+1)=t:=by rw[<-List.drop_drop,hd];rfl
   have hs:=hb i x hx;rw[MP];cases hxs:x==s with
   |true=>rw[hxs] at hs;exact⟨_,jq hs,rfl⟩
   |false=>
    rw[hxs] at hs;obtain⟨r,h1,h2⟩:=ih (i+1) hd' hlt;refine⟨r, ?_, ?_⟩
    ·rw[kQ hs,show(i:Int)+1=((i+1:Nat):Int) by omega];exact h1
    ·rw[h2];simp
 exact key l 0 rfl (Nat.zero_le _)
def aen(s:aC)(l:List (aC))(hl:l.length<=1048576):M.uU (encS l) s=some (MP s l 0):=by
 obtain⟨r,h1,h2⟩:=aem s l hl (b:=M.Fa (encS l) s)
  (λi x hx=>by have hi:=(MG.1 hx).1;simp only[M.Fa,M.zI,MO,fQ,Tc,hx,Qq,ah,cS0];rw[zdt (by omega),cO,aJ (by omega) (by omega)];cases x==s<;>rfl)
  (by simp only[M.Fa,M.zI,MO];rw[uw (by omega),dO])
 simp only[M.uU,M.Lr,M.Jw];rw[h1,ah];exact h2
def ab2(s:aC)(l:List (aC))(hl:l.length<=1048576):M.slices_Index (encS l) s=some (MP s l 0):=by
 obtain⟨r,h1,h2⟩:=aem s l hl (b:=M.DV (encS l) s (l.length:Int))
  (λi x hx=>by have hi:=(MG.1 hx).1;simp only[M.DV,M.yu,fQ,Tc,hx,Qq,ah,cS0];rw[zdt (by omega),cO,aJ (by omega) (by omega),show(s==x)=(x==s) by rw[Bool.eq_iff_iff,beq_iff_eq,beq_iff_eq];exact⟨Eq.symm,Eq.symm⟩];cases x==s<;>rfl)
  (by simp only[M.DV,M.yu];rw[uw (by omega),dO])
 simp only[M.slices_Index,M.JR,M.Ic,MO];rw[h1,ah];exact h2
def apR(s:aC):Int:=if MP s Td 0<0 then 0 else 10+MP s Td 0
def Y6(s:aC):Bool:=decide (MP s aiM 0>=0)
def aiN:M.uJ=some (encS Td):=rfl
def aiO:M.um=some (encS aiM):=rfl
def aiP:M.uK=some (encS Qj):=rfl
def awW:List.map (λx=>[x]) Az=encS Td:=rfl
def aso:List.map (λx=>[x]) Jb=encS aiM:=rfl
def afv(s:aC):M.sK s=some (apR s)∧M.sO s=some (apR s):=by
 have hr:=Y5 s Td 0 (by omega);have hl:Td.length=17:=rfl;simp only[M.sK,M.Fb,M.sO,M.FD,aiN,awW,ah,aen s Td (by rw[hl];omega),ab2 s Td (by rw[hl];omega),apR]
 by_cases h:MP s Td 0<0
 ·rw[zdt h,cO,if_pos h];exact⟨rfl,rfl⟩
 ·rw[uw h,dO,if_neg h,aJ (by omega) (by omega)];exact⟨rfl,rfl⟩
def dY(s:aC):M.kZ s=some (Y6 s)∧M.lX s=some (Y6 s):=by have hl:aiM.length=21:=rfl;simp only[M.kZ,M.Fe,M.lX,M.FH,M.slices_Contains,M.yw,aiO,aso,ah,aen s aiM (by rw[hl];omega),ab2 s aiM (by rw[hl];omega),Y6];constructor<;>first|rfl|trivial
def isL(b:Int):Bool:=(decide (b>=97) && decide (b<=122))||((decide (b>=65) && decide (b<=90))||(b==95))
def isW(b:Int):Bool:=isL b||isD b
def Y7(b:Int):M.oU b=some (isL b)∧M.o7 b=some (isL b):=by simp only[M.oU,M.Hl,M.dR,M.xU,M.o7,M.Ib,isL];cases decide (b>=97)<;>cases decide (b<=122)<;>cases decide (b>=65)<;>cases decide (b<=90)<;>cases(b==95)<;>exact⟨rfl,rfl⟩
def MC(b:Int):M.kC b=some (isW b)∧M.kD b=some (isW b):=by simp only[M.kC,M.DF,M.kD,M.DR,Y7,aiK,aiL,ah,isW];cases isL b<;>cases isD b<;>exact⟨rfl,rfl⟩
def apS(s:aC):Bool:=s.all λc=>isW (c.toNat:Int)
def aXu:aC->Bool
 |[]=>false
 |c::_=>isL (c.toNat:Int)
def Qk(s:aC):Bool:=apS s &&((decide ((s.length:Int)>=1) && decide ((s.length:Int)<=12)) && aXu s)
def ab3(s:aC){b:Int->Option (Int⊕(Unit⊕Int))}
  (hb:∀(i:Nat) c,s[i]? =some c->b (i:Int)=some (bif isW (c.toNat:Int) then .inl ((i:Int)+1) else .inr (.inl ()))) (he:b (s.length:Int)=some (.inr (.inr (s.length:Int)))):
  iT b 0=some (bif apS s then .inr (s.length:Int) else .inl ()):=by
 have key:∀(t:aC) (i:Nat),s.drop i=t->i<=s.length->iT b (i:Int)=some (bif apS t then .inr (s.length:Int) else .inl ()):=by
  intro t;induction t with
  |nil=>
   intro i hd hi;have:i=s.length:=by have:=congrArg List.length hd;simp at this;omega
   subst this;exact jq he
  |cons x t ih=>
   intro i hd hi;have hx:s[i]? =some x:=by
    have:(s.drop i)[0]? =some x:=by rw[hd];rfl
    simpa using this
   have hlt:i<s.length:=(MG.1 hx).1;have hd':s.drop (i+1)=t:=by rw[<-List.drop_drop,hd];rfl
   have hs:=hb i x hx;rw[apS,List.all_cons];cases hw:isW (x.toNat:Int) with
   |true=>rw[hw,cO] at hs;rw[kQ hs,show(i:Int)+1=((i+1:Nat):Int) by omega,ih (i+1) hd' hlt,Bool.true_and];rfl
   |false=>rw[hw,dO] at hs;rw[jq hs];rfl
 exact key s 0 rfl (Nat.zero_le _)
def afw(s:aC)(h:s.length<=1048576):M.sJ s=some (Qk s)∧M.sN s=some (Qk s):=by
 have hw:∀c:UInt8,i64.wrap ((c.toNat:Nat):Int)=(c.toNat:Int):=λc=>by have:=aiJ c;exact aJ (by omega) (by omega)
 have h1:=ab3 s (b:=M.zq s)
  (λi c hc=>by have hi:=(MG.1 hc).1;simp only[M.zq,M.uz,fQ,hc,ah,hw,MC];rw[zdt (by omega),cO,aJ (by omega) (by omega)];cases isW (c.toNat:Int)<;>rfl)
  (by simp only[M.zq,M.uz];rw[uw (by omega),dO])
 have h2:=ab3 s (b:=M.zu s (s.length:Int))
  (λi c hc=>by have hi:=(MG.1 hc).1;simp only[M.zu,M.uD,fQ,hc,ah,hw,MC];rw[zdt (by omega),cO,aJ (by omega) (by omega)];cases isW (c.toNat:Int)<;>rfl)
  (by simp only[M.zu,M.uD];rw[uw (by omega),dO])
 simp only[M.sJ,M.E8,M.sN,M.FC,M.DI,M.DU,M.dR,M.xU,M.dX,M.y9];rw[h1,h2,ah,ah,Qk];cases apS s with
 |false=>exact⟨rfl,rfl⟩
 |true=>
  simp only[cO,yS,letE,Bool.true_and];cases s with
  |nil=>exact⟨rfl,rfl⟩
  |cons c l=>have hi:idx (c::l) 0=some c:=rfl;simp only[hi,ah,hw,Y7];cases decide (((c::l).length:Int)>=1)<;>cases decide (((c::l).length:Int)<=12)<;>exact⟨rfl,rfl⟩
def Kt(s:aC):Bool:=Qk s &&((apR s==0) && !(Y6 s))
def dn(s:aC)(h:s.length<=1048576):M.iI s=some (Kt s)∧M.jV s=some (Kt s):=by have h1:=afw s h;simp only[M.iI,M.Ls,M.jV,M.LU,h1.1,h1.2,afv,dY,ah,Kt];cases Qk s<;>cases apR s==0<;>cases Y6 s<;>exact⟨rfl,rfl⟩
end Go.Proofs.YtbpldgeajbfgnaaGreatDoor
namespace Go.Proofs.YtbpldgeajbfgnaaGreatDoor
set_option linter.unusedVariables false
set_option linter.unusedSimpArgs false
set_option linter.unusedSectionVars false
open Go Go.Vm
open Go.IntKind (i64)
def aLS(c:UInt8)(n:Nat)(h:n<256):(((c.toNat:Nat):Int)==(n:Int))=(c==UInt8.ofNat n):=by
 rw[Bool.eq_iff_iff,beq_iff_eq,beq_iff_eq];constructor
 ·intro e;apply UInt8.toNat_inj.1;rw[UInt8.toNat_ofNat',Nat.mod_eq_of_lt h];omega
 ·rintro rfl;rw[UInt8.toNat_ofNat',Nat.mod_eq_of_lt h]
def hasB(c:UInt8)(s:aC):Bool:=s.any (· ==c)
def amd(s:aC)(c:UInt8):decide (0<=Lib.indexByte s c)=hasB c s:=by
 have hge:=Lib.indexByte_ge s c;rw[Bool.eq_iff_iff,decide_eq_true_eq,hasB,List.any_eq_true];constructor
 ·intro h;obtain⟨i,hi⟩:∃i:Nat,Lib.indexByte s c=i:=⟨(Lib.indexByte s c).toNat,by omega⟩
  exact⟨c,Au (Lib.indexByte_some hi).1,by simp⟩
 ·rintro⟨x,hx,hc⟩;have:=beq_iff_eq.1 hc;subst this;rcases Int.lt_or_le (Lib.indexByte s x) 0 with h|h
  ·obtain⟨i,hi⟩:=List.mem_iff_getElem?.1 hx;exact absurd hi (Lib.indexByte_none (by omega) i)
  ·exact h
def apT(s:aC)(h:s.length<=1000000000):M.xG s=some (!(hasB 10 s)):=by
 have key:∀(t:aC) (i:Nat),s.drop i=t->i<=s.length->iT (M.xZ s) (i:Int)=some (bif hasB 10 t then .inl () else .inr (s.length:Int)):=by
  intro t;induction t with
  |nil=>
   intro i hd hi;have:i=s.length:=by have:=congrArg List.length hd;simp at this;omega
   subst this;refine jq ?_;simp only[M.xZ,M.xY];rw[uw (by omega),dO];rfl
  |cons x t ih=>
   intro i hd hi;have hx:s[i]? =some x:=by
    have:(s.drop i)[0]? =some x:=by rw[hd];rfl
    simpa using this
   have hlt:i<s.length:=(MG.1 hx).1;have hd':s.drop (i+1)=t:=by rw[<-List.drop_drop,hd];rfl
   have hs:M.xZ s (i:Int)=some (bif x==10 then .inr (.inl ()) else .inl ((i:Int)+1)):=by simp only[M.xZ,M.xY,fQ,hx,ah];rw[zdt (by omega),cO,show(10:Int)=((10:Nat):Int) from rfl,aLS _ _ (by omega),aJ (by omega) (by omega),show(x==UInt8.ofNat 10)=(x==10) from rfl];cases x==10<;>rfl
   rw[hasB,List.any_cons];cases hc:x==10 with
   |true=>rw[hc,cO] at hs;rw[jq hs];rfl
   |false=>rw[hc,dO] at hs;rw[kQ hs,show(i:Int)+1=((i+1:Nat):Int) by omega,ih (i+1) hd' hlt,Bool.false_or];rfl
 have:=key s 0 rfl (Nat.zero_le _);rw[qP] at this;simp only[M.xG,M.Jz,M.Ho];rw[this,ah];cases hasB 10 s<;>rfl
def asq:∀i,i<17->cStr Az i=Td[i]? :=by decide+kernel
def ak2:∀i,i<39->cStr Ol i=Qj[i]? :=by decide+kernel
def spell(k:Int):aC:=if k=1 then[10] else if 10<=k∧k<=26 then Td[(k - 10).toNat]?.getD [] else if 30<=k∧k<=68 then Qj[(k - 30).toNat]?.getD [] else[]
def mX(k:Int)(hk:I64 k):M.jI k=some (spell k)∧M.iL k=some (spell k):=by
 have l1:Td.length=17:=rfl;have l2:Qj.length=39:=rfl;simp only[M.jI,M.JA,M.iL,M.JU,M.oH,M.yx,M.iU,M.yA,M.dX,M.y9,M.dR,M.xU,aiN,aiP,ah,spell]
 by_cases h1:k=1
 ·subst h1;exact⟨rfl,rfl⟩
 ·rw[show(k==1)=false by simpa using h1,dO,dO,if_neg h1]
  by_cases h2:10<=k∧k<=26
  ·obtain⟨i,hi⟩:∃i:Nat,k=10+i:=⟨(k - 10).toNat,by omega⟩
   have hw:i64.wrap (k - 10)=(i:Int):=by rw[aJ (by omega) (by omega)];omega
   obtain⟨x,hx⟩:∃x,Td[i]? =some x:=⟨Td[i]'(by omega),by simp⟩
   rw[if_pos h2,zdt (show k>=10 by omega),cO,zdt (show k<=26 by omega),hw,zdt (show(0:Int)<=(i:Int) by omega),zdt (show(i:Int)<17 by omega)];simp only[ah,cO,fQ,Yq,Tc,hx,Qq,cS0,Bool.and_self,Nat.zero_add,Nat.mul_one,asq i (by omega)];rw[show(k - 10).toNat=i by omega,hx];exact⟨rfl,rfl⟩
  ·have hf:(bif decide (k>=10) then some (decide (k<=26)) else some false)=some false:=by
    by_cases h3:k>=10
    ·rw[zdt h3,cO,uw (by omega)]
    ·rw[uw h3,dO]
   rw[if_neg h2,hf];simp only[ah,dO]
   by_cases h4:30<=k∧k<=68
   ·obtain⟨i,hi⟩:∃i:Nat,k=30+i:=⟨(k - 30).toNat,by omega⟩
    have hw:i64.wrap (k - 30)=(i:Int):=by rw[aJ (by omega) (by omega)];omega
    obtain⟨x,hx⟩:∃x,Qj[i]? =some x:=⟨Qj[i]'(by omega),by simp⟩
    rw[if_pos h4,zdt (show k>=30 by omega),cO,zdt (show k<=68 by omega),hw,zdt (show(0:Int)<=(i:Int) by omega),zdt (show(i:Int)<39 by omega)];simp only[ah,cO,fQ,Yq,Tc,hx,Qq,cS0,Bool.and_self,Nat.zero_add,Nat.mul_one,ak2 i (by omega)];rw[show(k - 30).toNat=i by omega,hx];exact⟨rfl,rfl⟩
   ·have hf:(bif decide (k>=30) then some (decide (k<=68)) else some false)=some false:=by
     by_cases h3:k>=30
     ·rw[zdt h3,cO,uw (by omega)]
     ·rw[uw h3,dO]
    rw[if_neg h4,hf];exact⟨rfl,rfl⟩
def QU(k:Int)(s:aC):Bool:=bif s==[] then false else
 bif k==2 then(NT s 0==35) && !(hasB 10 s) else bif k==3 then abX s 0==(s.length:Int) else bif k==4 then quoted s 0 34==(s.length:Int) else bif k==5 then ab1 s 0==(s.length:Int) else
 bif k==6 then Kt s else bif k==7 then Kt s else bif k==8 then Y6 s else s==spell k
def fV(k:Int)(s:aC)(a:Int)(h:s.length<=1048576)(hk:I64 k):M.lK k s a=some (QU k s)∧M.oh k s a=some (QU k s):=by
 have hn:=dn s h;have hb:=dY s;have hst:=amb h 0 (by omega) (by omega);have her:=amc h 0 (by omega) (by omega);have hsp:=mX k hk;have hct:M.strings_Contains s [10]=some (hasB 10 s):=by rw[M.strings_Contains,amd]
 simp only[M.lK,M.JB,M.oh,M.JV,hn.1,hn.2,hb.1,hb.2,hst.1,hst.2,her.1,her.2,hsp.1,hsp.2,hct,apT s (by omega),abZ h 0 (by omega),abY h 0 (by omega),ah,QU];cases s with
 |nil=>refine⟨?_,rfl⟩;have q1:Kt []=false:=rfl;have q2:Y6 []=false:=rfl;have q3:(quoted [] 0 34==(([]:aC).length:Int))=false:=rfl;have q4:(ab1 [] 0==(([]:aC).length:Int))=false:=rfl;rw[q1,q2,q3,q4];cases k==2<;>cases k==3<;>cases k==4<;>cases k==5<;>cases k==6<;>cases k==7<;>cases k==8<;>rfl
 |cons c l=>
  have hi:idx (c::l) 0=some c:=rfl;have hb0:NT (c::l) 0=(c.toNat:Int):=rfl;have hne:((c::l:aC)==[])=false:=rfl;have hgt:decide (((c::l).length:Int)>0)=true:=by simp
  have hsw:(spell k==c::l)=(c::l==spell k):=by rw[Bool.eq_iff_iff,beq_iff_eq,beq_iff_eq];exact⟨Eq.symm,Eq.symm⟩
  rw[hi,hb0,hne,hgt,hsw];simp only[ah,cO,dO,Bool.not_false];cases k==2<;>cases k==3<;>cases k==4<;>cases k==5<;>cases k==6<;>cases k==7<;>cases k==8<;>cases(c.toNat:Int)==35<;>exact⟨rfl,rfl⟩
end Go.Proofs.YtbpldgeajbfgnaaGreatDoor
namespace Go.Proofs.YtbpldgeajbfgnaaGreatDoor
set_option linter.unusedVariables false
set_option linter.unusedSimpArgs false
set_option linter.unusedSectionVars false
open Go Go.Vm
open Go.IntKind (i64)
def aW(x a b:Int):M.dR x a b=some (decide (x>=a) && decide (x<=b)):=by simp only[M.dR,M.xU];cases decide (x>=a)<;>rfl
def aN(x a b:Int):M.dX x a b=some (decide (x>=a) && decide (x<=b)):=aW x a b
def ab4(op:Int):Bool:=op==60||op==57||op==58||op==59||op==55||op==56||op==99||op==63||op==48||op==47||op==50||op==62||op==49||op==67||op==46||op==45||op==44
def dJ(op:Int):M.xE op=some (ab4 op)∧∃lv,M.mO op=some lv∧(lv !=0)=ab4 op:=by
 by_cases h44:op=44
 ·subst h44;exact⟨rfl,_,rfl,rfl⟩
 have e44:(op==44)=false:=by simpa using h44
 by_cases h45:op=45
 ·subst h45;exact⟨rfl,_,rfl,rfl⟩
 have e45:(op==45)=false:=by simpa using h45
 by_cases h67:op=67
 ·subst h67;exact⟨rfl,_,rfl,rfl⟩
 have e67:(op==67)=false:=by simpa using h67
 by_cases h46:op=46
 ·subst h46;exact⟨rfl,_,rfl,rfl⟩
 have e46:(op==46)=false:=by simpa using h46
 by_cases h63:op=63
 ·subst h63;exact⟨rfl,_,rfl,rfl⟩
 have e63:(op==63)=false:=by simpa using h63
 by_cases h48:op=48
 ·subst h48;exact⟨rfl,_,rfl,rfl⟩
 have e48:(op==48)=false:=by simpa using h48
 by_cases h47:op=47
 ·subst h47;exact⟨rfl,_,rfl,rfl⟩
 have e47:(op==47)=false:=by simpa using h47
 by_cases h50:op=50
 ·subst h50;exact⟨rfl,_,rfl,rfl⟩
 have e50:(op==50)=false:=by simpa using h50
 by_cases h62:op=62
 ·subst h62;exact⟨rfl,_,rfl,rfl⟩
 have e62:(op==62)=false:=by simpa using h62
 by_cases h49:op=49
 ·subst h49;exact⟨rfl,_,rfl,rfl⟩
 have e49:(op==49)=false:=by simpa using h49
 by_cases h99:op=99
 ·subst h99;exact⟨rfl,_,rfl,rfl⟩
 have e99:(op==99)=false:=by simpa using h99
 by_cases h55:op=55
 ·subst h55;exact⟨rfl,_,rfl,rfl⟩
 have e55:(op==55)=false:=by simpa using h55
 by_cases h56:op=56
 ·subst h56;exact⟨rfl,_,rfl,rfl⟩
 have e56:(op==56)=false:=by simpa using h56
 by_cases h57:op=57
 ·subst h57;exact⟨rfl,_,rfl,rfl⟩
 have e57:(op==57)=false:=by simpa using h57
 by_cases h58:op=58
 ·subst h58;exact⟨rfl,_,rfl,rfl⟩
 have e58:(op==58)=false:=by simpa using h58
 by_cases h59:op=59
 ·subst h59;exact⟨rfl,_,rfl,rfl⟩
 have e59:(op==59)=false:=by simpa using h59
 by_cases h60:op=60
 ·subst h60;exact⟨rfl,_,rfl,rfl⟩
 have e60:(op==60)=false:=by simpa using h60
 simp only[M.xE,M.Ju,M.mO,M.ED,ab4,e44,e45,e67,e46,e63,e48,e47,e50,e62,e49,e99,e55,e56,e57,e58,e59,e60,dO,Bool.or_self];exact⟨trivial,0,rfl,rfl⟩
def ab5(op:Int):Bool:=op==54||(decide (op>=38) && decide (op<=43))
def bn(op:Int):M.qI op=some (ab5 op)∧M.uY op=some (ab5 op):=by simp only[M.qI,M.DC,M.uY,M.Ie,aW,aN,ah,ab5];cases op==54<;>exact⟨rfl,rfl⟩
def Tf(s:aC)(l:List (aC))(hl:l.length<=1048576):M.slices_Contains (encS l) s=some (decide (MP s l 0>=0)):=by simp only[M.slices_Contains,M.yw,ab2 s l hl,ah]
def Dl:([[D.str []],[D.str [62]],[D.str [62,62]],[D.str [124]]]:au)=encS [[],[62],[62,62],[124]]:=rfl
def VL(s:aC):decide (MP s [[],[62],[62,62],[124]] 0>=0)=(s==[]||(s==[62]||(s==[62,62]||s==[124]))):=by
 have sw:∀a b:aC,(a==b)=(b==a):=λa b=>by rw[Bool.eq_iff_iff,beq_iff_eq,beq_iff_eq];exact⟨Eq.symm,Eq.symm⟩
 simp only[MP,sw _ s];cases s==[]<;>cases s==[62]<;>cases s==[62,62]<;>cases s==[124]<;>rfl
def Am(k op:Int)(t o:aC)(kids:au):Prop:=∃b,M.ay k op t o kids=some b∧M.bK k op t o kids=some b
def aXv(op:Int)(t o:aC)(kids:au)(ht:t.length<=1048576)(ho:o.length<=1048576)(hk:kids.length<=400):Am 1 op t o kids:=by
 have hn:=dn t ht;have hn2:=dn o ho;have hb:=dY t;have ha:=bn op;obtain⟨hi,lv,hlv,hi2⟩:=dJ op;have tk:=λk hk=>fV k t 0 ht hk
 simp only[Am,M.ay,M.aB,M.aP,M.aG,M.aV,M.aT,M.aQ,M.aH,M.bK,M.bg,M.bJ,M.bW,M.cZ,M.bY,M.bQ,M.bG,M.bT,M.bH,M.bU,M.bI,M.dA,M.cu,aW,aN,hn.1,hn.2,hn2.1,hn2.2,hb.1,hb.2,ha.1,ha.2,hi,hlv,hi2,ge_iff_le,Int.reduceBEq,Int.reduceLE,Int.reduceSub,decide_true,decide_false,cO,dO,Bool.and_true,Bool.and_false,Bool.true_and,Bool.false_and,ah];generalize (op==0)=a0;generalize (Kt t)=a1;generalize (o==[])=a2;cases a0<;>cases a1<;>cases a2<;>exact⟨_,rfl,rfl⟩
def aXw(op:Int)(t o:aC)(kids:au)(ht:t.length<=1048576)(ho:o.length<=1048576)(hk:kids.length<=400):Am 2 op t o kids:=by
 have hn:=dn t ht;have hn2:=dn o ho;have hb:=dY t;have ha:=bn op;obtain⟨hi,lv,hlv,hi2⟩:=dJ op;have tk:=λk hk=>fV k t 0 ht hk
 have tk3:=tk 3 ⟨by omega,by omega⟩;have hc:fB IntKind.i64 [D.int IntKind.i64 3,D.int IntKind.i64 4,D.int IntKind.i64 5] (i64.wrap 0).toNat=some 3:=rfl;have d1:decide ((0:Int)<=i64.wrap 0)=true:=rfl;have d2:decide (i64.wrap 0<3)=true:=rfl;simp only[Am,M.ay,M.aB,M.aP,M.aG,M.aV,M.aT,M.aQ,M.aH,M.bK,M.bg,M.bJ,M.bW,M.cZ,M.bY,M.bQ,M.bG,M.bT,M.bH,M.bU,M.bI,M.dA,M.cu,aW,aN,hn.1,hn.2,hn2.1,hn2.2,hb.1,hb.2,ha.1,ha.2,hi,hlv,hi2,tk3.1,tk3.2,hc,d1,d2,ge_iff_le,Int.reduceBEq,Int.reduceLE,Int.reduceSub,decide_true,decide_false,cO,dO,Bool.and_true,Bool.and_false,Bool.true_and,Bool.false_and,ah];generalize (op==0)=a0;generalize (QU 3 t)=a1;generalize (o==[])=a2;cases a0<;>cases a1<;>cases a2<;>exact⟨_,rfl,rfl⟩
def aXx(op:Int)(t o:aC)(kids:au)(ht:t.length<=1048576)(ho:o.length<=1048576)(hk:kids.length<=400):Am 3 op t o kids:=by
 have hn:=dn t ht;have hn2:=dn o ho;have hb:=dY t;have ha:=bn op;obtain⟨hi,lv,hlv,hi2⟩:=dJ op;have tk:=λk hk=>fV k t 0 ht hk
 have tk4:=tk 4 ⟨by omega,by omega⟩;have hc:fB IntKind.i64 [D.int IntKind.i64 3,D.int IntKind.i64 4,D.int IntKind.i64 5] (i64.wrap 1).toNat=some 4:=rfl;have d1:decide ((0:Int)<=i64.wrap 1)=true:=rfl;have d2:decide (i64.wrap 1<3)=true:=rfl;simp only[Am,M.ay,M.aB,M.aP,M.aG,M.aV,M.aT,M.aQ,M.aH,M.bK,M.bg,M.bJ,M.bW,M.cZ,M.bY,M.bQ,M.bG,M.bT,M.bH,M.bU,M.bI,M.dA,M.cu,aW,aN,hn.1,hn.2,hn2.1,hn2.2,hb.1,hb.2,ha.1,ha.2,hi,hlv,hi2,tk4.1,tk4.2,hc,d1,d2,ge_iff_le,Int.reduceBEq,Int.reduceLE,Int.reduceSub,decide_true,decide_false,cO,dO,Bool.and_true,Bool.and_false,Bool.true_and,Bool.false_and,ah];generalize (op==0)=a0;generalize (QU 4 t)=a1;generalize (o==[])=a2;cases a0<;>cases a1<;>cases a2<;>exact⟨_,rfl,rfl⟩
def aXy(op:Int)(t o:aC)(kids:au)(ht:t.length<=1048576)(ho:o.length<=1048576)(hk:kids.length<=400):Am 4 op t o kids:=by
 have hn:=dn t ht;have hn2:=dn o ho;have hb:=dY t;have ha:=bn op;obtain⟨hi,lv,hlv,hi2⟩:=dJ op;have tk:=λk hk=>fV k t 0 ht hk
 have tk5:=tk 5 ⟨by omega,by omega⟩;have hc:fB IntKind.i64 [D.int IntKind.i64 3,D.int IntKind.i64 4,D.int IntKind.i64 5] (i64.wrap 2).toNat=some 5:=rfl;have d1:decide ((0:Int)<=i64.wrap 2)=true:=rfl;have d2:decide (i64.wrap 2<3)=true:=rfl;simp only[Am,M.ay,M.aB,M.aP,M.aG,M.aV,M.aT,M.aQ,M.aH,M.bK,M.bg,M.bJ,M.bW,M.cZ,M.bY,M.bQ,M.bG,M.bT,M.bH,M.bU,M.bI,M.dA,M.cu,aW,aN,hn.1,hn.2,hn2.1,hn2.2,hb.1,hb.2,ha.1,ha.2,hi,hlv,hi2,tk5.1,tk5.2,hc,d1,d2,ge_iff_le,Int.reduceBEq,Int.reduceLE,Int.reduceSub,decide_true,decide_false,cO,dO,Bool.and_true,Bool.and_false,Bool.true_and,Bool.false_and,ah];generalize (op==0)=a0;generalize (QU 5 t)=a1;generalize (o==[])=a2;cases a0<;>cases a1<;>cases a2<;>exact⟨_,rfl,rfl⟩
def aXz(op:Int)(t o:aC)(kids:au)(ht:t.length<=1048576)(ho:o.length<=1048576)(hk:kids.length<=400):Am 5 op t o kids:=by
 have hn:=dn t ht;have hn2:=dn o ho;have hb:=dY t;have ha:=bn op;obtain⟨hi,lv,hlv,hi2⟩:=dJ op;have tk:=λk hk=>fV k t 0 ht hk
 simp only[Am,M.ay,M.aB,M.aP,M.aG,M.aV,M.aT,M.aQ,M.aH,M.bK,M.bg,M.bJ,M.bW,M.cZ,M.bY,M.bQ,M.bG,M.bT,M.bH,M.bU,M.bI,M.dA,M.cu,aW,aN,hn.1,hn.2,hn2.1,hn2.2,hb.1,hb.2,ha.1,ha.2,hi,hlv,hi2,ge_iff_le,Int.reduceBEq,Int.reduceLE,Int.reduceSub,decide_true,decide_false,cO,dO,Bool.and_true,Bool.and_false,Bool.true_and,Bool.false_and,ah];generalize (op==0)=a0;generalize (Kt t)=a1;generalize (o==[])=a2;cases a0<;>cases a1<;>cases a2<;>exact⟨_,rfl,rfl⟩
def aXA(op:Int)(t o:aC)(kids:au)(ht:t.length<=1048576)(ho:o.length<=1048576)(hk:kids.length<=400):Am 6 op t o kids:=by
 have hn:=dn t ht;have hn2:=dn o ho;have hb:=dY t;have ha:=bn op;obtain⟨hi,lv,hlv,hi2⟩:=dJ op;have tk:=λk hk=>fV k t 0 ht hk
 simp only[Am,M.ay,M.aB,M.aP,M.aG,M.aV,M.aT,M.aQ,M.aH,M.bK,M.bg,M.bJ,M.bW,M.cZ,M.bY,M.bQ,M.bG,M.bT,M.bH,M.bU,M.bI,M.dA,M.cu,aW,aN,hn.1,hn.2,hn2.1,hn2.2,hb.1,hb.2,ha.1,ha.2,hi,hlv,hi2,ge_iff_le,Int.reduceBEq,Int.reduceLE,Int.reduceSub,decide_true,decide_false,cO,dO,Bool.and_true,Bool.and_false,Bool.true_and,Bool.false_and,ah];generalize (op==0)=a0;generalize (t==[])=a1;generalize (o==[])=a2;cases a0<;>cases a1<;>cases a2<;>exact⟨_,rfl,rfl⟩
def aXB(op:Int)(t o:aC)(kids:au)(ht:t.length<=1048576)(ho:o.length<=1048576)(hk:kids.length<=400):Am 7 op t o kids:=by
 have hn:=dn t ht;have hn2:=dn o ho;have hb:=dY t;have ha:=bn op;obtain⟨hi,lv,hlv,hi2⟩:=dJ op;have tk:=λk hk=>fV k t 0 ht hk
 simp only[Am,M.ay,M.aB,M.aP,M.aG,M.aV,M.aT,M.aQ,M.aH,M.bK,M.bg,M.bJ,M.bW,M.cZ,M.bY,M.bQ,M.bG,M.bT,M.bH,M.bU,M.bI,M.dA,M.cu,aW,aN,hn.1,hn.2,hn2.1,hn2.2,hb.1,hb.2,ha.1,ha.2,hi,hlv,hi2,ge_iff_le,Int.reduceBEq,Int.reduceLE,Int.reduceSub,decide_true,decide_false,cO,dO,Bool.and_true,Bool.and_false,Bool.true_and,Bool.false_and,ah];generalize (op==0)=a0;generalize (Kt t)=a1;generalize (o==[])=a2;cases a0<;>cases a1<;>cases a2<;>exact⟨_,rfl,rfl⟩
def aXC(op:Int)(t o:aC)(kids:au)(ht:t.length<=1048576)(ho:o.length<=1048576)(hk:kids.length<=400):Am 8 op t o kids:=by
 have hn:=dn t ht;have hn2:=dn o ho;have hb:=dY t;have ha:=bn op;obtain⟨hi,lv,hlv,hi2⟩:=dJ op;have tk:=λk hk=>fV k t 0 ht hk
 simp only[Am,M.ay,M.aB,M.aP,M.aG,M.aV,M.aT,M.aQ,M.aH,M.bK,M.bg,M.bJ,M.bW,M.cZ,M.bY,M.bQ,M.bG,M.bT,M.bH,M.bU,M.bI,M.dA,M.cu,aW,aN,hn.1,hn.2,hn2.1,hn2.2,hb.1,hb.2,ha.1,ha.2,hi,hlv,hi2,ge_iff_le,Int.reduceBEq,Int.reduceLE,Int.reduceSub,decide_true,decide_false,cO,dO,Bool.and_true,Bool.and_false,Bool.true_and,Bool.false_and,ah];generalize (op==0)=a0;generalize (Y6 t)=a1;generalize (o==[])=a2;cases a0<;>cases a1<;>cases a2<;>exact⟨_,rfl,rfl⟩
def aXD(op:Int)(t o:aC)(kids:au)(ht:t.length<=1048576)(ho:o.length<=1048576)(hk:kids.length<=400):Am 9 op t o kids:=by
 have hn:=dn t ht;have hn2:=dn o ho;have hb:=dY t;have ha:=bn op;obtain⟨hi,lv,hlv,hi2⟩:=dJ op;have tk:=λk hk=>fV k t 0 ht hk
 simp only[Am,M.ay,M.aB,M.aP,M.aG,M.aV,M.aT,M.aQ,M.aH,M.bK,M.bg,M.bJ,M.bW,M.cZ,M.bY,M.bQ,M.bG,M.bT,M.bH,M.bU,M.bI,M.dA,M.cu,aW,aN,hn.1,hn.2,hn2.1,hn2.2,hb.1,hb.2,ha.1,ha.2,hi,hlv,hi2,ge_iff_le,Int.reduceBEq,Int.reduceLE,Int.reduceSub,decide_true,decide_false,cO,dO,Bool.and_true,Bool.and_false,Bool.true_and,Bool.false_and,ah];generalize (op==51)=a0;generalize (op==52)=a1;generalize (t==[])=a2;generalize (o==[])=a3;cases a0<;>cases a1<;>cases a2<;>cases a3<;>exact⟨_,rfl,rfl⟩
def aLT(op:Int)(t o:aC)(kids:au)(ht:t.length<=1048576)(ho:o.length<=1048576)(hk:kids.length<=400):Am 10 op t o kids:=by
 have hn:=dn t ht;have hn2:=dn o ho;have hb:=dY t;have ha:=bn op;obtain⟨hi,lv,hlv,hi2⟩:=dJ op;have tk:=λk hk=>fV k t 0 ht hk
 simp only[Am,M.ay,M.aB,M.aP,M.aG,M.aV,M.aT,M.aQ,M.aH,M.bK,M.bg,M.bJ,M.bW,M.cZ,M.bY,M.bQ,M.bG,M.bT,M.bH,M.bU,M.bI,M.dA,M.cu,aW,aN,hn.1,hn.2,hn2.1,hn2.2,hb.1,hb.2,ha.1,ha.2,hi,hlv,hi2,ge_iff_le,Int.reduceBEq,Int.reduceLE,Int.reduceSub,decide_true,decide_false,cO,dO,Bool.and_true,Bool.and_false,Bool.true_and,Bool.false_and,ah];generalize (op==51)=a0;generalize (op==52)=a1;generalize (t==[])=a2;generalize (o==[])=a3;cases a0<;>cases a1<;>cases a2<;>cases a3<;>exact⟨_,rfl,rfl⟩
def aLU(op:Int)(t o:aC)(kids:au)(ht:t.length<=1048576)(ho:o.length<=1048576)(hk:kids.length<=400):Am 11 op t o kids:=by
 have hn:=dn t ht;have hn2:=dn o ho;have hb:=dY t;have ha:=bn op;obtain⟨hi,lv,hlv,hi2⟩:=dJ op;have tk:=λk hk=>fV k t 0 ht hk
 simp only[Am,M.ay,M.aB,M.aP,M.aG,M.aV,M.aT,M.aQ,M.aH,M.bK,M.bg,M.bJ,M.bW,M.cZ,M.bY,M.bQ,M.bG,M.bT,M.bH,M.bU,M.bI,M.dA,M.cu,aW,aN,hn.1,hn.2,hn2.1,hn2.2,hb.1,hb.2,ha.1,ha.2,hi,hlv,hi2,ge_iff_le,Int.reduceBEq,Int.reduceLE,Int.reduceSub,decide_true,decide_false,cO,dO,Bool.and_true,Bool.and_false,Bool.true_and,Bool.false_and,ah];generalize (op==55)=a0;generalize (op==56)=a1;generalize (op==61)=a2;generalize (t==[])=a3;generalize (o==[])=a4;cases a0<;>cases a1<;>cases a2<;>cases a3<;>cases a4<;>exact⟨_,rfl,rfl⟩
def aLV(op:Int)(t o:aC)(kids:au)(ht:t.length<=1048576)(ho:o.length<=1048576)(hk:kids.length<=400):Am 12 op t o kids:=by
 have hn:=dn t ht;have hn2:=dn o ho;have hb:=dY t;have ha:=bn op;obtain⟨hi,lv,hlv,hi2⟩:=dJ op;have tk:=λk hk=>fV k t 0 ht hk
 simp only[Am,M.ay,M.aB,M.aP,M.aG,M.aV,M.aT,M.aQ,M.aH,M.bK,M.bg,M.bJ,M.bW,M.cZ,M.bY,M.bQ,M.bG,M.bT,M.bH,M.bU,M.bI,M.dA,M.cu,aW,aN,hn.1,hn.2,hn2.1,hn2.2,hb.1,hb.2,ha.1,ha.2,hi,hlv,hi2,ge_iff_le,Int.reduceBEq,Int.reduceLE,Int.reduceSub,decide_true,decide_false,cO,dO,Bool.and_true,Bool.and_false,Bool.true_and,Bool.false_and,ah];generalize (ab4 op)=a0;generalize (t==[])=a1;generalize (o==[])=a2;cases a0<;>cases a1<;>cases a2<;>exact⟨_,rfl,rfl⟩
def aLW(op:Int)(t o:aC)(kids:au)(ht:t.length<=1048576)(ho:o.length<=1048576)(hk:kids.length<=400):Am 13 op t o kids:=by
 have hn:=dn t ht;have hn2:=dn o ho;have hb:=dY t;have ha:=bn op;obtain⟨hi,lv,hlv,hi2⟩:=dJ op;have tk:=λk hk=>fV k t 0 ht hk
 simp only[Am,M.ay,M.aB,M.aP,M.aG,M.aV,M.aT,M.aQ,M.aH,M.bK,M.bg,M.bJ,M.bW,M.cZ,M.bY,M.bQ,M.bG,M.bT,M.bH,M.bU,M.bI,M.dA,M.cu,aW,aN,hn.1,hn.2,hn2.1,hn2.2,hb.1,hb.2,ha.1,ha.2,hi,hlv,hi2,ge_iff_le,Int.reduceBEq,Int.reduceLE,Int.reduceSub,decide_true,decide_false,cO,dO,Bool.and_true,Bool.and_false,Bool.true_and,Bool.false_and,ah];generalize (op==0)=a0;generalize (Kt t)=a1;generalize (o==[])=a2;cases a0<;>cases a1<;>cases a2<;>exact⟨_,rfl,rfl⟩
def aLX(op:Int)(t o:aC)(kids:au)(ht:t.length<=1048576)(ho:o.length<=1048576)(hk:kids.length<=400):Am 14 op t o kids:=by
 have hn:=dn t ht;have hn2:=dn o ho;have hb:=dY t;have ha:=bn op;obtain⟨hi,lv,hlv,hi2⟩:=dJ op;have tk:=λk hk=>fV k t 0 ht hk
 simp only[Am,M.ay,M.aB,M.aP,M.aG,M.aV,M.aT,M.aQ,M.aH,M.bK,M.bg,M.bJ,M.bW,M.cZ,M.bY,M.bQ,M.bG,M.bT,M.bH,M.bU,M.bI,M.dA,M.cu,aW,aN,hn.1,hn.2,hn2.1,hn2.2,hb.1,hb.2,ha.1,ha.2,hi,hlv,hi2,ge_iff_le,Int.reduceBEq,Int.reduceLE,Int.reduceSub,decide_true,decide_false,cO,dO,Bool.and_true,Bool.and_false,Bool.true_and,Bool.false_and,ah];generalize (op==0)=a0;generalize (t==[])=a1;generalize (o==[])=a2;cases a0<;>cases a1<;>cases a2<;>exact⟨_,rfl,rfl⟩
def aLY(op:Int)(t o:aC)(kids:au)(ht:t.length<=1048576)(ho:o.length<=1048576)(hk:kids.length<=400):Am 15 op t o kids:=by
 have hn:=dn t ht;have hn2:=dn o ho;have hb:=dY t;have ha:=bn op;obtain⟨hi,lv,hlv,hi2⟩:=dJ op;have tk:=λk hk=>fV k t 0 ht hk
 simp only[Am,M.ay,M.aB,M.aP,M.aG,M.aV,M.aT,M.aQ,M.aH,M.bK,M.bg,M.bJ,M.bW,M.cZ,M.bY,M.bQ,M.bG,M.bT,M.bH,M.bU,M.bI,M.dA,M.cu,aW,aN,hn.1,hn.2,hn2.1,hn2.2,hb.1,hb.2,ha.1,ha.2,hi,hlv,hi2,ge_iff_le,Int.reduceBEq,Int.reduceLE,Int.reduceSub,decide_true,decide_false,cO,dO,Bool.and_true,Bool.and_false,Bool.true_and,Bool.false_and,ah];generalize (ab5 op)=a0;generalize (t==[])=a1;generalize (o==[])=a2;cases a0<;>cases a1<;>cases a2<;>exact⟨_,rfl,rfl⟩
def aLZ(op:Int)(t o:aC)(kids:au)(ht:t.length<=1048576)(ho:o.length<=1048576)(hk:kids.length<=400):Am 16 op t o kids:=by
 have hn:=dn t ht;have hn2:=dn o ho;have hb:=dY t;have ha:=bn op;obtain⟨hi,lv,hlv,hi2⟩:=dJ op;have tk:=λk hk=>fV k t 0 ht hk
 simp only[Am,M.ay,M.aB,M.aP,M.aG,M.aV,M.aT,M.aQ,M.aH,M.bK,M.bg,M.bJ,M.bW,M.cZ,M.bY,M.bQ,M.bG,M.bT,M.bH,M.bU,M.bI,M.dA,M.cu,aW,aN,hn.1,hn.2,hn2.1,hn2.2,hb.1,hb.2,ha.1,ha.2,hi,hlv,hi2,ge_iff_le,Int.reduceBEq,Int.reduceLE,Int.reduceSub,decide_true,decide_false,cO,dO,Bool.and_true,Bool.and_false,Bool.true_and,Bool.false_and,ah];generalize (op==0)=a0;generalize (t==[])=a1;generalize (o==[])=a2;cases a0<;>cases a1<;>cases a2<;>exact⟨_,rfl,rfl⟩
def aL0(op:Int)(t o:aC)(kids:au)(ht:t.length<=1048576)(ho:o.length<=1048576)(hk:kids.length<=400):Am 20 op t o kids:=by
 have hn:=dn t ht;have hn2:=dn o ho;have hb:=dY t;have ha:=bn op;obtain⟨hi,lv,hlv,hi2⟩:=dJ op;have tk:=λk hk=>fV k t 0 ht hk
 simp only[Am,M.ay,M.aB,M.aP,M.aG,M.aV,M.aT,M.aQ,M.aH,M.bK,M.bg,M.bJ,M.bW,M.cZ,M.bY,M.bQ,M.bG,M.bT,M.bH,M.bU,M.bI,M.dA,M.cu,aW,aN,hn.1,hn.2,hn2.1,hn2.2,hb.1,hb.2,ha.1,ha.2,hi,hlv,hi2,ge_iff_le,Int.reduceBEq,Int.reduceLE,Int.reduceSub,decide_true,decide_false,cO,dO,Bool.and_true,Bool.and_false,Bool.true_and,Bool.false_and,ah];generalize (op==0)=a0;generalize (t==[])=a1;generalize (o==[])=a2;cases a0<;>cases a1<;>cases a2<;>exact⟨_,rfl,rfl⟩
def aL1(op:Int)(t o:aC)(kids:au)(ht:t.length<=1048576)(ho:o.length<=1048576)(hk:kids.length<=400):Am 22 op t o kids:=by
 have hn:=dn t ht;have hn2:=dn o ho;have hb:=dY t;have ha:=bn op;obtain⟨hi,lv,hlv,hi2⟩:=dJ op;have tk:=λk hk=>fV k t 0 ht hk
 simp only[Am,M.ay,M.aB,M.aP,M.aG,M.aV,M.aT,M.aQ,M.aH,M.bK,M.bg,M.bJ,M.bW,M.cZ,M.bY,M.bQ,M.bG,M.bT,M.bH,M.bU,M.bI,M.dA,M.cu,aW,aN,hn.1,hn.2,hn2.1,hn2.2,hb.1,hb.2,ha.1,ha.2,hi,hlv,hi2,ge_iff_le,Int.reduceBEq,Int.reduceLE,Int.reduceSub,decide_true,decide_false,cO,dO,Bool.and_true,Bool.and_false,Bool.true_and,Bool.false_and,ah];generalize (op==0)=a0;generalize (t==[])=a1;generalize (o==[])=a2;cases a0<;>cases a1<;>cases a2<;>exact⟨_,rfl,rfl⟩
def aL2(op:Int)(t o:aC)(kids:au)(ht:t.length<=1048576)(ho:o.length<=1048576)(hk:kids.length<=400):Am 23 op t o kids:=by
 have hn:=dn t ht;have hn2:=dn o ho;have hb:=dY t;have ha:=bn op;obtain⟨hi,lv,hlv,hi2⟩:=dJ op;have tk:=λk hk=>fV k t 0 ht hk
 simp only[Am,M.ay,M.aB,M.aP,M.aG,M.aV,M.aT,M.aQ,M.aH,M.bK,M.bg,M.bJ,M.bW,M.cZ,M.bY,M.bQ,M.bG,M.bT,M.bH,M.bU,M.bI,M.dA,M.cu,aW,aN,hn.1,hn.2,hn2.1,hn2.2,hb.1,hb.2,ha.1,ha.2,hi,hlv,hi2,ge_iff_le,Int.reduceBEq,Int.reduceLE,Int.reduceSub,decide_true,decide_false,cO,dO,Bool.and_true,Bool.and_false,Bool.true_and,Bool.false_and,ah];generalize (op==0)=a0;generalize (t==[])=a1;generalize (o==[])=a2;cases a0<;>cases a1<;>cases a2<;>exact⟨_,rfl,rfl⟩
def aL3(op:Int)(t o:aC)(kids:au)(ht:t.length<=1048576)(ho:o.length<=1048576)(hk:kids.length<=400):Am 24 op t o kids:=by
 have hn:=dn t ht;have hn2:=dn o ho;have hb:=dY t;have ha:=bn op;obtain⟨hi,lv,hlv,hi2⟩:=dJ op;have tk:=λk hk=>fV k t 0 ht hk
 simp only[Am,M.ay,M.aB,M.aP,M.aG,M.aV,M.aT,M.aQ,M.aH,M.bK,M.bg,M.bJ,M.bW,M.cZ,M.bY,M.bQ,M.bG,M.bT,M.bH,M.bU,M.bI,M.dA,M.cu,aW,aN,hn.1,hn.2,hn2.1,hn2.2,hb.1,hb.2,ha.1,ha.2,hi,hlv,hi2,ge_iff_le,Int.reduceBEq,Int.reduceLE,Int.reduceSub,decide_true,decide_false,cO,dO,Bool.and_true,Bool.and_false,Bool.true_and,Bool.false_and,ah];generalize (op==0)=a0;generalize (t==[])=a1;generalize (o==[])=a2;cases a0<;>cases a1<;>cases a2<;>exact⟨_,rfl,rfl⟩
def aL4(op:Int)(t o:aC)(kids:au)(ht:t.length<=1048576)(ho:o.length<=1048576)(hk:kids.length<=400):Am 25 op t o kids:=by
 have hn:=dn t ht;have hn2:=dn o ho;have hb:=dY t;have ha:=bn op;obtain⟨hi,lv,hlv,hi2⟩:=dJ op;have tk:=λk hk=>fV k t 0 ht hk
 simp only[Am,M.ay,M.aB,M.aP,M.aG,M.aV,M.aT,M.aQ,M.aH,M.bK,M.bg,M.bJ,M.bW,M.cZ,M.bY,M.bQ,M.bG,M.bT,M.bH,M.bU,M.bI,M.dA,M.cu,aW,aN,hn.1,hn.2,hn2.1,hn2.2,hb.1,hb.2,ha.1,ha.2,hi,hlv,hi2,ge_iff_le,Int.reduceBEq,Int.reduceLE,Int.reduceSub,decide_true,decide_false,cO,dO,Bool.and_true,Bool.and_false,Bool.true_and,Bool.false_and,ah];generalize (op==0)=a0;generalize (t==[])=a1;generalize (o==[])=a2;cases a0<;>cases a1<;>cases a2<;>exact⟨_,rfl,rfl⟩
def aL5(op:Int)(t o:aC)(kids:au)(ht:t.length<=1048576)(ho:o.length<=1048576)(hk:kids.length<=400):Am 26 op t o kids:=by
 have hn:=dn t ht;have hn2:=dn o ho;have hb:=dY t;have ha:=bn op;obtain⟨hi,lv,hlv,hi2⟩:=dJ op;have tk:=λk hk=>fV k t 0 ht hk
 simp only[Am,M.ay,M.aB,M.aP,M.aG,M.aV,M.aT,M.aQ,M.aH,M.bK,M.bg,M.bJ,M.bW,M.cZ,M.bY,M.bQ,M.bG,M.bT,M.bH,M.bU,M.bI,M.dA,M.cu,aW,aN,hn.1,hn.2,hn2.1,hn2.2,hb.1,hb.2,ha.1,ha.2,hi,hlv,hi2,ge_iff_le,Int.reduceBEq,Int.reduceLE,Int.reduceSub,decide_true,decide_false,cO,dO,Bool.and_true,Bool.and_false,Bool.true_and,Bool.false_and,ah];generalize (op==0)=a0;generalize (t==[])=a1;generalize (o==[])=a2;cases a0<;>cases a1<;>cases a2<;>exact⟨_,rfl,rfl⟩
def aL6(op:Int)(t o:aC)(kids:au)(ht:t.length<=1048576)(ho:o.length<=1048576)(hk:kids.length<=400):Am 27 op t o kids:=by
 have hn:=dn t ht;have hn2:=dn o ho;have hb:=dY t;have ha:=bn op;obtain⟨hi,lv,hlv,hi2⟩:=dJ op;have tk:=λk hk=>fV k t 0 ht hk
 simp only[Am,M.ay,M.aB,M.aP,M.aG,M.aV,M.aT,M.aQ,M.aH,M.bK,M.bg,M.bJ,M.bW,M.cZ,M.bY,M.bQ,M.bG,M.bT,M.bH,M.bU,M.bI,M.dA,M.cu,aW,aN,hn.1,hn.2,hn2.1,hn2.2,hb.1,hb.2,ha.1,ha.2,hi,hlv,hi2,ge_iff_le,Int.reduceBEq,Int.reduceLE,Int.reduceSub,decide_true,decide_false,cO,dO,Bool.and_true,Bool.and_false,Bool.true_and,Bool.false_and,ah];generalize (op==0)=a0;generalize (Kt t)=a1;generalize (o==[])=a2;cases a0<;>cases a1<;>cases a2<;>exact⟨_,rfl,rfl⟩
def aL7(op:Int)(t o:aC)(kids:au)(ht:t.length<=1048576)(ho:o.length<=1048576)(hk:kids.length<=400):Am 28 op t o kids:=by
 have hn:=dn t ht;have hn2:=dn o ho;have hb:=dY t;have ha:=bn op;obtain⟨hi,lv,hlv,hi2⟩:=dJ op;have tk:=λk hk=>fV k t 0 ht hk
 simp only[Am,M.ay,M.aB,M.aP,M.aG,M.aV,M.aT,M.aQ,M.aH,M.bK,M.bg,M.bJ,M.bW,M.cZ,M.bY,M.bQ,M.bG,M.bT,M.bH,M.bU,M.bI,M.dA,M.cu,aW,aN,hn.1,hn.2,hn2.1,hn2.2,hb.1,hb.2,ha.1,ha.2,hi,hlv,hi2,ge_iff_le,Int.reduceBEq,Int.reduceLE,Int.reduceSub,decide_true,decide_false,cO,dO,Bool.and_true,Bool.and_false,Bool.true_and,Bool.false_and,ah];generalize (op==0)=a0;generalize (t==[])=a1;generalize (o==[])=a2;cases a0<;>cases a1<;>cases a2<;>exact⟨_,rfl,rfl⟩
def aL8(op:Int)(t o:aC)(kids:au)(ht:t.length<=1048576)(ho:o.length<=1048576)(hk:kids.length<=400):Am 29 op t o kids:=by
 have hn:=dn t ht;have hn2:=dn o ho;have hb:=dY t;have ha:=bn op;obtain⟨hi,lv,hlv,hi2⟩:=dJ op;have tk:=λk hk=>fV k t 0 ht hk
 simp only[Am,M.ay,M.aB,M.aP,M.aG,M.aV,M.aT,M.aQ,M.aH,M.bK,M.bg,M.bJ,M.bW,M.cZ,M.bY,M.bQ,M.bG,M.bT,M.bH,M.bU,M.bI,M.dA,M.cu,aW,aN,hn.1,hn.2,hn2.1,hn2.2,hb.1,hb.2,ha.1,ha.2,hi,hlv,hi2,ge_iff_le,Int.reduceBEq,Int.reduceLE,Int.reduceSub,decide_true,decide_false,cO,dO,Bool.and_true,Bool.and_false,Bool.true_and,Bool.false_and,ah];generalize (op==0)=a0;generalize (t==[])=a1;generalize (o==[])=a2;cases a0<;>cases a1<;>cases a2<;>exact⟨_,rfl,rfl⟩
def aL9(op:Int)(t o:aC)(kids:au)(ht:t.length<=1048576)(ho:o.length<=1048576)(hk:kids.length<=400):Am 30 op t o kids:=by
 have hn:=dn t ht;have hn2:=dn o ho;have hb:=dY t;have ha:=bn op;obtain⟨hi,lv,hlv,hi2⟩:=dJ op;have tk:=λk hk=>fV k t 0 ht hk
 simp only[Am,M.ay,M.aB,M.aP,M.aG,M.aV,M.aT,M.aQ,M.aH,M.bK,M.bg,M.bJ,M.bW,M.cZ,M.bY,M.bQ,M.bG,M.bT,M.bH,M.bU,M.bI,M.dA,M.cu,aW,aN,hn.1,hn.2,hn2.1,hn2.2,hb.1,hb.2,ha.1,ha.2,hi,hlv,hi2,ge_iff_le,Int.reduceBEq,Int.reduceLE,Int.reduceSub,decide_true,decide_false,cO,dO,Bool.and_true,Bool.and_false,Bool.true_and,Bool.false_and,ah];generalize (op==0)=a0;generalize (t==[])=a1;generalize (o==[])=a2;cases a0<;>cases a1<;>cases a2<;>exact⟨_,rfl,rfl⟩
def aMa(op:Int)(t o:aC)(kids:au)(ht:t.length<=1048576)(ho:o.length<=1048576)(hk:kids.length<=400):Am 31 op t o kids:=by
 have hn:=dn t ht;have hn2:=dn o ho;have hb:=dY t;have ha:=bn op;obtain⟨hi,lv,hlv,hi2⟩:=dJ op;have tk:=λk hk=>fV k t 0 ht hk
 simp only[Am,M.ay,M.aB,M.aP,M.aG,M.aV,M.aT,M.aQ,M.aH,M.bK,M.bg,M.bJ,M.bW,M.cZ,M.bY,M.bQ,M.bG,M.bT,M.bH,M.bU,M.bI,M.dA,M.cu,aW,aN,hn.1,hn.2,hn2.1,hn2.2,hb.1,hb.2,ha.1,ha.2,hi,hlv,hi2,ge_iff_le,Int.reduceBEq,Int.reduceLE,Int.reduceSub,decide_true,decide_false,cO,dO,Bool.and_true,Bool.and_false,Bool.true_and,Bool.false_and,ah];generalize (op==0)=a0;generalize (t==[])=a1;generalize (o==[])=a2;cases a0<;>cases a1<;>cases a2<;>exact⟨_,rfl,rfl⟩
def aMb(op:Int)(t o:aC)(kids:au)(ht:t.length<=1048576)(ho:o.length<=1048576)(hk:kids.length<=400):Am 32 op t o kids:=by
 have hn:=dn t ht;have hn2:=dn o ho;have hb:=dY t;have ha:=bn op;obtain⟨hi,lv,hlv,hi2⟩:=dJ op;have tk:=λk hk=>fV k t 0 ht hk
 simp only[Am,M.ay,M.aB,M.aP,M.aG,M.aV,M.aT,M.aQ,M.aH,M.bK,M.bg,M.bJ,M.bW,M.cZ,M.bY,M.bQ,M.bG,M.bT,M.bH,M.bU,M.bI,M.dA,M.cu,aW,aN,hn.1,hn.2,hn2.1,hn2.2,hb.1,hb.2,ha.1,ha.2,hi,hlv,hi2,ge_iff_le,Int.reduceBEq,Int.reduceLE,Int.reduceSub,decide_true,decide_false,cO,dO,Bool.and_true,Bool.and_false,Bool.true_and,Bool.false_and,ah];generalize (op==0)=a0;generalize (Kt t)=a1;generalize (Kt o)=a2;cases a0<;>cases a1<;>cases a2<;>exact⟨_,rfl,rfl⟩
def aMc(op:Int)(t o:aC)(kids:au)(ht:t.length<=1048576)(ho:o.length<=1048576)(hk:kids.length<=400):Am 33 op t o kids:=by
 have hn:=dn t ht;have hn2:=dn o ho;have hb:=dY t;have ha:=bn op;obtain⟨hi,lv,hlv,hi2⟩:=dJ op;have tk:=λk hk=>fV k t 0 ht hk
 simp only[Am,M.ay,M.aB,M.aP,M.aG,M.aV,M.aT,M.aQ,M.aH,M.bK,M.bg,M.bJ,M.bW,M.cZ,M.bY,M.bQ,M.bG,M.bT,M.bH,M.bU,M.bI,M.dA,M.cu,aW,aN,hn.1,hn.2,hn2.1,hn2.2,hb.1,hb.2,ha.1,ha.2,hi,hlv,hi2,ge_iff_le,Int.reduceBEq,Int.reduceLE,Int.reduceSub,decide_true,decide_false,cO,dO,Bool.and_true,Bool.and_false,Bool.true_and,Bool.false_and,ah];have z1:decide ((kids.length:Int)<=400)=true:=zdt (by omega);have z2:decide ((0:Int)<=(kids.length:Int))=true:=zdt (by omega);have z3:decide ((kids.length:Int)<=(kids.length:Int))=true:=zdt (by omega);simp only[z1,z2,z3,cO,Bool.and_true];generalize (op==0)=a0;generalize (t==[])=a1;generalize (o==[])=a2;cases a0<;>cases a1<;>cases a2<;>exact⟨_,rfl,rfl⟩
def aMd(op:Int)(t o:aC)(kids:au)(ht:t.length<=1048576)(ho:o.length<=1048576)(hk:kids.length<=400):Am 34 op t o kids:=by
 have hn:=dn t ht;have hn2:=dn o ho;have hb:=dY t;have ha:=bn op;obtain⟨hi,lv,hlv,hi2⟩:=dJ op;have tk:=λk hk=>fV k t 0 ht hk
 have tk2:=tk 2 ⟨by omega,by omega⟩;simp only[Am,M.ay,M.aB,M.aP,M.aG,M.aV,M.aT,M.aQ,M.aH,M.bK,M.bg,M.bJ,M.bW,M.cZ,M.bY,M.bQ,M.bG,M.bT,M.bH,M.bU,M.bI,M.dA,M.cu,aW,aN,hn.1,hn.2,hn2.1,hn2.2,hb.1,hb.2,ha.1,ha.2,hi,hlv,hi2,tk2.1,tk2.2,ge_iff_le,Int.reduceBEq,Int.reduceLE,Int.reduceSub,decide_true,decide_false,cO,dO,Bool.and_true,Bool.and_false,Bool.true_and,Bool.false_and,ah];generalize (op==0)=a0;generalize (QU 2 t)=a1;generalize (o==[])=a2;cases a0<;>cases a1<;>cases a2<;>exact⟨_,rfl,rfl⟩
def aMe(op:Int)(t o:aC)(kids:au)(ht:t.length<=1048576)(ho:o.length<=1048576)(hk:kids.length<=400):Am 40 op t o kids:=by
 have hn:=dn t ht;have hn2:=dn o ho;have hb:=dY t;have ha:=bn op;obtain⟨hi,lv,hlv,hi2⟩:=dJ op;have tk:=λk hk=>fV k t 0 ht hk
 simp only[Am,M.ay,M.aB,M.aP,M.aG,M.aV,M.aT,M.aQ,M.aH,M.bK,M.bg,M.bJ,M.bW,M.cZ,M.bY,M.bQ,M.bG,M.bT,M.bH,M.bU,M.bI,M.dA,M.cu,aW,aN,hn.1,hn.2,hn2.1,hn2.2,hb.1,hb.2,ha.1,ha.2,hi,hlv,hi2,ge_iff_le,Int.reduceBEq,Int.reduceLE,Int.reduceSub,decide_true,decide_false,cO,dO,Bool.and_true,Bool.and_false,Bool.true_and,Bool.false_and,ah];generalize (op==0)=a0;generalize (t==[])=a1;generalize (o==[])=a2;cases a0<;>cases a1<;>cases a2<;>exact⟨_,rfl,rfl⟩
def aMf(op:Int)(t o:aC)(kids:au)(ht:t.length<=1048576)(ho:o.length<=1048576)(hk:kids.length<=400):Am 41 op t o kids:=by
 have hn:=dn t ht;have hn2:=dn o ho;have hb:=dY t;have ha:=bn op;obtain⟨hi,lv,hlv,hi2⟩:=dJ op;have tk:=λk hk=>fV k t 0 ht hk
 simp only[Am,M.ay,M.aB,M.aP,M.aG,M.aV,M.aT,M.aQ,M.aH,M.bK,M.bg,M.bJ,M.bW,M.cZ,M.bY,M.bQ,M.bG,M.bT,M.bH,M.bU,M.bI,M.dA,M.cu,aW,aN,hn.1,hn.2,hn2.1,hn2.2,hb.1,hb.2,ha.1,ha.2,hi,hlv,hi2,ge_iff_le,Int.reduceBEq,Int.reduceLE,Int.reduceSub,decide_true,decide_false,cO,dO,Bool.and_true,Bool.and_false,Bool.true_and,Bool.false_and,ah];generalize (op==0)=a0;generalize (t==[])=a1;generalize (o==[])=a2;cases a0<;>cases a1<;>cases a2<;>exact⟨_,rfl,rfl⟩
def aMg(op:Int)(t o:aC)(kids:au)(ht:t.length<=1048576)(ho:o.length<=1048576)(hk:kids.length<=400):Am 44 op t o kids:=by
 have hn:=dn t ht;have hn2:=dn o ho;have hb:=dY t;have ha:=bn op;obtain⟨hi,lv,hlv,hi2⟩:=dJ op;have tk:=λk hk=>fV k t 0 ht hk
 simp only[Am,M.ay,M.aB,M.aP,M.aG,M.aV,M.aT,M.aQ,M.aH,M.bK,M.bg,M.bJ,M.bW,M.cZ,M.bY,M.bQ,M.bG,M.bT,M.bH,M.bU,M.bI,M.dA,M.cu,aW,aN,hn.1,hn.2,hn2.1,hn2.2,hb.1,hb.2,ha.1,ha.2,hi,hlv,hi2,ge_iff_le,Int.reduceBEq,Int.reduceLE,Int.reduceSub,decide_true,decide_false,cO,dO,Bool.and_true,Bool.and_false,Bool.true_and,Bool.false_and,ah];generalize (op==0)=a0;generalize (Kt t)=a1;generalize (o==[])=a2;cases a0<;>cases a1<;>cases a2<;>exact⟨_,rfl,rfl⟩
def aMh(op:Int)(t o:aC)(kids:au)(ht:t.length<=1048576)(ho:o.length<=1048576)(hk:kids.length<=400):Am 45 op t o kids:=by
 have hn:=dn t ht;have hn2:=dn o ho;have hb:=dY t;have ha:=bn op;obtain⟨hi,lv,hlv,hi2⟩:=dJ op;have tk:=λk hk=>fV k t 0 ht hk
 simp only[Am,M.ay,M.aB,M.aP,M.aG,M.aV,M.aT,M.aQ,M.aH,M.bK,M.bg,M.bJ,M.bW,M.cZ,M.bY,M.bQ,M.bG,M.bT,M.bH,M.bU,M.bI,M.dA,M.cu,aW,aN,hn.1,hn.2,hn2.1,hn2.2,hb.1,hb.2,ha.1,ha.2,hi,hlv,hi2,ge_iff_le,Int.reduceBEq,Int.reduceLE,Int.reduceSub,decide_true,decide_false,cO,dO,Bool.and_true,Bool.and_false,Bool.true_and,Bool.false_and,ah];have z1:decide ((kids.length:Int)<=400)=true:=zdt (by omega);have z2:decide ((0:Int)<=(kids.length:Int))=true:=zdt (by omega);have z3:decide ((kids.length:Int)<=(kids.length:Int))=true:=zdt (by omega);simp only[z1,z2,z3,cO,Bool.and_true];generalize (op==0)=a0;generalize (t==[])=a1;generalize (o==[])=a2;cases a0<;>cases a1<;>cases a2<;>exact⟨_,rfl,rfl⟩
def aMi(op:Int)(t o:aC)(kids:au)(ht:t.length<=1048576)(ho:o.length<=1048576)(hk:kids.length<=400):Am 21 op t o kids:=by
 have hp:=Tf o [[],[62],[62,62],[124]] (by decide);rw[VL] at hp
 by_cases h0:op=0
 ·subst h0;simp only[Am,M.ay,M.aB,M.aP,M.aG,M.aV,M.aT,M.aQ,M.aH,M.bK,M.bg,M.bJ,M.bW,M.cZ,M.bY,M.bQ,M.bG,M.bT,M.bH,M.bU,M.bI,M.dA,M.cu,aW,aN,Dl,hp,show i64.wrap (0+1)=1 from rfl,show i64.wrap (1+1)=2 from rfl,show i64.wrap (1+i64.wrap (Int.tdiv 1 3))=1 from rfl,show i64.wrap (1+i64.wrap (Int.tdiv 2 3))=1 from rfl,show i64.wrap (1+i64.wrap (Int.tdiv 3 3))=2 from rfl,show i64.wrap (2+i64.wrap (Int.tdiv 1 3))=2 from rfl,show i64.wrap (2+i64.wrap (Int.tdiv 3 3))=3 from rfl,ge_iff_le,Int.reduceBEq,Int.reduceLE,Int.reduceSub,decide_true,decide_false,cO,dO,Bool.and_true,Bool.and_false,Bool.true_and,Bool.false_and,ah];generalize (t==[])=a0;generalize (o==[])=a1;generalize (o==[62])=a2;generalize (o==[62,62])=a3;generalize (o==[124])=a4;cases a0<;>cases a1<;>cases a2<;>cases a3<;>cases a4<;>exact⟨_,rfl,rfl⟩
 by_cases h1:op=1
 ·subst h1;simp only[Am,M.ay,M.aB,M.aP,M.aG,M.aV,M.aT,M.aQ,M.aH,M.bK,M.bg,M.bJ,M.bW,M.cZ,M.bY,M.bQ,M.bG,M.bT,M.bH,M.bU,M.bI,M.dA,M.cu,aW,aN,Dl,hp,show i64.wrap (0+1)=1 from rfl,show i64.wrap (1+1)=2 from rfl,show i64.wrap (1+i64.wrap (Int.tdiv 1 3))=1 from rfl,show i64.wrap (1+i64.wrap (Int.tdiv 2 3))=1 from rfl,show i64.wrap (1+i64.wrap (Int.tdiv 3 3))=2 from rfl,show i64.wrap (2+i64.wrap (Int.tdiv 1 3))=2 from rfl,show i64.wrap (2+i64.wrap (Int.tdiv 3 3))=3 from rfl,ge_iff_le,Int.reduceBEq,Int.reduceLE,Int.reduceSub,decide_true,decide_false,cO,dO,Bool.and_true,Bool.and_false,Bool.true_and,Bool.false_and,ah];generalize (t==[])=a0;generalize (o==[])=a1;generalize (o==[62])=a2;generalize (o==[62,62])=a3;generalize (o==[124])=a4;cases a0<;>cases a1<;>cases a2<;>cases a3<;>cases a4<;>exact⟨_,rfl,rfl⟩
 have e0:(op==0)=false:=by simpa using h0
 have e1:(op==1)=false:=by simpa using h1
 have hf:(decide ((0:Int)<=op) && decide (op<=1))=false:=by rw[Bool.and_eq_false_iff,decide_eq_false_iff_not,decide_eq_false_iff_not];omega
 simp only[Am,M.ay,M.aB,M.aP,M.aG,M.aV,M.aT,M.aQ,M.aH,M.bK,M.bg,M.bJ,M.bW,M.cZ,M.bY,M.bQ,M.bG,M.bT,M.bH,M.bU,M.bI,M.dA,M.cu,aW,aN,Dl,hp,e0,e1,hf,ge_iff_le,Int.reduceBEq,Int.reduceLE,Int.reduceSub,decide_true,decide_false,cO,dO,Bool.and_true,Bool.and_false,Bool.true_and,Bool.false_and,ah];generalize (t==[])=a0;generalize (o==[])=a1;generalize (o==[62])=a2;generalize (o==[62,62])=a3;generalize (o==[124])=a4;cases a0<;>cases a1<;>cases a2<;>cases a3<;>cases a4<;>exact⟨_,rfl,rfl⟩
def aMj(op:Int)(t o:aC)(kids:au)(ht:t.length<=1048576)(ho:o.length<=1048576)(hk:kids.length<=400):Am 42 op t o kids:=by
 have hp:=Tf o [[],[62],[62,62],[124]] (by decide);rw[VL] at hp
 by_cases h1:op=1
 ·subst h1;simp only[Am,M.ay,M.aB,M.aP,M.aG,M.aV,M.aT,M.aQ,M.aH,M.bK,M.bg,M.bJ,M.bW,M.cZ,M.bY,M.bQ,M.bG,M.bT,M.bH,M.bU,M.bI,M.dA,M.cu,aW,aN,Dl,hp,show i64.wrap (0+1)=1 from rfl,show i64.wrap (1+1)=2 from rfl,show i64.wrap (1+i64.wrap (Int.tdiv 1 3))=1 from rfl,show i64.wrap (1+i64.wrap (Int.tdiv 2 3))=1 from rfl,show i64.wrap (1+i64.wrap (Int.tdiv 3 3))=2 from rfl,show i64.wrap (2+i64.wrap (Int.tdiv 1 3))=2 from rfl,show i64.wrap (2+i64.wrap (Int.tdiv 3 3))=3 from rfl,ge_iff_le,Int.reduceBEq,Int.reduceLE,Int.reduceSub,decide_true,decide_false,cO,dO,Bool.and_true,Bool.and_false,Bool.true_and,Bool.false_and,ah];generalize (t==[])=a0;generalize (o==[])=a1;cases a0<;>cases a1<;>exact⟨_,rfl,rfl⟩
 by_cases h2:op=2
 ·subst h2;simp only[Am,M.ay,M.aB,M.aP,M.aG,M.aV,M.aT,M.aQ,M.aH,M.bK,M.bg,M.bJ,M.bW,M.cZ,M.bY,M.bQ,M.bG,M.bT,M.bH,M.bU,M.bI,M.dA,M.cu,aW,aN,Dl,hp,show i64.wrap (0+1)=1 from rfl,show i64.wrap (1+1)=2 from rfl,show i64.wrap (1+i64.wrap (Int.tdiv 1 3))=1 from rfl,show i64.wrap (1+i64.wrap (Int.tdiv 2 3))=1 from rfl,show i64.wrap (1+i64.wrap (Int.tdiv 3 3))=2 from rfl,show i64.wrap (2+i64.wrap (Int.tdiv 1 3))=2 from rfl,show i64.wrap (2+i64.wrap (Int.tdiv 3 3))=3 from rfl,ge_iff_le,Int.reduceBEq,Int.reduceLE,Int.reduceSub,decide_true,decide_false,cO,dO,Bool.and_true,Bool.and_false,Bool.true_and,Bool.false_and,ah];generalize (t==[])=a0;generalize (o==[])=a1;cases a0<;>cases a1<;>exact⟨_,rfl,rfl⟩
 by_cases h3:op=3
 ·subst h3;simp only[Am,M.ay,M.aB,M.aP,M.aG,M.aV,M.aT,M.aQ,M.aH,M.bK,M.bg,M.bJ,M.bW,M.cZ,M.bY,M.bQ,M.bG,M.bT,M.bH,M.bU,M.bI,M.dA,M.cu,aW,aN,Dl,hp,show i64.wrap (0+1)=1 from rfl,show i64.wrap (1+1)=2 from rfl,show i64.wrap (1+i64.wrap (Int.tdiv 1 3))=1 from rfl,show i64.wrap (1+i64.wrap (Int.tdiv 2 3))=1 from rfl,show i64.wrap (1+i64.wrap (Int.tdiv 3 3))=2 from rfl,show i64.wrap (2+i64.wrap (Int.tdiv 1 3))=2 from rfl,show i64.wrap (2+i64.wrap (Int.tdiv 3 3))=3 from rfl,ge_iff_le,Int.reduceBEq,Int.reduceLE,Int.reduceSub,decide_true,decide_false,cO,dO,Bool.and_true,Bool.and_false,Bool.true_and,Bool.false_and,ah];generalize (t==[])=a0;generalize (o==[])=a1;cases a0<;>cases a1<;>exact⟨_,rfl,rfl⟩
 have e1:(op==1)=false:=by simpa using h1
 have e2:(op==2)=false:=by simpa using h2
 have e3:(op==3)=false:=by simpa using h3
 have hf:(decide ((1:Int)<=op) && decide (op<=3))=false:=by rw[Bool.and_eq_false_iff,decide_eq_false_iff_not,decide_eq_false_iff_not];omega
 simp only[Am,M.ay,M.aB,M.aP,M.aG,M.aV,M.aT,M.aQ,M.aH,M.bK,M.bg,M.bJ,M.bW,M.cZ,M.bY,M.bQ,M.bG,M.bT,M.bH,M.bU,M.bI,M.dA,M.cu,aW,aN,Dl,hp,e1,e2,e3,hf,ge_iff_le,Int.reduceBEq,Int.reduceLE,Int.reduceSub,decide_true,decide_false,cO,dO,Bool.and_true,Bool.and_false,Bool.true_and,Bool.false_and,ah];generalize (t==[])=a0;generalize (o==[])=a1;cases a0<;>cases a1<;>exact⟨_,rfl,rfl⟩
def aMk(op:Int)(t o:aC)(kids:au)(ht:t.length<=1048576)(ho:o.length<=1048576)(hk:kids.length<=400):Am 43 op t o kids:=by
 have hp:=Tf o [[],[62],[62,62],[124]] (by decide);rw[VL] at hp
 by_cases h1:op=1
 ·subst h1;simp only[Am,M.ay,M.aB,M.aP,M.aG,M.aV,M.aT,M.aQ,M.aH,M.bK,M.bg,M.bJ,M.bW,M.cZ,M.bY,M.bQ,M.bG,M.bT,M.bH,M.bU,M.bI,M.dA,M.cu,aW,aN,Dl,hp,show i64.wrap (0+1)=1 from rfl,show i64.wrap (1+1)=2 from rfl,show i64.wrap (1+i64.wrap (Int.tdiv 1 3))=1 from rfl,show i64.wrap (1+i64.wrap (Int.tdiv 2 3))=1 from rfl,show i64.wrap (1+i64.wrap (Int.tdiv 3 3))=2 from rfl,show i64.wrap (2+i64.wrap (Int.tdiv 1 3))=2 from rfl,show i64.wrap (2+i64.wrap (Int.tdiv 3 3))=3 from rfl,ge_iff_le,Int.reduceBEq,Int.reduceLE,Int.reduceSub,decide_true,decide_false,cO,dO,Bool.and_true,Bool.and_false,Bool.true_and,Bool.false_and,ah];generalize (t==[])=a0;generalize (o==[])=a1;cases a0<;>cases a1<;>exact⟨_,rfl,rfl⟩
 by_cases h3:op=3
 ·subst h3;simp only[Am,M.ay,M.aB,M.aP,M.aG,M.aV,M.aT,M.aQ,M.aH,M.bK,M.bg,M.bJ,M.bW,M.cZ,M.bY,M.bQ,M.bG,M.bT,M.bH,M.bU,M.bI,M.dA,M.cu,aW,aN,Dl,hp,show i64.wrap (0+1)=1 from rfl,show i64.wrap (1+1)=2 from rfl,show i64.wrap (1+i64.wrap (Int.tdiv 1 3))=1 from rfl,show i64.wrap (1+i64.wrap (Int.tdiv 2 3))=1 from rfl,show i64.wrap (1+i64.wrap (Int.tdiv 3 3))=2 from rfl,show i64.wrap (2+i64.wrap (Int.tdiv 1 3))=2 from rfl,show i64.wrap (2+i64.wrap (Int.tdiv 3 3))=3 from rfl,ge_iff_le,Int.reduceBEq,Int.reduceLE,Int.reduceSub,decide_true,decide_false,cO,dO,Bool.and_true,Bool.and_false,Bool.true_and,Bool.false_and,ah];generalize (t==[])=a0;generalize (o==[])=a1;cases a0<;>cases a1<;>exact⟨_,rfl,rfl⟩
 have e1:(op==1)=false:=by simpa using h1
 have e3:(op==3)=false:=by simpa using h3
 have hf:True:=trivial;simp only[Am,M.ay,M.aB,M.aP,M.aG,M.aV,M.aT,M.aQ,M.aH,M.bK,M.bg,M.bJ,M.bW,M.cZ,M.bY,M.bQ,M.bG,M.bT,M.bH,M.bU,M.bI,M.dA,M.cu,aW,aN,Dl,hp,e1,e3,hf,ge_iff_le,Int.reduceBEq,Int.reduceLE,Int.reduceSub,decide_true,decide_false,cO,dO,Bool.and_true,Bool.and_false,Bool.true_and,Bool.false_and,ah];generalize (t==[])=a0;generalize (o==[])=a1;cases a0<;>cases a1<;>exact⟨_,rfl,rfl⟩
def aiQ(k:Int)(op:Int)(t o:aC)(kids:au)(ht:t.length<=1048576)(ho:o.length<=1048576)(hk:kids.length<=400):Am k op t o kids:=by
 by_cases h1:k=1
 ·subst h1;exact aXv op t o kids ht ho hk
 by_cases h2:k=2
 ·subst h2;exact aXw op t o kids ht ho hk
 by_cases h3:k=3
 ·subst h3;exact aXx op t o kids ht ho hk
 by_cases h4:k=4
 ·subst h4;exact aXy op t o kids ht ho hk
 by_cases h5:k=5
 ·subst h5;exact aXz op t o kids ht ho hk
 by_cases h6:k=6
 ·subst h6;exact aXA op t o kids ht ho hk
 by_cases h7:k=7
 ·subst h7;exact aXB op t o kids ht ho hk
 by_cases h8:k=8
 ·subst h8;exact aXC op t o kids ht ho hk
 by_cases h9:k=9
 ·subst h9;exact aXD op t o kids ht ho hk
 by_cases h10:k=10
 ·subst h10;exact aLT op t o kids ht ho hk
 by_cases h11:k=11
 ·subst h11;exact aLU op t o kids ht ho hk
 by_cases h12:k=12
 ·subst h12;exact aLV op t o kids ht ho hk
 by_cases h13:k=13
 ·subst h13;exact aLW op t o kids ht ho hk
 by_cases h14:k=14
 ·subst h14;exact aLX op t o kids ht ho hk
 by_cases h15:k=15
 ·subst h15;exact aLY op t o kids ht ho hk
 by_cases h16:k=16
 ·subst h16;exact aLZ op t o kids ht ho hk
 by_cases h20:k=20
 ·subst h20;exact aL0 op t o kids ht ho hk
 by_cases h21:k=21
 ·subst h21;exact aMi op t o kids ht ho hk
 by_cases h22:k=22
 ·subst h22;exact aL1 op t o kids ht ho hk
 by_cases h23:k=23
 ·subst h23;exact aL2 op t o kids ht ho hk
 by_cases h24:k=24
 ·subst h24;exact aL3 op t o kids ht ho hk
 by_cases h25:k=25
 ·subst h25;exact aL4 op t o kids ht ho hk
 by_cases h26:k=26
 ·subst h26;exact aL5 op t o kids ht ho hk
 by_cases h27:k=27
 ·subst h27;exact aL6 op t o kids ht ho hk
 by_cases h28:k=28
 ·subst h28;exact aL7 op t o kids ht ho hk
 by_cases h29:k=29
 ·subst h29;exact aL8 op t o kids ht ho hk
 by_cases h30:k=30
 ·subst h30;exact aL9 op t o kids ht ho hk
 by_cases h31:k=31
 ·subst h31;exact aMa op t o kids ht ho hk
 by_cases h32:k=32
 ·subst h32;exact aMb op t o kids ht ho hk
 by_cases h33:k=33
 ·subst h33;exact aMc op t o kids ht ho hk
 by_cases h34:k=34
 ·subst h34;exact aMd op t o kids ht ho hk
 by_cases h40:k=40
 ·subst h40;exact aMe op t o kids ht ho hk
 by_cases h41:k=41
 ·subst h41;exact aMf op t o kids ht ho hk
 by_cases h42:k=42
 ·subst h42;exact aMj op t o kids ht ho hk
 by_cases h43:k=43
 ·subst h43;exact aMk op t o kids ht ho hk
 by_cases h44:k=44
 ·subst h44;exact aMg op t o kids ht ho hk
 by_cases h45:k=45
 ·subst h45;exact aMh op t o kids ht ho hk
 have f1:(decide (k>=1) && decide (k<=16))=false:=by rw[Bool.and_eq_false_iff,decide_eq_false_iff_not,decide_eq_false_iff_not];omega
 have f2:(decide (k>=20) && decide (k<=34))=false:=by rw[Bool.and_eq_false_iff,decide_eq_false_iff_not,decide_eq_false_iff_not];omega
 have f3:(decide (k>=40) && decide (k<=45))=false:=by rw[Bool.and_eq_false_iff,decide_eq_false_iff_not,decide_eq_false_iff_not];omega
 have f4:(decide (k>=1) && decide (k<=15))=false:=by rw[Bool.and_eq_false_iff,decide_eq_false_iff_not,decide_eq_false_iff_not];omega
 have g:(k==16)=false:=by simpa using h16
 have e1:(k==1)=false:=by simpa using h1
 have e2:(k==2)=false:=by simpa using h2
 have e3:(k==3)=false:=by simpa using h3
 have e4:(k==4)=false:=by simpa using h4
 have e5:(k==5)=false:=by simpa using h5
 have e6:(k==6)=false:=by simpa using h6
 have e7:(k==7)=false:=by simpa using h7
 have e8:(k==8)=false:=by simpa using h8
 have e9:(k==9)=false:=by simpa using h9
 have e10:(k==10)=false:=by simpa using h10
 have e11:(k==11)=false:=by simpa using h11
 have e12:(k==12)=false:=by simpa using h12
 have e13:(k==13)=false:=by simpa using h13
 have e14:(k==14)=false:=by simpa using h14
 have e15:(k==15)=false:=by simpa using h15
 have e16:(k==16)=false:=by simpa using h16
 have e20:(k==20)=false:=by simpa using h20
 have e21:(k==21)=false:=by simpa using h21
 have e22:(k==22)=false:=by simpa using h22
 have e23:(k==23)=false:=by simpa using h23
 have e24:(k==24)=false:=by simpa using h24
 have e25:(k==25)=false:=by simpa using h25
 have e26:(k==26)=false:=by simpa using h26
 have e27:(k==27)=false:=by simpa using h27
 have e28:(k==28)=false:=by simpa using h28
 have e29:(k==29)=false:=by simpa using h29
 have e30:(k==30)=false:=by simpa using h30
 have e31:(k==31)=false:=by simpa using h31
 have e32:(k==32)=false:=by simpa using h32
 have e33:(k==33)=false:=by simpa using h33
 have e34:(k==34)=false:=by simpa using h34
 have e40:(k==40)=false:=by simpa using h40
 have e41:(k==41)=false:=by simpa using h41
 have e42:(k==42)=false:=by simpa using h42
 have e43:(k==43)=false:=by simpa using h43
 have e44:(k==44)=false:=by simpa using h44
 have e45:(k==45)=false:=by simpa using h45
 simp only[Am,M.ay,M.aB,M.aP,M.aG,M.bK,M.bg,M.bJ,M.bW,M.cZ,M.bY,aW,aN,f1,f2,f3,f4,e1,e2,e3,e4,e5,e6,e7,e8,e9,e10,e11,e12,e13,e14,e15,e16,e20,e21,e22,e23,e24,e25,e26,e27,e28,e29,e30,e31,e32,e33,e34,e40,e41,e42,e43,e44,e45,dO,ah];exact⟨false,rfl,rfl⟩
end Go.Proofs.YtbpldgeajbfgnaaGreatDoor
