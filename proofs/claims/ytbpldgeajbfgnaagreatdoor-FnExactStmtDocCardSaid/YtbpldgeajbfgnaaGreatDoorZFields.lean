import Derived.Test.YtbpldgeajbfgnaaGreatDoorPForms3
import Derived.Test.YtbpldgeajbfgnaaGreatDoorVm4
import Derived.Lib.IndexLaws
namespace Go.Proofs.YtbpldgeajbfgnaaGreatDoor
set_option linter.unusedVariables false
set_option linter.unusedSimpArgs false
set_option linter.unusedSectionVars false
open Go Go.Vm
theorem aY:(∀a b:Int,(a≥b)=(b≤a))∧(∀a b:Int,(a>b)=(b<a))∧(∀h:Decidable True,@decide True h=true)∧(∀h:Decidable False,@decide False h=false)∧(∀(α:Type) (a b:α),cond true a b=a)∧(∀(α:Type) (a b:α),cond false a b=b)∧(∀b:Bool,(b && true)=b)∧(∀b:Bool,(b && false)=false)∧(∀b:Bool,(true && b)=b)∧(∀b:Bool,(false && b)=false)∧((!true)=false)∧((!false)=true):=
 ⟨fun _ _=>rfl,fun _ _=>rfl,fun h=>@decide_eq_true True h trivial,fun h=>@decide_eq_false False h id,fun _ _ _=>rfl,fun _ _ _=>rfl,fun b=>by cases b<;>rfl,fun b=>by cases b<;>rfl,fun _=>rfl,fun _=>rfl,rfl,rfl⟩
theorem eY{m n:Nat}(h:m≤n):m.ble n=true:=Nat.ble_eq_true_of_le h
theorem ah{α β:Type}(a:α)(f:α→Option β):(some a).bind f=f a:=rfl
theorem qH:((0:Nat):Int)=0:=rfl
def Mc(s:aF)(a:Int):Int:=if 0≤a then(match s[a.toNat]? with|some c=>(c.toNat:Int)|none=> -1) else -1
def isD(b:Int):Bool:=decide (b≥48) && decide (b≤57)
def G8(s:aF)(a:Int):Int:=if 0≤a then a+(((s.drop a.toNat).takeWhile fun c=>isD (c.toNat:Int)).length:Nat) else a
theorem ak8(c:UInt8):c.toNat<256:=c.toNat_lt
theorem Oc(s:aF)(i:Nat):Mc s (i:Int)=(match s[i]? with|some c=>(c.toNat:Int)|none=> -1):=by
 rw[Mc,if_pos (by omega),Int.toNat_natCast]
section
variable {s:aF} (h:s.length≤1048576)
include h
theorem IZ(a:Int):M.fC s a=some (Mc s a):=by
 simp only[M.fC,M.J3]
 by_cases h0:a<0
 ·rw[decide_eq_true h0,cond_true,Mc,if_neg (by omega)]
 ·rw[decide_eq_false h0,cond_false]
  obtain⟨i,rfl⟩:∃i:Nat,a=i:=⟨a.toNat,by omega⟩
  rw[Oc]
  by_cases h1:(i:Int)≥(s.length:Int)
  ·rw[decide_eq_true h1,cond_true,List.getElem?_eq_none (by omega)]
  ·obtain⟨c,hc⟩:∃c,s[i]? =some c:=⟨s[i]'(by omega),by simp⟩
   have:=ak8 c
   rw[decide_eq_false h1,cond_false,fG,hc,ah,aP (by omega) (by omega)]
theorem I4(a:Int):M.jF s a=some (Mc s a):=by
 simp only[M.jF,M.Ku,M.dV,M.yA]
 rw[aP (by omega) (by omega)]
 by_cases h0:a<0
 ·rw[decide_eq_false (by omega),cond_false,ah,Bool.not_false,cond_true,Mc,if_neg (by omega)]
 ·rw[decide_eq_true (by omega),cond_true,ah]
  obtain⟨i,rfl⟩:∃i:Nat,a=i:=⟨a.toNat,by omega⟩
  rw[Oc]
  by_cases h1:(i:Int)≥(s.length:Int)
  ·rw[decide_eq_false (by omega),Bool.not_false,cond_true,List.getElem?_eq_none (by omega)]
  ·obtain⟨c,hc⟩:∃c,s[i]? =some c:=⟨s[i]'(by omega),by simp⟩
   have:=ak8 c
   rw[decide_eq_true (by omega),Bool.not_true,cond_false,fG,hc,ah,aP (by omega) (by omega)]
end
theorem ak9(b:Int):M.qL b=some (isD b):=by
 simp only[M.qL,M.H9,M.dL,M.wV,isD]
 cases decide (b≥48)<;>rfl
theorem ala(b:Int):M.qP b=some (isD b):=by
 simp only[M.qP,M.IB,isD]
 cases decide (b≥48)<;>rfl
theorem avt{s:aF}{b:Int→Option (Int⊕Int)}(hb:∀a,0≤a→a≤2000000→b a=some (bif isD (Mc s a) then .inl (a+1) else .inr a))(h:s.length≤1048576):
  ∀(rest pre:aF),s=pre++rest→iR b (pre.length:Int)=some ((pre.length:Int)+((rest.takeWhile fun c=>isD (c.toNat:Int)).length:Nat))
 |[],pre,e=>by
  have hl:pre.length=s.length:=by rw[e];simp
  refine iW ?_
  rw[hb _ (by omega) (by omega),Oc,List.getElem?_eq_none (by omega)]
  simp[isD]
 |c::rest,pre,e=>by
  have hl:s.length=pre.length+(rest.length+1):=by rw[e];simp
  have hget:s[pre.length]? =some c:=by rw[e,List.getElem?_append_right (Nat.le_refl _),Nat.sub_self];rfl
  have hs:=hb (pre.length:Int) (by omega) (by omega)
  rw[Oc,hget] at hs
  simp only at hs
  cases hd:isD (c.toNat:Int) with
  |true=>
   have:=avt hb h rest (pre++[c]) (by rw[e];simp)
   rw[List.length_append,List.length_singleton] at this
   rw[hd,cond_true] at hs
   rw[jU hs,List.takeWhile_cons,if_pos hd,show(pre.length:Int)+1=((pre.length+1:Nat):Int) by omega,this]
   simp
   omega
  |false=>
   rw[hd,cond_false] at hs
   rw[iW hs,List.takeWhile_cons,hd]
   simp
theorem asr{s:aF}{b:Int→Option (Int⊕Int)}(hb:∀a,0≤a→a≤2000000→b a=some (bif isD (Mc s a) then .inl (a+1) else .inr a))(h:s.length≤1048576)(a:Int)(h0:0≤a)(h1:a≤2000000):iR b a=some (G8 s a):=by
 obtain⟨i,rfl⟩:∃i:Nat,a=i:=⟨a.toNat,by omega⟩
 rw[G8,if_pos h0,Int.toNat_natCast]
 by_cases hi:i≤s.length
 ·have:=avt hb h (s.drop i) (s.take i) (List.take_append_drop i s).symm
  rw[List.length_take,Nat.min_eq_left hi] at this
  exact this
 ·rw[List.drop_eq_nil_of_le (by omega)]
  refine iW ?_
  rw[hb _ h0 h1,Oc,List.getElem?_eq_none (by omega)]
  simp[isD]
theorem Qa{s:aF}(h:s.length≤1048576){a:Int}(h0:0≤a):a≤G8 s a∧(G8 s a≤a∨G8 s a≤s.length):=by
 have h1:=(List.takeWhile_sublist (p:=fun c:UInt8=>isD (c.toNat:Int)) (l:=s.drop a.toNat)).length_le
 rw[List.length_drop] at h1
 rw[G8,if_pos h0]
 omega
section
variable {s:aF} (h:s.length≤1048576)
include h
theorem zy(a:Int)(h0:0≤a)(h1:a≤2000000):M.aZ s a=some (G8 s a):=by
 simp only[M.aZ,M.Fg,M.D6]
 rw[asr (fun a h0 h1=>by
  simp only[M.MV,M.Af,IZ h,ak9,ah]
  rw[aP (by omega) (by omega)]
  cases isD (Mc s a)<;>rfl) h a h0 h1,ah]
theorem xP(a:Int)(h0:0≤a)(h1:a≤2000000):M.eP s a=some (G8 s a):=by
 simp only[M.eP,M.Eh,M.Cj]
 rw[asr (fun a h0 h1=>by
  simp only[M.LD,M.yH,I4 h,ala,ah]
  rw[aP (by omega) (by omega)]
  cases isD (Mc s a)<;>rfl) h a h0 h1,ah]
end
def Ya(s:aF)(r:Int):Int:=bif(Mc s r==101)||(Mc s r==69) then
  (bif(Mc s (r+1)==43)||(Mc s (r+1)==45) then(bif decide (G8 s (r+1+1)>r+1+1) then G8 s (r+1+1) else r) else(bif decide (G8 s (r+1)>r+1) then G8 s (r+1) else r)) else r
def ab3(s:aF)(a:Int):Int:=if a<0∨(s.length:Int)≤a then -1 else
 bif Mc s (G8 s a)==46 then(bif(G8 s a==a) &&(G8 s (G8 s a+1)==G8 s a+1) then -1 else Ya s (G8 s (G8 s a+1))) else(bif G8 s a==a then -1 else Ya s (G8 s a))
section
variable {s:aF} (h:s.length≤1048576)
include h
set_option maxHeartbeats 2000000 in
theorem ab4(a:Int)(ha:a≤1048576):M.zQ s a=some (ab3 s a):=by
 simp only[M.zQ,M.Kv,M.dV,M.yA,ab3]
 rw[aP (by omega) (by omega)]
 by_cases h0:a<0
 ·rw[decide_eq_false (by omega),cond_false,ah,Bool.not_false,cond_true,if_pos (.inl h0)]
 ·rw[decide_eq_true (by omega),cond_true,ah]
  by_cases h1:(s.length:Int)≤a
  ·rw[decide_eq_false (by omega),Bool.not_false,cond_true,if_pos (.inr h1)]
  ·rw[decide_eq_true (by omega),Bool.not_true,cond_false,if_neg (by omega),xP h a (by omega) (by omega),ah]
   have e1:=Qa h (a:=a) (by omega)
   generalize hE:G8 s a=e at e1⊢
   simp only[I4 h,ah]
   rw[aP (n:=e+1) (by omega) (by omega),aP (n:=e - a) (by omega) (by omega),xP h (e+1) (by omega) (by omega),ah]
   have e2:=Qa h (a:=e+1) (by omega)
   generalize hK:G8 s (e+1)=k at e2⊢
   have hz:(IntKind.i64.wrap (e - a+IntKind.i64.wrap (IntKind.i64.wrap (k - e) - 1))==0)=((e==a) &&(k==e+1)):=by
    rw[aP (n:=k - e) (by omega) (by omega),aP (n:=k - e - 1) (by omega) (by omega),aP (by omega) (by omega),Bool.eq_iff_iff]
    simp only[Bool.and_eq_true,beq_iff_eq]
    omega
   have hz2:(e - a==0)=(e==a):=by
    rw[Bool.eq_iff_iff]
    simp only[beq_iff_eq]
    omega
   rw[hz,hz2]
   have ex:∀r:Int,0≤r→r≤1048578→(bif Mc s r==101 then
      ((some (Mc s (IntKind.i64.wrap (r+1)))).bind fun aIx=>
      (bif aIx==43 then
       ((M.eP s (IntKind.i64.wrap (IntKind.i64.wrap (r+1)+1))).bind fun aIy=>
       (bif decide (aIy>IntKind.i64.wrap (IntKind.i64.wrap (r+1)+1)) then(some aIy) else(some r))) else
       (bif aIx==45 then
       ((M.eP s (IntKind.i64.wrap (IntKind.i64.wrap (r+1)+1))).bind fun aIz=>
        (bif decide (aIz>IntKind.i64.wrap (IntKind.i64.wrap (r+1)+1)) then(some aIz) else(some r))) else
       ((M.eP s (IntKind.i64.wrap (r+1))).bind fun aIA=>(bif decide (aIA>IntKind.i64.wrap (r+1)) then(some aIA) else(some r)))))) else
      (bif Mc s r==69 then
      ((some (Mc s (IntKind.i64.wrap (r+1)))).bind fun aIB=>
       (bif aIB==43 then
       ((M.eP s (IntKind.i64.wrap (IntKind.i64.wrap (r+1)+1))).bind fun aIC=>
        (bif decide (aIC>IntKind.i64.wrap (IntKind.i64.wrap (r+1)+1)) then(some aIC) else(some r))) else
       (bif aIB==45 then
        ((M.eP s (IntKind.i64.wrap (IntKind.i64.wrap (r+1)+1))).bind fun aID=>
        (bif decide (aID>IntKind.i64.wrap (IntKind.i64.wrap (r+1)+1)) then(some aID) else(some r))) else
        ((M.eP s (IntKind.i64.wrap (r+1))).bind fun aIE=>(bif decide (aIE>IntKind.i64.wrap (r+1)) then(some aIE) else(some r)))))) else(some r)))=some (Ya s r):=by
    intro r h0 h1
    rw[aP (n:=r+1) (by omega) (by omega),aP (n:=r+1+1) (by omega) (by omega),xP h (r+1) (by omega) (by omega),xP h (r+1+1) (by omega) (by omega),Ya]
    simp only[ah]
    cases Mc s r==101<;>cases Mc s r==69<;>cases Mc s (r+1)==43<;>cases Mc s (r+1)==45<;>cases decide (G8 s (r+1+1)>r+1+1)<;>cases decide (G8 s (r+1)>r+1)<;>rfl
   simp only[ah] at ex
   cases Mc s e==46 with
   |true=>
    simp only[cond_true]
    cases(e==a) &&(k==e+1) with
    |true=>rfl
    |false=>
     simp only[cond_false]
     exact ex k (by omega) (by omega)
   |false=>
    simp only[cond_false]
    cases e==a with
    |true=>rfl
    |false=>
     simp only[cond_false]
     have h2:=ex e (by omega) (by omega)
     rw[aP (n:=e+1) (by omega) (by omega),xP h (e+1) (by omega) (by omega),hK] at h2
     simp only[ah] at h2
     exact h2
theorem ab5(a:Int)(ha:a≤1048576):M.zL s a=some (ab3 s a):=by
 simp only[M.zL,M.J4,ab3]
 by_cases h0:a<0
 ·rw[decide_eq_true h0,cond_true,if_pos (.inl h0)]
 ·rw[decide_eq_false h0,cond_false]
  have e1:=Qa h (a:=a) (by omega)
  rw[zy h a (by omega) (by omega),ah]
  simp only[IZ h,ah]
  by_cases h1:(s.length:Int)≤a
  ·have he:G8 s a=a:=by omega
   obtain⟨i,rfl⟩:∃i:Nat,a=i:=⟨a.toNat,by omega⟩
   have hb:Mc s (i:Int)= -1:=by rw[Oc,List.getElem?_eq_none (by omega)]
   rw[he,hb,if_pos (.inr h1),show((-1:Int)==46)=false from rfl,cond_false,beq_self_eq_true,cond_true]
  ·rw[if_neg (by omega)]
   generalize hE:G8 s a=e at e1⊢
   have e2:=Qa h (a:=e+1) (by omega)
   rw[aP (n:=e+1) (by omega) (by omega),zy h (e+1) (by omega) (by omega),ah]
   have ex:∀r:Int,0≤r→r≤1048578→(bif Mc s r==101 then
      (bif Mc s (IntKind.i64.wrap (r+1))==43 then
       ((M.aZ s (IntKind.i64.wrap (IntKind.i64.wrap (r+1)+1))).bind fun av4=>
        (bif decide (av4>IntKind.i64.wrap (IntKind.i64.wrap (r+1)+1)) then
        ((M.aZ s (IntKind.i64.wrap (IntKind.i64.wrap (r+1)+1))).bind fun av5=>(some av5)) else(some r))) else
        (bif Mc s (IntKind.i64.wrap (r+1))==45 then
        ((M.aZ s (IntKind.i64.wrap (IntKind.i64.wrap (r+1)+1))).bind fun av6=>
         (bif decide (av6>IntKind.i64.wrap (IntKind.i64.wrap (r+1)+1)) then
         ((M.aZ s (IntKind.i64.wrap (IntKind.i64.wrap (r+1)+1))).bind fun av7=>(some av7)) else(some r))) else
        ((M.aZ s (IntKind.i64.wrap (r+1))).bind fun av8=>
         (bif decide (av8>IntKind.i64.wrap (r+1)) then((M.aZ s (IntKind.i64.wrap (r+1))).bind fun av9=>(some av9)) else(some r))))) else
       (bif Mc s r==69 then
        (bif Mc s (IntKind.i64.wrap (r+1))==43 then
        ((M.aZ s (IntKind.i64.wrap (IntKind.i64.wrap (r+1)+1))).bind fun awc=>
         (bif decide (awc>IntKind.i64.wrap (IntKind.i64.wrap (r+1)+1)) then
         ((M.aZ s (IntKind.i64.wrap (IntKind.i64.wrap (r+1)+1))).bind fun awd=>(some awd)) else(some r))) else
         (bif Mc s (IntKind.i64.wrap (r+1))==45 then
         ((M.aZ s (IntKind.i64.wrap (IntKind.i64.wrap (r+1)+1))).bind fun awe=>
          (bif decide (awe>IntKind.i64.wrap (IntKind.i64.wrap (r+1)+1)) then
          ((M.aZ s (IntKind.i64.wrap (IntKind.i64.wrap (r+1)+1))).bind fun awf=>(some awf)) else(some r))) else
         ((M.aZ s (IntKind.i64.wrap (r+1))).bind fun awg=>
          (bif decide (awg>IntKind.i64.wrap (r+1)) then((M.aZ s (IntKind.i64.wrap (r+1))).bind fun awh=>(some awh)) else(some r))))) else(some r)))=some (Ya s r):=by
    intro r h0 h1
    rw[aP (n:=r+1) (by omega) (by omega),aP (n:=r+1+1) (by omega) (by omega),zy h (r+1) (by omega) (by omega),zy h (r+1+1) (by omega) (by omega),Ya]
    simp only[ah]
    cases Mc s r==101<;>cases Mc s r==69<;>cases Mc s (r+1)==43<;>cases Mc s (r+1)==45<;>cases decide (G8 s (r+1+1)>r+1+1)<;>cases decide (G8 s (r+1)>r+1)<;>rfl
   generalize hK:G8 s (e+1)=k at e2⊢
   have hka:(k==a)=false:=by rw[beq_eq_false_iff_ne];omega
   rw[hka]
   cases Mc s e==46 with
   |true=>
    simp only[cond_true,cond_false]
    cases e==a with
    |true=>
     simp only[cond_true,Bool.true_and]
     cases k==e+1 with
     |true=>rfl
     |false=>
      simp only[cond_false]
      exact ex k (by omega) (by omega)
    |false=>
     simp only[cond_false,Bool.false_and]
     exact ex k (by omega) (by omega)
   |false=>
    simp only[cond_false]
    cases e==a with
    |true=>rfl
    |false=>
     simp only[cond_false]
     have h2:=ex e (by omega) (by omega)
     rw[aP (n:=e+1) (by omega) (by omega),zy h (e+1) (by omega) (by omega),hK] at h2
     simp only[ah] at h2
     exact h2
end
def adq(q:Int):aF→Int→Int
 |[],_=> -1
 |c::l,i=>if(c.toNat:Int)=q then i+1 else if(c.toNat:Int)=10 then -1 else if(c.toNat:Int)=92 then(match l with
   |[]=> -1
   |d::l'=>if(d.toNat:Int)=10 then -1 else adq q l' (i+2)) else adq q l (i+1)
theorem aea(q:Int)(c:UInt8)(l:aF)(i:Int):adq q (c::l) i=if(c.toNat:Int)=q then i+1 else if(c.toNat:Int)=10 then -1 else if(c.toNat:Int)=92 then(match l with
   |[]=> -1
   |d::l'=>if(d.toNat:Int)=10 then -1 else adq q l' (i+2)) else adq q l (i+1):=by
 cases l with
 |nil=>simp[adq]
 |cons d l=>simp[adq]
def hdI:aF→Int
 |[]=> -1
 |d::_=>(d.toNat:Int)
def quoted(s:aF)(a q:Int):Int:=if Mc s a=q then adq q (s.drop (a+1).toNat) (a+1) else -1
theorem asu{s:aF}(h:s.length≤1048576)(q:Int)(hq:q≠10):∀(n:Nat) (rest pre:aF),rest.length≤n→s=pre++rest→
  (∃r,M.qE s q (pre.length:Int)=some r∧(xZ r some fun u=>letE u fun _=>some (-1))=some (adq q rest (pre.length:Int)))∧
  (∃r,M.oW s q (pre.length:Int)=some r∧(xZ r some fun u=>letE u fun _=>some (-1))=some (adq q rest (pre.length:Int)))
 |n,[],pre,hn,e=>by
  have hl:pre.length=s.length:=by rw[e];simp
  constructor
  ·refine⟨.inr (pre.length:Int), ?_,rfl⟩
   rw[M.qE]
   refine iW ?_
   simp only[M.uV,M.qC]
   rw[decide_eq_false (by omega),cond_false]
  ·refine⟨.inr (pre.length:Int), ?_,rfl⟩
   rw[M.oW]
   refine iW ?_
   simp only[M.sW,M.pz]
   rw[decide_eq_false (by omega),cond_false]
 |0,c::rest,pre,hn,e=>by simp at hn
 |n+1,c::rest,pre,hn,e=>by
  simp only[List.length_cons] at hn
  have hl:s.length=pre.length+(rest.length+1):=by rw[e];simp
  have hget:s[pre.length]? =some c:=by rw[e,List.getElem?_append_right (Nat.le_refl _),Nat.sub_self];rfl
  have hc:=ak8 c
  have hw:IntKind.i64.wrap ((c.toNat:Nat):Int)=(c.toNat:Int):=aP (by omega) (by omega)
  have hw1:IntKind.i64.wrap ((pre.length:Int)+1)=((pre.length+1:Nat):Int):=by rw[aP (by omega) (by omega)];omega
  have hw2:IntKind.i64.wrap (((pre.length+1:Nat):Int)+1)=((pre.length+2:Nat):Int):=by rw[aP (by omega) (by omega)];omega
  have hnext:Mc s ((pre.length+1:Nat):Int)=hdI rest:=by
   rw[Oc,e,List.getElem?_append_right (by omega),show pre.length+1 - pre.length=1 by omega]
   cases rest<;>rfl
  have hS:M.uV s q (pre.length:Int)=some (if(c.toNat:Int)=q then .inr (.inl ((pre.length+1:Nat):Int)) else if(c.toNat:Int)=10 then .inr (.inl (-1)) else if(c.toNat:Int)=92 then
    (if Mc s ((pre.length+1:Nat):Int)=10 then .inr (.inl (-1)) else .inl ((pre.length+2:Nat):Int)) else .inl ((pre.length+1:Nat):Int)):=by
   simp only[M.uV,M.qC,fG,hget,ah,hw,hw1,hw2,IZ h]
   rw[decide_eq_true (by omega),cond_true]
   by_cases c1:(c.toNat:Int)=q
   ·rw[if_pos c1,show((c.toNat:Int)==q)=true by simpa using c1,cond_true]
   ·rw[if_neg c1,show((c.toNat:Int)==q)=false by simpa using c1,cond_false]
    by_cases c2:(c.toNat:Int)=10
    ·rw[if_pos c2,show((c.toNat:Int)==10)=true by simpa using c2,cond_true]
    ·rw[if_neg c2,show((c.toNat:Int)==10)=false by simpa using c2,cond_false]
     by_cases c3:(c.toNat:Int)=92
     ·rw[if_pos c3,show((c.toNat:Int)==92)=true by simpa using c3,cond_true]
      by_cases c4:Mc s ((pre.length+1:Nat):Int)=10
      ·rw[if_pos c4,c4];rfl
      ·rw[if_neg c4,show(Mc s ((pre.length+1:Nat):Int)==10)=false by simpa using c4,cond_false]
     ·rw[if_neg c3,show((c.toNat:Int)==92)=false by simpa using c3,cond_false]
  have hI:M.sW s q (pre.length:Int)=some (if(c.toNat:Int)=10 then .inr (.inr (pre.length:Int)) else if(c.toNat:Int)=q then .inr (.inl ((pre.length+1:Nat):Int)) else if(c.toNat:Int)=92 then
    (if Mc s ((pre.length+1:Nat):Int)=10 then .inl ((pre.length+1:Nat):Int) else .inl ((pre.length+2:Nat):Int)) else .inl ((pre.length+1:Nat):Int)):=by
   simp only[M.sW,M.pz,fG,hget,ah,hw,hw1,hw2,I4 h]
   rw[decide_eq_true (by omega),cond_true]
   by_cases c2:(c.toNat:Int)=10
   ·rw[if_pos c2,show((c.toNat:Int) !=10)=false by simpa using c2,cond_false]
   ·rw[if_neg c2,show((c.toNat:Int) !=10)=true by simpa using c2,cond_true]
    by_cases c1:(c.toNat:Int)=q
    ·rw[if_pos c1,show((c.toNat:Int)==q)=true by simpa using c1,cond_true]
    ·rw[if_neg c1,show((c.toNat:Int)==q)=false by simpa using c1,cond_false]
     by_cases c3:(c.toNat:Int)=92
     ·rw[if_pos c3,show((c.toNat:Int)==92)=true by simpa using c3,cond_true]
      by_cases c4:Mc s ((pre.length+1:Nat):Int)=10
      ·rw[if_pos c4,c4];rfl
      ·rw[if_neg c4,show(Mc s ((pre.length+1:Nat):Int) !=10)=true by simpa using c4,cond_true]
     ·rw[if_neg c3,show((c.toNat:Int)==92)=false by simpa using c3,cond_false]
  have e1:s=(pre++[c])++rest:=by rw[e];simp
  have ih1:=asu h q hq n rest (pre++[c]) (by omega) e1
  rw[List.length_append,List.length_singleton] at ih1
  rw[M.qE,M.oW] at ih1⊢
  rw[aea]
  by_cases c1:(c.toNat:Int)=q
  ·have c2:¬(c.toNat:Int)=10:=by omega
   rw[if_pos c1]
   rw[if_pos c1] at hS
   rw[if_neg c2,if_pos c1] at hI
   refine⟨⟨_,iW hS, ?_⟩,⟨_,iW hI, ?_⟩⟩<;>simp[xZ]
  ·rw[if_neg c1]
   rw[if_neg c1] at hS
   by_cases c2:(c.toNat:Int)=10
   ·rw[if_pos c2]
    rw[if_pos c2] at hS hI
    exact⟨⟨_,iW hS,rfl⟩,⟨_,iW hI,rfl⟩⟩
   ·rw[if_neg c2]
    rw[if_neg c2] at hS hI
    rw[if_neg c1] at hI
    by_cases c3:(c.toNat:Int)=92
    ·rw[if_pos c3]
     rw[if_pos c3] at hS hI
     cases rest with
     |nil=>
      rw[hnext,hdI] at hS hI
      simp only[show¬((-1:Int)=10) by omega,if_false] at hS hI
      have hend:∀(b:Int→Option (Int⊕(Int⊕Int))),True:=fun _=>trivial
      simp only[List.length_nil] at hl
      refine⟨⟨.inr ((pre.length+2:Nat):Int), ?_,rfl⟩,⟨.inr ((pre.length+2:Nat):Int), ?_,rfl⟩⟩
      ·rw[jU hS]
       refine iW ?_
       simp only[M.uV,M.qC]
       rw[decide_eq_false (by omega),cond_false]
      ·rw[jU hI]
       refine iW ?_
       simp only[M.sW,M.pz]
       rw[decide_eq_false (by omega),cond_false]
     |cons d rest'=>
      simp only[hdI] at hnext⊢
      rw[hnext] at hS hI
      by_cases c4:(d.toNat:Int)=10
      ·rw[if_pos c4]
       rw[if_pos c4] at hS hI
       refine⟨⟨_,iW hS,rfl⟩, ?_⟩
       obtain⟨r,h1,h2⟩:=ih1.2
       refine⟨r,by rw[jU hI];exact h1, ?_⟩
       rw[h2,aea,if_neg (by omega),if_pos c4]
      ·rw[if_neg c4]
       rw[if_neg c4] at hS hI
       have e2:s=(pre++[c,d])++rest':=by rw[e];simp
       simp only[List.length_cons] at hn
       have ih2:=asu h q hq n rest' (pre++[c,d]) (by omega) e2
       rw[List.length_append,show[c,d].length=2 from rfl,M.qE,M.oW] at ih2
       rw[jU hS,jU hI,show(pre.length:Int)+2=((pre.length+2:Nat):Int) by omega]
       exact ih2
    ·rw[if_neg c3]
     rw[if_neg c3] at hS hI
     rw[jU hS,jU hI,show(pre.length:Int)+1=((pre.length+1:Nat):Int) by omega]
     exact ih1
section
variable {s:aF} (h:s.length≤1048576)
include h
theorem aeb(a q:Int)(h0:0≤a)(h1:a≤1048576)(hq:0≤q)(hq2:q≠10):M.nZ s a q=some (quoted s a q)∧M.mY s a q=some (quoted s a q):=by
 simp only[M.nZ,M.Fh,M.mY,M.Ei,IZ h,I4 h,ah,quoted]
 by_cases hb:Mc s a=q
 ·rw[if_pos hb,show(Mc s a !=q)=false by simpa using hb,cond_false,cond_false,aP (by omega) (by omega)]
  obtain⟨i,rfl⟩:∃i:Nat,a=i:=⟨a.toNat,by omega⟩
  have hi:i<s.length:=by
   rcases Nat.lt_or_ge i s.length with hlt|hge
   ·exact hlt
   ·rw[Oc,List.getElem?_eq_none hge] at hb
    simp only at hb
    omega
  obtain⟨⟨r,k1,k2⟩,⟨r',k3,k4⟩⟩:=asu h q hq2 _ (s.drop (i+1)) (s.take (i+1)) (Nat.le_refl _) (List.take_append_drop _ s).symm
  rw[List.length_take,Nat.min_eq_left (by omega)] at k1 k2 k3 k4
  rw[show(i:Int)+1=((i+1:Nat):Int) by omega,Int.toNat_natCast,k1,k3,ah,ah]
  exact⟨k2,k4⟩
 ·rw[if_neg hb,show(Mc s a !=q)=true by simpa using hb,cond_true,cond_true]
  exact⟨rfl,rfl⟩
theorem aoO(a:Int)(h0:0≤a)(h1:a≤1048576):M.zM s a=some (quoted s a 34)∧M.zS s a=some (quoted s a 34):=by
 have:=aeb h a 34 h0 h1 (by omega) (by omega)
 simp only[M.zM,M.J5,M.zS,M.Kw,this.1,this.2,ah]
 constructor<;>first|rfl|trivial
def ab6(s:aF)(a:Int):Int:=bif quoted s a 47==a+2 then -1 else quoted s a 47
theorem aoP(a:Int)(h0:0≤a)(h1:a≤1048576):M.zN s a=some (ab6 s a)∧M.zT s a=some (ab6 s a):=by
 have:=aeb h a 47 h0 h1 (by omega) (by omega)
 simp only[M.zN,M.J6,M.zT,M.Ky,this.1,this.2,ah,ab6]
 rw[aP (by omega) (by omega)]
 cases quoted s a 47==a+2<;>simp
end
end Go.Proofs.YtbpldgeajbfgnaaGreatDoor
namespace Go.Proofs.YtbpldgeajbfgnaaGreatDoor
set_option linter.unusedVariables false
set_option linter.unusedSimpArgs false
set_option linter.unusedSectionVars false
open Go Go.Vm
@[simp] theorem KQ(l:List (aF)):(encS l).length=l.length:=by simp[encS]
@[simp] theorem RQ(l:List (aF))(i:Nat):(encS l)[i]? =(l[i]?).map fun s=>[D.str s]:=by simp[encS]
theorem cS0(s:aF):cStr [D.str s] 0=some s:=rfl
def strsOf:Row→List (aF)
 |[]=>[]
 | .str s::r=>s::strsOf r
 |_::r=>strsOf r
def RS:List (aF):=strsOf zG
def Pg:List (aF):=strsOf MR
def alb:List (aF):=strsOf GV
def KR(s:aF):List (aF)→Int→Int
 |[],_=> -1
 |x::l,i=>if x==s then i else KR s l (i+1)
theorem YW(s:aF):∀(l:List (aF)) (i:Int),0≤i→ -1≤KR s l i∧KR s l i<i+l.length
 |[],i,h=>by simp[KR];omega
 |x::l,i,h=>by
  rw[KR]
  split
  ·simp;omega
  ·have:=YW s l (i+1) (by omega)
   simp only[List.length_cons]
   omega
theorem aec(s:aF)(l:List (aF))(hl:l.length≤1048576){b:Int→Option (Int⊕(Int⊕Int))}
  (hb:∀(i:Nat) x,l[i]? =some x→b (i:Int)=some (if x==s then .inr (.inl (i:Int)) else .inl ((i:Int)+1))) (he:b (l.length:Int)=some (.inr (.inr (l.length:Int)))):
  ∃r,iR b 0=some r∧(xZ r some fun u=>letE u fun _=>some (-1))=some (KR s l 0):=by
 have key:∀(t:List (aF)) (i:Nat),l.drop i=t→i≤l.length→∃r,iR b (i:Int)=some r∧(xZ r some fun u=>letE u fun _=>some (-1))=some (KR s t (i:Int)):=by
  intro t
  induction t with
  |nil=>
   intro i hd hi
   have:i=l.length:=by
    have:=congrArg List.length hd
    simp at this
    omega
   subst this
   exact⟨_,iW he,rfl⟩
  |cons x t ih=>
   intro i hd hi
   have hx:l[i]? =some x:=by
    have:(l.drop i)[0]? =some x:=by rw[hd];rfl
    simpa using this
   have hlt:i<l.length:=(List.getElem?_eq_some_iff.1 hx).1
   have hd':l.drop (i+1)=t:=by
    rw[←List.drop_drop,hd]
    rfl
   have hs:=hb i x hx
   rw[KR]
   cases hxs:x==s with
   |true=>
    rw[hxs] at hs
    exact⟨_,iW hs,rfl⟩
   |false=>
    rw[hxs] at hs
    obtain⟨r,h1,h2⟩:=ih (i+1) hd' hlt
    refine⟨r, ?_, ?_⟩
    ·rw[jU hs,show(i:Int)+1=((i+1:Nat):Int) by omega]
     exact h1
    ·rw[h2]
     simp
 exact key l 0 rfl (Nat.zero_le _)
theorem aed(s:aF)(l:List (aF))(hl:l.length≤1048576):M.uf (encS l) s=some (KR s l 0):=by
 obtain⟨r,h1,h2⟩:=aec s l hl (b:=M.DY (encS l) s)
  (fun i x hx=>by
   have hi:=(List.getElem?_eq_some_iff.1 hx).1
   simp only[M.DY,M.yO,KQ,fG,RQ,hx,Option.map_some,ah,cS0]
   rw[decide_eq_true (by omega),cond_true,aP (by omega) (by omega)]
   cases x==s<;>rfl)
  (by
   simp only[M.DY,M.yO,KQ]
   rw[decide_eq_false (by omega),cond_false])
 simp only[M.uf,M.JY,M.Ia]
 rw[h1,ah]
 exact h2
theorem ab7(s:aF)(l:List (aF))(hl:l.length≤1048576):M.slices_Index (encS l) s=some (KR s l 0):=by
 obtain⟨r,h1,h2⟩:=aec s l hl (b:=M.Ci (encS l) s (l.length:Int))
  (fun i x hx=>by
   have hi:=(List.getElem?_eq_some_iff.1 hx).1
   simp only[M.Ci,M.xA,fG,RQ,hx,Option.map_some,ah,cS0]
   rw[decide_eq_true (by omega),cond_true,aP (by omega) (by omega),show(s==x)=(x==s) by rw[Bool.eq_iff_iff,beq_iff_eq,beq_iff_eq];exact⟨Eq.symm,Eq.symm⟩]
   cases x==s<;>rfl)
  (by
   simp only[M.Ci,M.xA]
   rw[decide_eq_false (by omega),cond_false])
 simp only[M.slices_Index,M.IC,M.FM,KQ]
 rw[h1,ah]
 exact h2
def asv(s:aF):Int:=if KR s RS 0<0 then 0 else 10+KR s RS 0
def YX(s:aF):Bool:=decide (KR s alb 0≥0)
theorem alc:M.tH=some (encS RS):=rfl
theorem ald:M.sQ=some (encS alb):=rfl
theorem ale:M.tJ=some (encS Pg):=rfl
theorem ayn:List.map (fun x=>[x]) zG=encS RS:=rfl
theorem auv:List.map (fun x=>[x]) GV=encS alb:=rfl
theorem afm(s:aF):M.rF s=some (asv s)∧M.rH s=some (asv s):=by
 have hr:=YW s RS 0 (by omega)
 have hl:RS.length=17:=rfl
 simp only[M.rF,M.DZ,M.rH,M.Ee,alc,ayn,ah,aed s RS (by rw[hl];omega),ab7 s RS (by rw[hl];omega),asv]
 by_cases h:KR s RS 0<0
 ·rw[decide_eq_true h,cond_true,if_pos h]
  exact⟨rfl,rfl⟩
 ·rw[decide_eq_false h,cond_false,if_neg h,aP (by omega) (by omega)]
  exact⟨rfl,rfl⟩
theorem dW(s:aF):M.kG s=some (YX s)∧M.lq s=some (YX s):=by
 have hl:alb.length=21:=rfl
 simp only[M.kG,M.D5,M.lq,M.Ef,M.slices_Contains,M.xB,ald,auv,ah,aed s alb (by rw[hl];omega),ab7 s alb (by rw[hl];omega),YX]
 constructor<;>first|rfl|trivial
def isL(b:Int):Bool:=(decide (b≥97) && decide (b≤122))||((decide (b≥65) && decide (b≤90))||(b==95))
def isW(b:Int):Bool:=isL b||isD b
theorem YZ(b:Int):M.nY b=some (isL b)∧M.oq b=some (isL b):=by
 simp only[M.nY,M.Fb,M.dL,M.wV,M.oq,M.FK,isL]
 cases decide (b≥97)<;>cases decide (b≤122)<;>cases decide (b≥65)<;>cases decide (b≤90)<;>cases(b==95)<;>exact⟨rfl,rfl⟩
theorem KH(b:Int):M.jK b=some (isW b)∧M.jL b=some (isW b):=by
 simp only[M.jK,M.BR,M.jL,M.Cc,YZ,ak9,ala,ah,isW]
 cases isL b<;>cases isD b<;>exact⟨rfl,rfl⟩
def asw(s:aF):Bool:=s.all fun c=>isW (c.toNat:Int)
def aTg:aF→Bool
 |[]=>false
 |c::_=>isL (c.toNat:Int)
def Ph(s:aF):Bool:=asw s &&((decide ((s.length:Int)≥1) && decide ((s.length:Int)≤12)) && aTg s)
theorem ab8(s:aF){b:Int→Option (Int⊕(Unit⊕Int))}
  (hb:∀(i:Nat) c,s[i]? =some c→b (i:Int)=some (bif isW (c.toNat:Int) then .inl ((i:Int)+1) else .inr (.inl ()))) (he:b (s.length:Int)=some (.inr (.inr (s.length:Int)))):
  iR b 0=some (bif asw s then .inr (s.length:Int) else .inl ()):=by
 have key:∀(t:aF) (i:Nat),s.drop i=t→i≤s.length→iR b (i:Int)=some (bif asw t then .inr (s.length:Int) else .inl ()):=by
  intro t
  induction t with
  |nil=>
   intro i hd hi
   have:i=s.length:=by
    have:=congrArg List.length hd
    simp at this
    omega
   subst this
   exact iW he
  |cons x t ih=>
   intro i hd hi
   have hx:s[i]? =some x:=by
    have:(s.drop i)[0]? =some x:=by rw[hd];rfl
    simpa using this
   have hlt:i<s.length:=(List.getElem?_eq_some_iff.1 hx).1
   have hd':s.drop (i+1)=t:=by
    rw[←List.drop_drop,hd]
    rfl
   have hs:=hb i x hx
   rw[asw,List.all_cons]
   cases hw:isW (x.toNat:Int) with
   |true=>
    rw[hw,cond_true] at hs
    rw[jU hs,show(i:Int)+1=((i+1:Nat):Int) by omega,ih (i+1) hd' hlt,Bool.true_and]
    rfl
   |false=>
    rw[hw,cond_false] at hs
    rw[iW hs]
    rfl
 exact key s 0 rfl (Nat.zero_le _)
theorem afn(s:aF)(h:s.length≤1048576):M.rE s=some (Ph s)∧M.rG s=some (Ph s):=by
 have hw:∀c:UInt8,IntKind.i64.wrap ((c.toNat:Nat):Int)=(c.toNat:Int):=fun c=>by have:=ak8 c;exact aP (by omega) (by omega)
 have h1:=ab8 s (b:=M.yF s)
  (fun i c hc=>by
   have hi:=(List.getElem?_eq_some_iff.1 hc).1
   simp only[M.yF,M.sU,fG,hc,ah,hw,KH]
   rw[decide_eq_true (by omega),cond_true,aP (by omega) (by omega)]
   cases isW (c.toNat:Int)<;>rfl)
  (by
   simp only[M.yF,M.sU]
   rw[decide_eq_false (by omega),cond_false])
 have h2:=ab8 s (b:=M.yG s (s.length:Int))
  (fun i c hc=>by
   have hi:=(List.getElem?_eq_some_iff.1 hc).1
   simp only[M.yG,M.sV,fG,hc,ah,hw,KH]
   rw[decide_eq_true (by omega),cond_true,aP (by omega) (by omega)]
   cases isW (c.toNat:Int)<;>rfl)
  (by
   simp only[M.yG,M.sV]
   rw[decide_eq_false (by omega),cond_false])
 simp only[M.rE,M.DX,M.rG,M.Ed,M.BU,M.Ce,M.dL,M.wV,M.dV,M.yA]
 rw[h1,h2,ah,ah,Ph]
 cases asw s with
 |false=>exact⟨rfl,rfl⟩
 |true=>
  simp only[cond_true,xZ,letE,Bool.true_and]
  cases s with
  |nil=>exact⟨rfl,rfl⟩
  |cons c l=>
   have hi:idx (c::l) 0=some c:=rfl
   simp only[hi,ah,hw,YZ]
   cases decide (((c::l).length:Int)≥1)<;>cases decide (((c::l).length:Int)≤12)<;>exact⟨rfl,rfl⟩
def I5(s:aF):Bool:=Ph s &&((asv s==0) && !(YX s))
theorem cZ(s:aF)(h:s.length≤1048576):M.ig s=some (I5 s)∧M.jE s=some (I5 s):=by
 have h1:=afn s h
 simp only[M.ig,M.JZ,M.jE,M.Kt,h1.1,h1.2,afm,dW,ah,I5]
 cases Ph s<;>cases asv s==0<;>cases YX s<;>exact⟨rfl,rfl⟩
end Go.Proofs.YtbpldgeajbfgnaaGreatDoor
namespace Go.Proofs.YtbpldgeajbfgnaaGreatDoor
set_option linter.unusedVariables false
set_option linter.unusedSimpArgs false
set_option linter.unusedSectionVars false
open Go Go.Vm
theorem aIF(c:UInt8)(n:Nat)(h:n<256):(((c.toNat:Nat):Int)==(n:Int))=(c==UInt8.ofNat n):=by
 rw[Bool.eq_iff_iff,beq_iff_eq,beq_iff_eq]
 constructor
 ·intro e
  apply UInt8.toNat_inj.1
  rw[UInt8.toNat_ofNat',Nat.mod_eq_of_lt h]
  omega
 ·rintro rfl
  rw[UInt8.toNat_ofNat',Nat.mod_eq_of_lt h]
def hasB(c:UInt8)(s:aF):Bool:=s.any (· ==c)
theorem aoQ(s:aF)(c:UInt8):decide (0≤Lib.indexByte s c)=hasB c s:=by
 have hge:=Lib.indexByte_ge s c
 rw[Bool.eq_iff_iff,decide_eq_true_eq,hasB,List.any_eq_true]
 constructor
 ·intro h
  obtain⟨i,hi⟩:∃i:Nat,Lib.indexByte s c=i:=⟨(Lib.indexByte s c).toNat,by omega⟩
  exact⟨c,List.mem_of_getElem? (Lib.indexByte_some hi).1,by simp⟩
 ·rintro⟨x,hx,hc⟩
  have:=beq_iff_eq.1 hc
  subst this
  rcases Int.lt_or_le (Lib.indexByte s x) 0 with h|h
  ·obtain⟨i,hi⟩:=List.mem_iff_getElem?.1 hx
   exact absurd hi (Lib.indexByte_none (by omega) i)
  ·exact h
theorem asx(s:aF)(h:s.length≤1048576):M.wG s=some (!(hasB 10 s)):=by
 have key:∀(t:aF) (i:Nat),s.drop i=t→i≤s.length→iR (M.wZ s) (i:Int)=some (bif hasB 10 t then .inl () else .inr (s.length:Int)):=by
  intro t
  induction t with
  |nil=>
   intro i hd hi
   have:i=s.length:=by
    have:=congrArg List.length hd
    simp at this
    omega
   subst this
   refine iW ?_
   simp only[M.wZ,M.wY]
   rw[decide_eq_false (by omega),cond_false]
   rfl
  |cons x t ih=>
   intro i hd hi
   have hx:s[i]? =some x:=by
    have:(s.drop i)[0]? =some x:=by rw[hd];rfl
    simpa using this
   have hlt:i<s.length:=(List.getElem?_eq_some_iff.1 hx).1
   have hd':s.drop (i+1)=t:=by
    rw[←List.drop_drop,hd]
    rfl
   have hs:M.wZ s (i:Int)=some (bif x==10 then .inr (.inl ()) else .inl ((i:Int)+1)):=by
    simp only[M.wZ,M.wY,fG,hx,ah]
    rw[decide_eq_true (by omega),cond_true,show(10:Int)=((10:Nat):Int) from rfl,aIF _ _ (by omega),aP (by omega) (by omega),show(x==UInt8.ofNat 10)=(x==10) from rfl]
    cases x==10<;>rfl
   rw[hasB,List.any_cons]
   cases hc:x==10 with
   |true=>
    rw[hc,cond_true] at hs
    rw[iW hs]
    rfl
   |false=>
    rw[hc,cond_false] at hs
    rw[jU hs,show(i:Int)+1=((i+1:Nat):Int) by omega,ih (i+1) hd' hlt,Bool.false_or]
    rfl
 have:=key s 0 rfl (Nat.zero_le _)
 rw[qH] at this
 simp only[M.wG,M.Ic,M.Fe]
 rw[this,ah]
 cases hasB 10 s<;>rfl
theorem auw:∀i,i<17→cStr zG i=RS[i]? :=by decide+kernel
theorem anA:∀i,i<39→cStr MR i=Pg[i]? :=by decide+kernel
def spell(k:Int):aF:=if k=1 then[10] else if 10≤k∧k≤26 then RS[(k - 10).toNat]?.getD [] else if 30≤k∧k≤68 then Pg[(k - 30).toNat]?.getD [] else[]
theorem lT(k:Int)(hk:I64 k):M.jl k=some (spell k)∧M.iy k=some (spell k):=by
 have l1:RS.length=17:=rfl
 have l2:Pg.length=39:=rfl
 simp only[M.jl,M.Ie,M.iy,M.IE,M.nK,M.xC,M.iH,M.xE,M.dV,M.yA,M.dL,M.wV,alc,ale,ah,spell]
 by_cases h1:k=1
 ·subst h1
  exact⟨rfl,rfl⟩
 ·rw[show(k==1)=false by simpa using h1,cond_false,cond_false,if_neg h1]
  by_cases h2:10≤k∧k≤26
  ·obtain⟨i,hi⟩:∃i:Nat,k=10+i:=⟨(k - 10).toNat,by omega⟩
   have hw:IntKind.i64.wrap (k - 10)=(i:Int):=by rw[aP (by omega) (by omega)];omega
   obtain⟨x,hx⟩:∃x,RS[i]? =some x:=⟨RS[i]'(by omega),by simp⟩
   rw[if_pos h2,decide_eq_true (show k≥10 by omega),cond_true,decide_eq_true (show k≤26 by omega),hw,decide_eq_true (show(0:Int)≤(i:Int) by omega),decide_eq_true (show(i:Int)<17 by omega)]
   simp only[ah,cond_true,fG,Int.toNat_natCast,RQ,hx,Option.map_some,cS0,Bool.and_self,Nat.zero_add,Nat.mul_one,auw i (by omega)]
   rw[show(k - 10).toNat=i by omega,hx]
   exact⟨rfl,rfl⟩
  ·have hf:(bif decide (k≥10) then some (decide (k≤26)) else some false)=some false:=by
    by_cases h3:k≥10
    ·rw[decide_eq_true h3,cond_true,decide_eq_false (by omega)]
    ·rw[decide_eq_false h3,cond_false]
   rw[if_neg h2,hf]
   simp only[ah,cond_false]
   by_cases h4:30≤k∧k≤68
   ·obtain⟨i,hi⟩:∃i:Nat,k=30+i:=⟨(k - 30).toNat,by omega⟩
    have hw:IntKind.i64.wrap (k - 30)=(i:Int):=by rw[aP (by omega) (by omega)];omega
    obtain⟨x,hx⟩:∃x,Pg[i]? =some x:=⟨Pg[i]'(by omega),by simp⟩
    rw[if_pos h4,decide_eq_true (show k≥30 by omega),cond_true,decide_eq_true (show k≤68 by omega),hw,decide_eq_true (show(0:Int)≤(i:Int) by omega),decide_eq_true (show(i:Int)<39 by omega)]
    simp only[ah,cond_true,fG,Int.toNat_natCast,RQ,hx,Option.map_some,cS0,Bool.and_self,Nat.zero_add,Nat.mul_one,anA i (by omega)]
    rw[show(k - 30).toNat=i by omega,hx]
    exact⟨rfl,rfl⟩
   ·have hf:(bif decide (k≥30) then some (decide (k≤68)) else some false)=some false:=by
     by_cases h3:k≥30
     ·rw[decide_eq_true h3,cond_true,decide_eq_false (by omega)]
     ·rw[decide_eq_false h3,cond_false]
    rw[if_neg h4,hf]
    exact⟨rfl,rfl⟩
def Qb(k:Int)(s:aF):Bool:=bif s==[] then false else
 bif k==2 then(Mc s 0==35) && !(hasB 10 s) else bif k==3 then ab3 s 0==(s.length:Int) else bif k==4 then quoted s 0 34==(s.length:Int) else bif k==5 then ab6 s 0==(s.length:Int) else
 bif k==6 then I5 s else bif k==7 then I5 s else bif k==8 then YX s else s==spell k
theorem fK(k:Int)(s:aF)(a:Int)(h:s.length≤1048576)(hk:I64 k):M.kU k s a=some (Qb k s)∧M.ny k s a=some (Qb k s):=by
 have hn:=cZ s h
 have hb:=dW s
 have hst:=aoO h 0 (by omega) (by omega)
 have her:=aoP h 0 (by omega) (by omega)
 have hsp:=lT k hk
 have hct:M.strings_Contains s [10]=some (hasB 10 s):=by rw[M.strings_Contains,aoQ]
 simp only[M.kU,M.Ig,M.ny,M.IG,hn.1,hn.2,hb.1,hb.2,hst.1,hst.2,her.1,her.2,hsp.1,hsp.2,hct,asx s h,ab5 h 0 (by omega),ab4 h 0 (by omega),ah,Qb]
 cases s with
 |nil=>
  refine⟨?_,rfl⟩
  have q1:I5 []=false:=rfl
  have q2:YX []=false:=rfl
  have q3:(quoted [] 0 34==(([]:aF).length:Int))=false:=rfl
  have q4:(ab6 [] 0==(([]:aF).length:Int))=false:=rfl
  rw[q1,q2,q3,q4]
  cases k==2<;>cases k==3<;>cases k==4<;>cases k==5<;>cases k==6<;>cases k==7<;>cases k==8<;>rfl
 |cons c l=>
  have hi:idx (c::l) 0=some c:=rfl
  have hb0:Mc (c::l) 0=(c.toNat:Int):=rfl
  have hne:((c::l:aF)==[])=false:=rfl
  have hgt:decide (((c::l).length:Int)>0)=true:=by simp
  have hsw:(spell k==c::l)=(c::l==spell k):=by rw[Bool.eq_iff_iff,beq_iff_eq,beq_iff_eq];exact⟨Eq.symm,Eq.symm⟩
  rw[hi,hb0,hne,hgt,hsw]
  simp only[ah,cond_true,cond_false,Bool.not_false]
  cases k==2<;>cases k==3<;>cases k==4<;>cases k==5<;>cases k==6<;>cases k==7<;>cases k==8<;>cases(c.toNat:Int)==35<;>exact⟨rfl,rfl⟩
end Go.Proofs.YtbpldgeajbfgnaaGreatDoor
namespace Go.Proofs.YtbpldgeajbfgnaaGreatDoor
set_option linter.unusedVariables false
set_option linter.unusedSimpArgs false
set_option linter.unusedSectionVars false
open Go Go.Vm
theorem aX(x a b:Int):M.dL x a b=some (decide (x≥a) && decide (x≤b)):=by
 simp only[M.dL,M.wV]
 cases decide (x≥a)<;>rfl
theorem aN(x a b:Int):M.dV x a b=some (decide (x≥a) && decide (x≤b)):=aX x a b
def ab9(op:Int):Bool:=op==60||op==57||op==58||op==59||op==55||op==56||op==99||op==63||op==48||op==47||op==50||op==62||op==49||op==67||op==46||op==45||op==44
theorem dH(op:Int):M.wF op=some (ab9 op)∧∃lv,M.lJ op=some lv∧(lv !=0)=ab9 op:=by
 by_cases h44:op=44
 ·subst h44;exact⟨rfl,_,rfl,rfl⟩
 have e44:(op==44)=false:=by simpa using h44
 by_cases h45:op=45
 ·subst h45;exact⟨rfl,_,rfl,rfl⟩
 have e45:(op==45)=false:=by simpa using h45
 by_cases h67:op=67
 ·subst h67;exact⟨rfl,_,rfl,rfl⟩
 have e67:(op==67)=false:=by simpa using h67
 by_cases h46:op=46
 ·subst h46;exact⟨rfl,_,rfl,rfl⟩
 have e46:(op==46)=false:=by simpa using h46
 by_cases h63:op=63
 ·subst h63;exact⟨rfl,_,rfl,rfl⟩
 have e63:(op==63)=false:=by simpa using h63
 by_cases h48:op=48
 ·subst h48;exact⟨rfl,_,rfl,rfl⟩
 have e48:(op==48)=false:=by simpa using h48
 by_cases h47:op=47
 ·subst h47;exact⟨rfl,_,rfl,rfl⟩
 have e47:(op==47)=false:=by simpa using h47
 by_cases h50:op=50
 ·subst h50;exact⟨rfl,_,rfl,rfl⟩
 have e50:(op==50)=false:=by simpa using h50
 by_cases h62:op=62
 ·subst h62;exact⟨rfl,_,rfl,rfl⟩
 have e62:(op==62)=false:=by simpa using h62
 by_cases h49:op=49
 ·subst h49;exact⟨rfl,_,rfl,rfl⟩
 have e49:(op==49)=false:=by simpa using h49
 by_cases h99:op=99
 ·subst h99;exact⟨rfl,_,rfl,rfl⟩
 have e99:(op==99)=false:=by simpa using h99
 by_cases h55:op=55
 ·subst h55;exact⟨rfl,_,rfl,rfl⟩
 have e55:(op==55)=false:=by simpa using h55
 by_cases h56:op=56
 ·subst h56;exact⟨rfl,_,rfl,rfl⟩
 have e56:(op==56)=false:=by simpa using h56
 by_cases h57:op=57
 ·subst h57;exact⟨rfl,_,rfl,rfl⟩
 have e57:(op==57)=false:=by simpa using h57
 by_cases h58:op=58
 ·subst h58;exact⟨rfl,_,rfl,rfl⟩
 have e58:(op==58)=false:=by simpa using h58
 by_cases h59:op=59
 ·subst h59;exact⟨rfl,_,rfl,rfl⟩
 have e59:(op==59)=false:=by simpa using h59
 by_cases h60:op=60
 ·subst h60;exact⟨rfl,_,rfl,rfl⟩
 have e60:(op==60)=false:=by simpa using h60
 simp only[M.wF,M.H8,M.lJ,M.Dt,ab9,e44,e45,e67,e46,e63,e48,e47,e50,e62,e49,e99,e55,e56,e57,e58,e59,e60,cond_false,Bool.or_self]
 exact⟨trivial,0,rfl,rfl⟩
def acd(op:Int):Bool:=op==54||(decide (op≥38) && decide (op≤43))
theorem bn(op:Int):M.pW op=some (acd op)∧M.um op=some (acd op):=by
 simp only[M.pW,M.BQ,M.um,M.FN,aX,aN,ah,acd]
 cases op==54<;>exact⟨rfl,rfl⟩
theorem RU(s:aF)(l:List (aF))(hl:l.length≤1048576):M.slices_Contains (encS l) s=some (decide (KR s l 0≥0)):=by
 simp only[M.slices_Contains,M.xB,ab7 s l hl,ah]
theorem BG:([[D.str []],[D.str [62]],[D.str [62,62]],[D.str [124]]]:ak)=encS [[],[62],[62,62],[124]]:=rfl
theorem Ve(s:aF):decide (KR s [[],[62],[62,62],[124]] 0≥0)=(s==[]||(s==[62]||(s==[62,62]||s==[124]))):=by
 have sw:∀a b:aF,(a==b)=(b==a):=fun a b=>by rw[Bool.eq_iff_iff,beq_iff_eq,beq_iff_eq];exact⟨Eq.symm,Eq.symm⟩
 simp only[KR,sw _ s]
 cases s==[]<;>cases s==[62]<;>cases s==[62,62]<;>cases s==[124]<;>rfl
def zA(k op:Int)(t o:aF)(kids:ak):Prop:=∃b,M.ay k op t o kids=some b∧M.bM k op t o kids=some b
theorem aTh(op:Int)(t o:aF)(kids:ak)(ht:t.length≤1048576)(ho:o.length≤1048576)(hk:kids.length≤400):zA 1 op t o kids:=by
 have hn:=cZ t ht
 have hn2:=cZ o ho
 have hb:=dW t
 have ha:=bn op
 obtain⟨hi,lv,hlv,hi2⟩:=dH op
 have tk:=fun k hk=>fK k t 0 ht hk
 simp only[zA,M.ay,M.aC,M.aQ,M.aH,M.aW,M.aU,M.aS,M.aI,M.bM,M.bf,M.bK,M.bW,M.cO,M.bY,M.bQ,M.bF,M.bT,M.bG,M.bU,M.bH,M.dA,M.cu,aX,aN,hn.1,hn.2,hn2.1,hn2.2,hb.1,hb.2,ha.1,ha.2,hi,hlv,hi2,ge_iff_le,Int.reduceBEq,Int.reduceLE,Int.reduceSub,decide_true,decide_false,cond_true,cond_false,Bool.and_true,Bool.and_false,Bool.true_and,Bool.false_and,ah]
 generalize (op==0)=a0
 generalize (I5 t)=a1
 generalize (o==[])=a2
 cases a0<;>cases a1<;>cases a2<;>exact⟨_,rfl,rfl⟩
theorem aTi(op:Int)(t o:aF)(kids:ak)(ht:t.length≤1048576)(ho:o.length≤1048576)(hk:kids.length≤400):zA 2 op t o kids:=by
 have hn:=cZ t ht
 have hn2:=cZ o ho
 have hb:=dW t
 have ha:=bn op
 obtain⟨hi,lv,hlv,hi2⟩:=dH op
 have tk:=fun k hk=>fK k t 0 ht hk
 have tk3:=tk 3 ⟨by omega,by omega⟩
 have hc:dn IntKind.i64 [D.int IntKind.i64 3,D.int IntKind.i64 4,D.int IntKind.i64 5] (IntKind.i64.wrap 0).toNat=some 3:=rfl
 have d1:decide ((0:Int)≤IntKind.i64.wrap 0)=true:=rfl
 have d2:decide (IntKind.i64.wrap 0<3)=true:=rfl
 simp only[zA,M.ay,M.aC,M.aQ,M.aH,M.aW,M.aU,M.aS,M.aI,M.bM,M.bf,M.bK,M.bW,M.cO,M.bY,M.bQ,M.bF,M.bT,M.bG,M.bU,M.bH,M.dA,M.cu,aX,aN,hn.1,hn.2,hn2.1,hn2.2,hb.1,hb.2,ha.1,ha.2,hi,hlv,hi2,tk3.1,tk3.2,hc,d1,d2,ge_iff_le,Int.reduceBEq,Int.reduceLE,Int.reduceSub,decide_true,decide_false,cond_true,cond_false,Bool.and_true,Bool.and_false,Bool.true_and,Bool.false_and,ah]
 generalize (op==0)=a0
 generalize (Qb 3 t)=a1
 generalize (o==[])=a2
 cases a0<;>cases a1<;>cases a2<;>exact⟨_,rfl,rfl⟩
theorem aTj(op:Int)(t o:aF)(kids:ak)(ht:t.length≤1048576)(ho:o.length≤1048576)(hk:kids.length≤400):zA 3 op t o kids:=by
 have hn:=cZ t ht
 have hn2:=cZ o ho
 have hb:=dW t
 have ha:=bn op
 obtain⟨hi,lv,hlv,hi2⟩:=dH op
 have tk:=fun k hk=>fK k t 0 ht hk
 have tk4:=tk 4 ⟨by omega,by omega⟩
 have hc:dn IntKind.i64 [D.int IntKind.i64 3,D.int IntKind.i64 4,D.int IntKind.i64 5] (IntKind.i64.wrap 1).toNat=some 4:=rfl
 have d1:decide ((0:Int)≤IntKind.i64.wrap 1)=true:=rfl
 have d2:decide (IntKind.i64.wrap 1<3)=true:=rfl
 simp only[zA,M.ay,M.aC,M.aQ,M.aH,M.aW,M.aU,M.aS,M.aI,M.bM,M.bf,M.bK,M.bW,M.cO,M.bY,M.bQ,M.bF,M.bT,M.bG,M.bU,M.bH,M.dA,M.cu,aX,aN,hn.1,hn.2,hn2.1,hn2.2,hb.1,hb.2,ha.1,ha.2,hi,hlv,hi2,tk4.1,tk4.2,hc,d1,d2,ge_iff_le,Int.reduceBEq,Int.reduceLE,Int.reduceSub,decide_true,decide_false,cond_true,cond_false,Bool.and_true,Bool.and_false,Bool.true_and,Bool.false_and,ah]
 generalize (op==0)=a0
 generalize (Qb 4 t)=a1
 generalize (o==[])=a2
 cases a0<;>cases a1<;>cases a2<;>exact⟨_,rfl,rfl⟩
theorem aTk(op:Int)(t o:aF)(kids:ak)(ht:t.length≤1048576)(ho:o.length≤1048576)(hk:kids.length≤400):zA 4 op t o kids:=by
 have hn:=cZ t ht
 have hn2:=cZ o ho
 have hb:=dW t
 have ha:=bn op
 obtain⟨hi,lv,hlv,hi2⟩:=dH op
 have tk:=fun k hk=>fK k t 0 ht hk
 have tk5:=tk 5 ⟨by omega,by omega⟩
 have hc:dn IntKind.i64 [D.int IntKind.i64 3,D.int IntKind.i64 4,D.int IntKind.i64 5] (IntKind.i64.wrap 2).toNat=some 5:=rfl
 have d1:decide ((0:Int)≤IntKind.i64.wrap 2)=true:=rfl
 have d2:decide (IntKind.i64.wrap 2<3)=true:=rfl
 simp only[zA,M.ay,M.aC,M.aQ,M.aH,M.aW,M.aU,M.aS,M.aI,M.bM,M.bf,M.bK,M.bW,M.cO,M.bY,M.bQ,M.bF,M.bT,M.bG,M.bU,M.bH,M.dA,M.cu,aX,aN,hn.1,hn.2,hn2.1,hn2.2,hb.1,hb.2,ha.1,ha.2,hi,hlv,hi2,tk5.1,tk5.2,hc,d1,d2,ge_iff_le,Int.reduceBEq,Int.reduceLE,Int.reduceSub,decide_true,decide_false,cond_true,cond_false,Bool.and_true,Bool.and_false,Bool.true_and,Bool.false_and,ah]
 generalize (op==0)=a0
 generalize (Qb 5 t)=a1
 generalize (o==[])=a2
 cases a0<;>cases a1<;>cases a2<;>exact⟨_,rfl,rfl⟩
theorem aTl(op:Int)(t o:aF)(kids:ak)(ht:t.length≤1048576)(ho:o.length≤1048576)(hk:kids.length≤400):zA 5 op t o kids:=by
 have hn:=cZ t ht
 have hn2:=cZ o ho
 have hb:=dW t
 have ha:=bn op
 obtain⟨hi,lv,hlv,hi2⟩:=dH op
 have tk:=fun k hk=>fK k t 0 ht hk
 simp only[zA,M.ay,M.aC,M.aQ,M.aH,M.aW,M.aU,M.aS,M.aI,M.bM,M.bf,M.bK,M.bW,M.cO,M.bY,M.bQ,M.bF,M.bT,M.bG,M.bU,M.bH,M.dA,M.cu,aX,aN,hn.1,hn.2,hn2.1,hn2.2,hb.1,hb.2,ha.1,ha.2,hi,hlv,hi2,ge_iff_le,Int.reduceBEq,Int.reduceLE,Int.reduceSub,decide_true,decide_false,cond_true,cond_false,Bool.and_true,Bool.and_false,Bool.true_and,Bool.false_and,ah]
 generalize (op==0)=a0
 generalize (I5 t)=a1
 generalize (o==[])=a2
 cases a0<;>cases a1<;>cases a2<;>exact⟨_,rfl,rfl⟩
theorem aTm(op:Int)(t o:aF)(kids:ak)(ht:t.length≤1048576)(ho:o.length≤1048576)(hk:kids.length≤400):zA 6 op t o kids:=by
 have hn:=cZ t ht
 have hn2:=cZ o ho
 have hb:=dW t
 have ha:=bn op
 obtain⟨hi,lv,hlv,hi2⟩:=dH op
 have tk:=fun k hk=>fK k t 0 ht hk
 simp only[zA,M.ay,M.aC,M.aQ,M.aH,M.aW,M.aU,M.aS,M.aI,M.bM,M.bf,M.bK,M.bW,M.cO,M.bY,M.bQ,M.bF,M.bT,M.bG,M.bU,M.bH,M.dA,M.cu,aX,aN,hn.1,hn.2,hn2.1,hn2.2,hb.1,hb.2,ha.1,ha.2,hi,hlv,hi2,ge_iff_le,Int.reduceBEq,Int.reduceLE,Int.reduceSub,decide_true,decide_false,cond_true,cond_false,Bool.and_true,Bool.and_false,Bool.true_and,Bool.false_and,ah]
 generalize (op==0)=a0
 generalize (t==[])=a1
 generalize (o==[])=a2
 cases a0<;>cases a1<;>cases a2<;>exact⟨_,rfl,rfl⟩
theorem aTn(op:Int)(t o:aF)(kids:ak)(ht:t.length≤1048576)(ho:o.length≤1048576)(hk:kids.length≤400):zA 7 op t o kids:=by
 have hn:=cZ t ht
 have hn2:=cZ o ho
 have hb:=dW t
 have ha:=bn op
 obtain⟨hi,lv,hlv,hi2⟩:=dH op
 have tk:=fun k hk=>fK k t 0 ht hk
 simp only[zA,M.ay,M.aC,M.aQ,M.aH,M.aW,M.aU,M.aS,M.aI,M.bM,M.bf,M.bK,M.bW,M.cO,M.bY,M.bQ,M.bF,M.bT,M.bG,M.bU,M.bH,M.dA,M.cu,aX,aN,hn.1,hn.2,hn2.1,hn2.2,hb.1,hb.2,ha.1,ha.2,hi,hlv,hi2,ge_iff_le,Int.reduceBEq,Int.reduceLE,Int.reduceSub,decide_true,decide_false,cond_true,cond_false,Bool.and_true,Bool.and_false,Bool.true_and,Bool.false_and,ah]
 generalize (op==0)=a0
 generalize (I5 t)=a1
 generalize (o==[])=a2
 cases a0<;>cases a1<;>cases a2<;>exact⟨_,rfl,rfl⟩
theorem aTo(op:Int)(t o:aF)(kids:ak)(ht:t.length≤1048576)(ho:o.length≤1048576)(hk:kids.length≤400):zA 8 op t o kids:=by
 have hn:=cZ t ht
 have hn2:=cZ o ho
 have hb:=dW t
 have ha:=bn op
 obtain⟨hi,lv,hlv,hi2⟩:=dH op
 have tk:=fun k hk=>fK k t 0 ht hk
 simp only[zA,M.ay,M.aC,M.aQ,M.aH,M.aW,M.aU,M.aS,M.aI,M.bM,M.bf,M.bK,M.bW,M.cO,M.bY,M.bQ,M.bF,M.bT,M.bG,M.bU,M.bH,M.dA,M.cu,aX,aN,hn.1,hn.2,hn2.1,hn2.2,hb.1,hb.2,ha.1,ha.2,hi,hlv,hi2,ge_iff_le,Int.reduceBEq,Int.reduceLE,Int.reduceSub,decide_true,decide_false,cond_true,cond_false,Bool.and_true,Bool.and_false,Bool.true_and,Bool.false_and,ah]
 generalize (op==0)=a0
 generalize (YX t)=a1
 generalize (o==[])=a2
 cases a0<;>cases a1<;>cases a2<;>exact⟨_,rfl,rfl⟩
theorem aTp(op:Int)(t o:aF)(kids:ak)(ht:t.length≤1048576)(ho:o.length≤1048576)(hk:kids.length≤400):zA 9 op t o kids:=by
 have hn:=cZ t ht
 have hn2:=cZ o ho
 have hb:=dW t
 have ha:=bn op
 obtain⟨hi,lv,hlv,hi2⟩:=dH op
 have tk:=fun k hk=>fK k t 0 ht hk
 simp only[zA,M.ay,M.aC,M.aQ,M.aH,M.aW,M.aU,M.aS,M.aI,M.bM,M.bf,M.bK,M.bW,M.cO,M.bY,M.bQ,M.bF,M.bT,M.bG,M.bU,M.bH,M.dA,M.cu,aX,aN,hn.1,hn.2,hn2.1,hn2.2,hb.1,hb.2,ha.1,ha.2,hi,hlv,hi2,ge_iff_le,Int.reduceBEq,Int.reduceLE,Int.reduceSub,decide_true,decide_false,cond_true,cond_false,Bool.and_true,Bool.and_false,Bool.true_and,Bool.false_and,ah]
 generalize (op==51)=a0
 generalize (op==52)=a1
 generalize (t==[])=a2
 generalize (o==[])=a3
 cases a0<;>cases a1<;>cases a2<;>cases a3<;>exact⟨_,rfl,rfl⟩
theorem aIG(op:Int)(t o:aF)(kids:ak)(ht:t.length≤1048576)(ho:o.length≤1048576)(hk:kids.length≤400):zA 10 op t o kids:=by
 have hn:=cZ t ht
 have hn2:=cZ o ho
 have hb:=dW t
 have ha:=bn op
 obtain⟨hi,lv,hlv,hi2⟩:=dH op
 have tk:=fun k hk=>fK k t 0 ht hk
 simp only[zA,M.ay,M.aC,M.aQ,M.aH,M.aW,M.aU,M.aS,M.aI,M.bM,M.bf,M.bK,M.bW,M.cO,M.bY,M.bQ,M.bF,M.bT,M.bG,M.bU,M.bH,M.dA,M.cu,aX,aN,hn.1,hn.2,hn2.1,hn2.2,hb.1,hb.2,ha.1,ha.2,hi,hlv,hi2,ge_iff_le,Int.reduceBEq,Int.reduceLE,Int.reduceSub,decide_true,decide_false,cond_true,cond_false,Bool.and_true,Bool.and_false,Bool.true_and,Bool.false_and,ah]
 generalize (op==51)=a0
 generalize (op==52)=a1
 generalize (t==[])=a2
 generalize (o==[])=a3
 cases a0<;>cases a1<;>cases a2<;>cases a3<;>exact⟨_,rfl,rfl⟩
theorem aIH(op:Int)(t o:aF)(kids:ak)(ht:t.length≤1048576)(ho:o.length≤1048576)(hk:kids.length≤400):zA 11 op t o kids:=by
 have hn:=cZ t ht
 have hn2:=cZ o ho
 have hb:=dW t
 have ha:=bn op
 obtain⟨hi,lv,hlv,hi2⟩:=dH op
 have tk:=fun k hk=>fK k t 0 ht hk
 simp only[zA,M.ay,M.aC,M.aQ,M.aH,M.aW,M.aU,M.aS,M.aI,M.bM,M.bf,M.bK,M.bW,M.cO,M.bY,M.bQ,M.bF,M.bT,M.bG,M.bU,M.bH,M.dA,M.cu,aX,aN,hn.1,hn.2,hn2.1,hn2.2,hb.1,hb.2,ha.1,ha.2,hi,hlv,hi2,ge_iff_le,Int.reduceBEq,Int.reduceLE,Int.reduceSub,decide_true,decide_false,cond_true,cond_false,Bool.and_true,Bool.and_false,Bool.true_and,Bool.false_and,ah]
 generalize (op==55)=a0
 generalize (op==56)=a1
 generalize (op==61)=a2
 generalize (t==[])=a3
 generalize (o==[])=a4
 cases a0<;>cases a1<;>cases a2<;>cases a3<;>cases a4<;>exact⟨_,rfl,rfl⟩
theorem aII(op:Int)(t o:aF)(kids:ak)(ht:t.length≤1048576)(ho:o.length≤1048576)(hk:kids.length≤400):zA 12 op t o kids:=by
 have hn:=cZ t ht
 have hn2:=cZ o ho
 have hb:=dW t
 have ha:=bn op
 obtain⟨hi,lv,hlv,hi2⟩:=dH op
 have tk:=fun k hk=>fK k t 0 ht hk
 simp only[zA,M.ay,M.aC,M.aQ,M.aH,M.aW,M.aU,M.aS,M.aI,M.bM,M.bf,M.bK,M.bW,M.cO,M.bY,M.bQ,M.bF,M.bT,M.bG,M.bU,M.bH,M.dA,M.cu,aX,aN,hn.1,hn.2,hn2.1,hn2.2,hb.1,hb.2,ha.1,ha.2,hi,hlv,hi2,ge_iff_le,Int.reduceBEq,Int.reduceLE,Int.reduceSub,decide_true,decide_false,cond_true,cond_false,Bool.and_true,Bool.and_false,Bool.true_and,Bool.false_and,ah]
 generalize (ab9 op)=a0
 generalize (t==[])=a1
 generalize (o==[])=a2
 cases a0<;>cases a1<;>cases a2<;>exact⟨_,rfl,rfl⟩
theorem aIJ(op:Int)(t o:aF)(kids:ak)(ht:t.length≤1048576)(ho:o.length≤1048576)(hk:kids.length≤400):zA 13 op t o kids:=by
 have hn:=cZ t ht
 have hn2:=cZ o ho
 have hb:=dW t
 have ha:=bn op
 obtain⟨hi,lv,hlv,hi2⟩:=dH op
 have tk:=fun k hk=>fK k t 0 ht hk
 simp only[zA,M.ay,M.aC,M.aQ,M.aH,M.aW,M.aU,M.aS,M.aI,M.bM,M.bf,M.bK,M.bW,M.cO,M.bY,M.bQ,M.bF,M.bT,M.bG,M.bU,M.bH,M.dA,M.cu,aX,aN,hn.1,hn.2,hn2.1,hn2.2,hb.1,hb.2,ha.1,ha.2,hi,hlv,hi2,ge_iff_le,Int.reduceBEq,Int.reduceLE,Int.reduceSub,decide_true,decide_false,cond_true,cond_false,Bool.and_true,Bool.and_false,Bool.true_and,Bool.false_and,ah]
 generalize (op==0)=a0
 generalize (I5 t)=a1
 generalize (o==[])=a2
 cases a0<;>cases a1<;>cases a2<;>exact⟨_,rfl,rfl⟩
theorem aIK(op:Int)(t o:aF)(kids:ak)(ht:t.length≤1048576)(ho:o.length≤1048576)(hk:kids.length≤400):zA 14 op t o kids:=by
 have hn:=cZ t ht
 have hn2:=cZ o ho
 have hb:=dW t
 have ha:=bn op
 obtain⟨hi,lv,hlv,hi2⟩:=dH op
 have tk:=fun k hk=>fK k t 0 ht hk
 simp only[zA,M.ay,M.aC,M.aQ,M.aH,M.aW,M.aU,M.aS,M.aI,M.bM,M.bf,M.bK,M.bW,M.cO,M.bY,M.bQ,M.bF,M.bT,M.bG,M.bU,M.bH,M.dA,M.cu,aX,aN,hn.1,hn.2,hn2.1,hn2.2,hb.1,hb.2,ha.1,ha.2,hi,hlv,hi2,ge_iff_le,Int.reduceBEq,Int.reduceLE,Int.reduceSub,decide_true,decide_false,cond_true,cond_false,Bool.and_true,Bool.and_false,Bool.true_and,Bool.false_and,ah]
 generalize (op==0)=a0
 generalize (t==[])=a1
 generalize (o==[])=a2
 cases a0<;>cases a1<;>cases a2<;>exact⟨_,rfl,rfl⟩
theorem aIL(op:Int)(t o:aF)(kids:ak)(ht:t.length≤1048576)(ho:o.length≤1048576)(hk:kids.length≤400):zA 15 op t o kids:=by
 have hn:=cZ t ht
 have hn2:=cZ o ho
 have hb:=dW t
 have ha:=bn op
 obtain⟨hi,lv,hlv,hi2⟩:=dH op
 have tk:=fun k hk=>fK k t 0 ht hk
 simp only[zA,M.ay,M.aC,M.aQ,M.aH,M.aW,M.aU,M.aS,M.aI,M.bM,M.bf,M.bK,M.bW,M.cO,M.bY,M.bQ,M.bF,M.bT,M.bG,M.bU,M.bH,M.dA,M.cu,aX,aN,hn.1,hn.2,hn2.1,hn2.2,hb.1,hb.2,ha.1,ha.2,hi,hlv,hi2,ge_iff_le,Int.reduceBEq,Int.reduceLE,Int.reduceSub,decide_true,decide_false,cond_true,cond_false,Bool.and_true,Bool.and_false,Bool.true_and,Bool.false_and,ah]
 generalize (acd op)=a0
 generalize (t==[])=a1
 generalize (o==[])=a2
 cases a0<;>cases a1<;>cases a2<;>exact⟨_,rfl,rfl⟩
theorem aIM(op:Int)(t o:aF)(kids:ak)(ht:t.length≤1048576)(ho:o.length≤1048576)(hk:kids.length≤400):zA 16 op t o kids:=by
 have hn:=cZ t ht
 have hn2:=cZ o ho
 have hb:=dW t
 have ha:=bn op
 obtain⟨hi,lv,hlv,hi2⟩:=dH op
 have tk:=fun k hk=>fK k t 0 ht hk
 simp only[zA,M.ay,M.aC,M.aQ,M.aH,M.aW,M.aU,M.aS,M.aI,M.bM,M.bf,M.bK,M.bW,M.cO,M.bY,M.bQ,M.bF,M.bT,M.bG,M.bU,M.bH,M.dA,M.cu,aX,aN,hn.1,hn.2,hn2.1,hn2.2,hb.1,hb.2,ha.1,ha.2,hi,hlv,hi2,ge_iff_le,Int.reduceBEq,Int.reduceLE,Int.reduceSub,decide_true,decide_false,cond_true,cond_false,Bool.and_true,Bool.and_false,Bool.true_and,Bool.false_and,ah]
 generalize (op==0)=a0
 generalize (t==[])=a1
 generalize (o==[])=a2
 cases a0<;>cases a1<;>cases a2<;>exact⟨_,rfl,rfl⟩
theorem aIN(op:Int)(t o:aF)(kids:ak)(ht:t.length≤1048576)(ho:o.length≤1048576)(hk:kids.length≤400):zA 20 op t o kids:=by
 have hn:=cZ t ht
 have hn2:=cZ o ho
 have hb:=dW t
 have ha:=bn op
 obtain⟨hi,lv,hlv,hi2⟩:=dH op
 have tk:=fun k hk=>fK k t 0 ht hk
 simp only[zA,M.ay,M.aC,M.aQ,M.aH,M.aW,M.aU,M.aS,M.aI,M.bM,M.bf,M.bK,M.bW,M.cO,M.bY,M.bQ,M.bF,M.bT,M.bG,M.bU,M.bH,M.dA,M.cu,aX,aN,hn.1,hn.2,hn2.1,hn2.2,hb.1,hb.2,ha.1,ha.2,hi,hlv,hi2,ge_iff_le,Int.reduceBEq,Int.reduceLE,Int.reduceSub,decide_true,decide_false,cond_true,cond_false,Bool.and_true,Bool.and_false,Bool.true_and,Bool.false_and,ah]
 generalize (op==0)=a0
 generalize (t==[])=a1
 generalize (o==[])=a2
 cases a0<;>cases a1<;>cases a2<;>exact⟨_,rfl,rfl⟩
theorem aIO(op:Int)(t o:aF)(kids:ak)(ht:t.length≤1048576)(ho:o.length≤1048576)(hk:kids.length≤400):zA 22 op t o kids:=by
 have hn:=cZ t ht
 have hn2:=cZ o ho
 have hb:=dW t
 have ha:=bn op
 obtain⟨hi,lv,hlv,hi2⟩:=dH op
 have tk:=fun k hk=>fK k t 0 ht hk
 simp only[zA,M.ay,M.aC,M.aQ,M.aH,M.aW,M.aU,M.aS,M.aI,M.bM,M.bf,M.bK,M.bW,M.cO,M.bY,M.bQ,M.bF,M.bT,M.bG,M.bU,M.bH,M.dA,M.cu,aX,aN,hn.1,hn.2,hn2.1,hn2.2,hb.1,hb.2,ha.1,ha.2,hi,hlv,hi2,ge_iff_le,Int.reduceBEq,Int.reduceLE,Int.reduceSub,decide_true,decide_false,cond_true,cond_false,Bool.and_true,Bool.and_false,Bool.true_and,Bool.false_and,ah]
 generalize (op==0)=a0
 generalize (t==[])=a1
 generalize (o==[])=a2
 cases a0<;>cases a1<;>cases a2<;>exact⟨_,rfl,rfl⟩
theorem aIP(op:Int)(t o:aF)(kids:ak)(ht:t.length≤1048576)(ho:o.length≤1048576)(hk:kids.length≤400):zA 23 op t o kids:=by
 have hn:=cZ t ht
 have hn2:=cZ o ho
 have hb:=dW t
 have ha:=bn op
 obtain⟨hi,lv,hlv,hi2⟩:=dH op
 have tk:=fun k hk=>fK k t 0 ht hk
 simp only[zA,M.ay,M.aC,M.aQ,M.aH,M.aW,M.aU,M.aS,M.aI,M.bM,M.bf,M.bK,M.bW,M.cO,M.bY,M.bQ,M.bF,M.bT,M.bG,M.bU,M.bH,M.dA,M.cu,aX,aN,hn.1,hn.2,hn2.1,hn2.2,hb.1,hb.2,ha.1,ha.2,hi,hlv,hi2,ge_iff_le,Int.reduceBEq,Int.reduceLE,Int.reduceSub,decide_true,decide_false,cond_true,cond_false,Bool.and_true,Bool.and_false,Bool.true_and,Bool.false_and,ah]
 generalize (op==0)=a0
 generalize (t==[])=a1
 generalize (o==[])=a2
 cases a0<;>cases a1<;>cases a2<;>exact⟨_,rfl,rfl⟩
theorem aIQ(op:Int)(t o:aF)(kids:ak)(ht:t.length≤1048576)(ho:o.length≤1048576)(hk:kids.length≤400):zA 24 op t o kids:=by
 have hn:=cZ t ht
 have hn2:=cZ o ho
 have hb:=dW t
 have ha:=bn op
 obtain⟨hi,lv,hlv,hi2⟩:=dH op
 have tk:=fun k hk=>fK k t 0 ht hk
 simp only[zA,M.ay,M.aC,M.aQ,M.aH,M.aW,M.aU,M.aS,M.aI,M.bM,M.bf,M.bK,M.bW,M.cO,M.bY,M.bQ,M.bF,M.bT,M.bG,M.bU,M.bH,M.dA,M.cu,aX,aN,hn.1,hn.2,hn2.1,hn2.2,hb.1,hb.2,ha.1,ha.2,hi,hlv,hi2,ge_iff_le,Int.reduceBEq,Int.reduceLE,Int.reduceSub,decide_true,decide_false,cond_true,cond_false,Bool.and_true,Bool.and_false,Bool.true_and,Bool.false_and,ah]
 generalize (op==0)=a0
 generalize (t==[])=a1
 generalize (o==[])=a2
 cases a0<;>cases a1<;>cases a2<;>exact⟨_,rfl,rfl⟩
theorem aIR(op:Int)(t o:aF)(kids:ak)(ht:t.length≤1048576)(ho:o.length≤1048576)(hk:kids.length≤400):zA 25 op t o kids:=by
 have hn:=cZ t ht
 have hn2:=cZ o ho
 have hb:=dW t
 have ha:=bn op
 obtain⟨hi,lv,hlv,hi2⟩:=dH op
 have tk:=fun k hk=>fK k t 0 ht hk
 simp only[zA,M.ay,M.aC,M.aQ,M.aH,M.aW,M.aU,M.aS,M.aI,M.bM,M.bf,M.bK,M.bW,M.cO,M.bY,M.bQ,M.bF,M.bT,M.bG,M.bU,M.bH,M.dA,M.cu,aX,aN,hn.1,hn.2,hn2.1,hn2.2,hb.1,hb.2,ha.1,ha.2,hi,hlv,hi2,ge_iff_le,Int.reduceBEq,Int.reduceLE,Int.reduceSub,decide_true,decide_false,cond_true,cond_false,Bool.and_true,Bool.and_false,Bool.true_and,Bool.false_and,ah]
 generalize (op==0)=a0
 generalize (t==[])=a1
 generalize (o==[])=a2
 cases a0<;>cases a1<;>cases a2<;>exact⟨_,rfl,rfl⟩
theorem aIS(op:Int)(t o:aF)(kids:ak)(ht:t.length≤1048576)(ho:o.length≤1048576)(hk:kids.length≤400):zA 26 op t o kids:=by
 have hn:=cZ t ht
 have hn2:=cZ o ho
 have hb:=dW t
 have ha:=bn op
 obtain⟨hi,lv,hlv,hi2⟩:=dH op
 have tk:=fun k hk=>fK k t 0 ht hk
 simp only[zA,M.ay,M.aC,M.aQ,M.aH,M.aW,M.aU,M.aS,M.aI,M.bM,M.bf,M.bK,M.bW,M.cO,M.bY,M.bQ,M.bF,M.bT,M.bG,M.bU,M.bH,M.dA,M.cu,aX,aN,hn.1,hn.2,hn2.1,hn2.2,hb.1,hb.2,ha.1,ha.2,hi,hlv,hi2,ge_iff_le,Int.reduceBEq,Int.reduceLE,Int.reduceSub,decide_true,decide_false,cond_true,cond_false,Bool.and_true,Bool.and_false,Bool.true_and,Bool.false_and,ah]
 generalize (op==0)=a0
 generalize (t==[])=a1
 generalize (o==[])=a2
 cases a0<;>cases a1<;>cases a2<;>exact⟨_,rfl,rfl⟩
theorem aIT(op:Int)(t o:aF)(kids:ak)(ht:t.length≤1048576)(ho:o.length≤1048576)(hk:kids.length≤400):zA 27 op t o kids:=by
 have hn:=cZ t ht
 have hn2:=cZ o ho
 have hb:=dW t
 have ha:=bn op
 obtain⟨hi,lv,hlv,hi2⟩:=dH op
 have tk:=fun k hk=>fK k t 0 ht hk
 simp only[zA,M.ay,M.aC,M.aQ,M.aH,M.aW,M.aU,M.aS,M.aI,M.bM,M.bf,M.bK,M.bW,M.cO,M.bY,M.bQ,M.bF,M.bT,M.bG,M.bU,M.bH,M.dA,M.cu,aX,aN,hn.1,hn.2,hn2.1,hn2.2,hb.1,hb.2,ha.1,ha.2,hi,hlv,hi2,ge_iff_le,Int.reduceBEq,Int.reduceLE,Int.reduceSub,decide_true,decide_false,cond_true,cond_false,Bool.and_true,Bool.and_false,Bool.true_and,Bool.false_and,ah]
 generalize (op==0)=a0
 generalize (I5 t)=a1
 generalize (o==[])=a2
 cases a0<;>cases a1<;>cases a2<;>exact⟨_,rfl,rfl⟩
theorem aIU(op:Int)(t o:aF)(kids:ak)(ht:t.length≤1048576)(ho:o.length≤1048576)(hk:kids.length≤400):zA 28 op t o kids:=by
 have hn:=cZ t ht
 have hn2:=cZ o ho
 have hb:=dW t
 have ha:=bn op
 obtain⟨hi,lv,hlv,hi2⟩:=dH op
 have tk:=fun k hk=>fK k t 0 ht hk
 simp only[zA,M.ay,M.aC,M.aQ,M.aH,M.aW,M.aU,M.aS,M.aI,M.bM,M.bf,M.bK,M.bW,M.cO,M.bY,M.bQ,M.bF,M.bT,M.bG,M.bU,M.bH,M.dA,M.cu,aX,aN,hn.1,hn.2,hn2.1,hn2.2,hb.1,hb.2,ha.1,ha.2,hi,hlv,hi2,ge_iff_le,Int.reduceBEq,Int.reduceLE,Int.reduceSub,decide_true,decide_false,cond_true,cond_false,Bool.and_true,Bool.and_false,Bool.true_and,Bool.false_and,ah]
 generalize (op==0)=a0
 generalize (t==[])=a1
 generalize (o==[])=a2
 cases a0<;>cases a1<;>cases a2<;>exact⟨_,rfl,rfl⟩
theorem aIV(op:Int)(t o:aF)(kids:ak)(ht:t.length≤1048576)(ho:o.length≤1048576)(hk:kids.length≤400):zA 29 op t o kids:=by
 have hn:=cZ t ht
 have hn2:=cZ o ho
 have hb:=dW t
 have ha:=bn op
 obtain⟨hi,lv,hlv,hi2⟩:=dH op
 have tk:=fun k hk=>fK k t 0 ht hk
 simp only[zA,M.ay,M.aC,M.aQ,M.aH,M.aW,M.aU,M.aS,M.aI,M.bM,M.bf,M.bK,M.bW,M.cO,M.bY,M.bQ,M.bF,M.bT,M.bG,M.bU,M.bH,M.dA,M.cu,aX,aN,hn.1,hn.2,hn2.1,hn2.2,hb.1,hb.2,ha.1,ha.2,hi,hlv,hi2,ge_iff_le,Int.reduceBEq,Int.reduceLE,Int.reduceSub,decide_true,decide_false,cond_true,cond_false,Bool.and_true,Bool.and_false,Bool.true_and,Bool.false_and,ah]
 generalize (op==0)=a0
 generalize (t==[])=a1
 generalize (o==[])=a2
 cases a0<;>cases a1<;>cases a2<;>exact⟨_,rfl,rfl⟩
theorem aIW(op:Int)(t o:aF)(kids:ak)(ht:t.length≤1048576)(ho:o.length≤1048576)(hk:kids.length≤400):zA 30 op t o kids:=by
 have hn:=cZ t ht
 have hn2:=cZ o ho
 have hb:=dW t
 have ha:=bn op
 obtain⟨hi,lv,hlv,hi2⟩:=dH op
 have tk:=fun k hk=>fK k t 0 ht hk
 simp only[zA,M.ay,M.aC,M.aQ,M.aH,M.aW,M.aU,M.aS,M.aI,M.bM,M.bf,M.bK,M.bW,M.cO,M.bY,M.bQ,M.bF,M.bT,M.bG,M.bU,M.bH,M.dA,M.cu,aX,aN,hn.1,hn.2,hn2.1,hn2.2,hb.1,hb.2,ha.1,ha.2,hi,hlv,hi2,ge_iff_le,Int.reduceBEq,Int.reduceLE,Int.reduceSub,decide_true,decide_false,cond_true,cond_false,Bool.and_true,Bool.and_false,Bool.true_and,Bool.false_and,ah]
 generalize (op==0)=a0
 generalize (t==[])=a1
 generalize (o==[])=a2
 cases a0<;>cases a1<;>cases a2<;>exact⟨_,rfl,rfl⟩
theorem aIX(op:Int)(t o:aF)(kids:ak)(ht:t.length≤1048576)(ho:o.length≤1048576)(hk:kids.length≤400):zA 31 op t o kids:=by
 have hn:=cZ t ht
 have hn2:=cZ o ho
 have hb:=dW t
 have ha:=bn op
 obtain⟨hi,lv,hlv,hi2⟩:=dH op
 have tk:=fun k hk=>fK k t 0 ht hk
 simp only[zA,M.ay,M.aC,M.aQ,M.aH,M.aW,M.aU,M.aS,M.aI,M.bM,M.bf,M.bK,M.bW,M.cO,M.bY,M.bQ,M.bF,M.bT,M.bG,M.bU,M.bH,M.dA,M.cu,aX,aN,hn.1,hn.2,hn2.1,hn2.2,hb.1,hb.2,ha.1,ha.2,hi,hlv,hi2,ge_iff_le,Int.reduceBEq,Int.reduceLE,Int.reduceSub,decide_true,decide_false,cond_true,cond_false,Bool.and_true,Bool.and_false,Bool.true_and,Bool.false_and,ah]
 generalize (op==0)=a0
 generalize (t==[])=a1
 generalize (o==[])=a2
 cases a0<;>cases a1<;>cases a2<;>exact⟨_,rfl,rfl⟩
theorem aIY(op:Int)(t o:aF)(kids:ak)(ht:t.length≤1048576)(ho:o.length≤1048576)(hk:kids.length≤400):zA 32 op t o kids:=by
 have hn:=cZ t ht
 have hn2:=cZ o ho
 have hb:=dW t
 have ha:=bn op
 obtain⟨hi,lv,hlv,hi2⟩:=dH op
 have tk:=fun k hk=>fK k t 0 ht hk
 simp only[zA,M.ay,M.aC,M.aQ,M.aH,M.aW,M.aU,M.aS,M.aI,M.bM,M.bf,M.bK,M.bW,M.cO,M.bY,M.bQ,M.bF,M.bT,M.bG,M.bU,M.bH,M.dA,M.cu,aX,aN,hn.1,hn.2,hn2.1,hn2.2,hb.1,hb.2,ha.1,ha.2,hi,hlv,hi2,ge_iff_le,Int.reduceBEq,Int.reduceLE,Int.reduceSub,decide_true,decide_false,cond_true,cond_false,Bool.and_true,Bool.and_false,Bool.true_and,Bool.false_and,ah]
 generalize (op==0)=a0
 generalize (I5 t)=a1
 generalize (I5 o)=a2
 cases a0<;>cases a1<;>cases a2<;>exact⟨_,rfl,rfl⟩
theorem aIZ(op:Int)(t o:aF)(kids:ak)(ht:t.length≤1048576)(ho:o.length≤1048576)(hk:kids.length≤400):zA 33 op t o kids:=by
 have hn:=cZ t ht
 have hn2:=cZ o ho
 have hb:=dW t
 have ha:=bn op
 obtain⟨hi,lv,hlv,hi2⟩:=dH op
 have tk:=fun k hk=>fK k t 0 ht hk
 simp only[zA,M.ay,M.aC,M.aQ,M.aH,M.aW,M.aU,M.aS,M.aI,M.bM,M.bf,M.bK,M.bW,M.cO,M.bY,M.bQ,M.bF,M.bT,M.bG,M.bU,M.bH,M.dA,M.cu,aX,aN,hn.1,hn.2,hn2.1,hn2.2,hb.1,hb.2,ha.1,ha.2,hi,hlv,hi2,ge_iff_le,Int.reduceBEq,Int.reduceLE,Int.reduceSub,decide_true,decide_false,cond_true,cond_false,Bool.and_true,Bool.and_false,Bool.true_and,Bool.false_and,ah]
 have z1:decide ((kids.length:Int)≤400)=true:=decide_eq_true (by omega)
 have z2:decide ((0:Int)≤(kids.length:Int))=true:=decide_eq_true (by omega)
 have z3:decide ((kids.length:Int)≤(kids.length:Int))=true:=decide_eq_true (by omega)
 simp only[z1,z2,z3,cond_true,Bool.and_true]
 generalize (op==0)=a0
 generalize (t==[])=a1
 generalize (o==[])=a2
 cases a0<;>cases a1<;>cases a2<;>exact⟨_,rfl,rfl⟩
theorem aI0(op:Int)(t o:aF)(kids:ak)(ht:t.length≤1048576)(ho:o.length≤1048576)(hk:kids.length≤400):zA 34 op t o kids:=by
 have hn:=cZ t ht
 have hn2:=cZ o ho
 have hb:=dW t
 have ha:=bn op
 obtain⟨hi,lv,hlv,hi2⟩:=dH op
 have tk:=fun k hk=>fK k t 0 ht hk
 have tk2:=tk 2 ⟨by omega,by omega⟩
 simp only[zA,M.ay,M.aC,M.aQ,M.aH,M.aW,M.aU,M.aS,M.aI,M.bM,M.bf,M.bK,M.bW,M.cO,M.bY,M.bQ,M.bF,M.bT,M.bG,M.bU,M.bH,M.dA,M.cu,aX,aN,hn.1,hn.2,hn2.1,hn2.2,hb.1,hb.2,ha.1,ha.2,hi,hlv,hi2,tk2.1,tk2.2,ge_iff_le,Int.reduceBEq,Int.reduceLE,Int.reduceSub,decide_true,decide_false,cond_true,cond_false,Bool.and_true,Bool.and_false,Bool.true_and,Bool.false_and,ah]
 generalize (op==0)=a0
 generalize (Qb 2 t)=a1
 generalize (o==[])=a2
 cases a0<;>cases a1<;>cases a2<;>exact⟨_,rfl,rfl⟩
theorem aI1(op:Int)(t o:aF)(kids:ak)(ht:t.length≤1048576)(ho:o.length≤1048576)(hk:kids.length≤400):zA 40 op t o kids:=by
 have hn:=cZ t ht
 have hn2:=cZ o ho
 have hb:=dW t
 have ha:=bn op
 obtain⟨hi,lv,hlv,hi2⟩:=dH op
 have tk:=fun k hk=>fK k t 0 ht hk
 simp only[zA,M.ay,M.aC,M.aQ,M.aH,M.aW,M.aU,M.aS,M.aI,M.bM,M.bf,M.bK,M.bW,M.cO,M.bY,M.bQ,M.bF,M.bT,M.bG,M.bU,M.bH,M.dA,M.cu,aX,aN,hn.1,hn.2,hn2.1,hn2.2,hb.1,hb.2,ha.1,ha.2,hi,hlv,hi2,ge_iff_le,Int.reduceBEq,Int.reduceLE,Int.reduceSub,decide_true,decide_false,cond_true,cond_false,Bool.and_true,Bool.and_false,Bool.true_and,Bool.false_and,ah]
 generalize (op==0)=a0
 generalize (t==[])=a1
 generalize (o==[])=a2
 cases a0<;>cases a1<;>cases a2<;>exact⟨_,rfl,rfl⟩
theorem aI2(op:Int)(t o:aF)(kids:ak)(ht:t.length≤1048576)(ho:o.length≤1048576)(hk:kids.length≤400):zA 41 op t o kids:=by
 have hn:=cZ t ht
 have hn2:=cZ o ho
 have hb:=dW t
 have ha:=bn op
 obtain⟨hi,lv,hlv,hi2⟩:=dH op
 have tk:=fun k hk=>fK k t 0 ht hk
 simp only[zA,M.ay,M.aC,M.aQ,M.aH,M.aW,M.aU,M.aS,M.aI,M.bM,M.bf,M.bK,M.bW,M.cO,M.bY,M.bQ,M.bF,M.bT,M.bG,M.bU,M.bH,M.dA,M.cu,aX,aN,hn.1,hn.2,hn2.1,hn2.2,hb.1,hb.2,ha.1,ha.2,hi,hlv,hi2,ge_iff_le,Int.reduceBEq,Int.reduceLE,Int.reduceSub,decide_true,decide_false,cond_true,cond_false,Bool.and_true,Bool.and_false,Bool.true_and,Bool.false_and,ah]
 generalize (op==0)=a0
 generalize (t==[])=a1
 generalize (o==[])=a2
 cases a0<;>cases a1<;>cases a2<;>exact⟨_,rfl,rfl⟩
theorem aI3(op:Int)(t o:aF)(kids:ak)(ht:t.length≤1048576)(ho:o.length≤1048576)(hk:kids.length≤400):zA 44 op t o kids:=by
 have hn:=cZ t ht
 have hn2:=cZ o ho
 have hb:=dW t
 have ha:=bn op
 obtain⟨hi,lv,hlv,hi2⟩:=dH op
 have tk:=fun k hk=>fK k t 0 ht hk
 simp only[zA,M.ay,M.aC,M.aQ,M.aH,M.aW,M.aU,M.aS,M.aI,M.bM,M.bf,M.bK,M.bW,M.cO,M.bY,M.bQ,M.bF,M.bT,M.bG,M.bU,M.bH,M.dA,M.cu,aX,aN,hn.1,hn.2,hn2.1,hn2.2,hb.1,hb.2,ha.1,ha.2,hi,hlv,hi2,ge_iff_le,Int.reduceBEq,Int.reduceLE,Int.reduceSub,decide_true,decide_false,cond_true,cond_false,Bool.and_true,Bool.and_false,Bool.true_and,Bool.false_and,ah]
 generalize (op==0)=a0
 generalize (I5 t)=a1
 generalize (o==[])=a2
 cases a0<;>cases a1<;>cases a2<;>exact⟨_,rfl,rfl⟩
theorem aI4(op:Int)(t o:aF)(kids:ak)(ht:t.length≤1048576)(ho:o.length≤1048576)(hk:kids.length≤400):zA 45 op t o kids:=by
 have hn:=cZ t ht
 have hn2:=cZ o ho
 have hb:=dW t
 have ha:=bn op
 obtain⟨hi,lv,hlv,hi2⟩:=dH op
 have tk:=fun k hk=>fK k t 0 ht hk
 simp only[zA,M.ay,M.aC,M.aQ,M.aH,M.aW,M.aU,M.aS,M.aI,M.bM,M.bf,M.bK,M.bW,M.cO,M.bY,M.bQ,M.bF,M.bT,M.bG,M.bU,M.bH,M.dA,M.cu,aX,aN,hn.1,hn.2,hn2.1,hn2.2,hb.1,hb.2,ha.1,ha.2,hi,hlv,hi2,ge_iff_le,Int.reduceBEq,Int.reduceLE,Int.reduceSub,decide_true,decide_false,cond_true,cond_false,Bool.and_true,Bool.and_false,Bool.true_and,Bool.false_and,ah]
 have z1:decide ((kids.length:Int)≤400)=true:=decide_eq_true (by omega)
 have z2:decide ((0:Int)≤(kids.length:Int))=true:=decide_eq_true (by omega)
 have z3:decide ((kids.length:Int)≤(kids.length:Int))=true:=decide_eq_true (by omega)
 simp only[z1,z2,z3,cond_true,Bool.and_true]
 generalize (op==0)=a0
 generalize (t==[])=a1
 generalize (o==[])=a2
 cases a0<;>cases a1<;>cases a2<;>exact⟨_,rfl,rfl⟩
theorem aI5(op:Int)(t o:aF)(kids:ak)(ht:t.length≤1048576)(ho:o.length≤1048576)(hk:kids.length≤400):zA 21 op t o kids:=by
 have hp:=RU o [[],[62],[62,62],[124]] (by decide)
 rw[Ve] at hp
 by_cases h0:op=0
 ·subst h0
  simp only[zA,M.ay,M.aC,M.aQ,M.aH,M.aW,M.aU,M.aS,M.aI,M.bM,M.bf,M.bK,M.bW,M.cO,M.bY,M.bQ,M.bF,M.bT,M.bG,M.bU,M.bH,M.dA,M.cu,aX,aN,BG,hp,show IntKind.i64.wrap (0+1)=1 from rfl,show IntKind.i64.wrap (1+1)=2 from rfl,show IntKind.i64.wrap (1+IntKind.i64.wrap (Int.tdiv 1 3))=1 from rfl,show IntKind.i64.wrap (1+IntKind.i64.wrap (Int.tdiv 2 3))=1 from rfl,show IntKind.i64.wrap (1+IntKind.i64.wrap (Int.tdiv 3 3))=2 from rfl,show IntKind.i64.wrap (2+IntKind.i64.wrap (Int.tdiv 1 3))=2 from rfl,show IntKind.i64.wrap (2+IntKind.i64.wrap (Int.tdiv 3 3))=3 from rfl,ge_iff_le,Int.reduceBEq,Int.reduceLE,Int.reduceSub,decide_true,decide_false,cond_true,cond_false,Bool.and_true,Bool.and_false,Bool.true_and,Bool.false_and,ah]
  generalize (t==[])=a0
  generalize (o==[])=a1
  generalize (o==[62])=a2
  generalize (o==[62,62])=a3
  generalize (o==[124])=a4
  cases a0<;>cases a1<;>cases a2<;>cases a3<;>cases a4<;>exact⟨_,rfl,rfl⟩
 by_cases h1:op=1
 ·subst h1
  simp only[zA,M.ay,M.aC,M.aQ,M.aH,M.aW,M.aU,M.aS,M.aI,M.bM,M.bf,M.bK,M.bW,M.cO,M.bY,M.bQ,M.bF,M.bT,M.bG,M.bU,M.bH,M.dA,M.cu,aX,aN,BG,hp,show IntKind.i64.wrap (0+1)=1 from rfl,show IntKind.i64.wrap (1+1)=2 from rfl,show IntKind.i64.wrap (1+IntKind.i64.wrap (Int.tdiv 1 3))=1 from rfl,show IntKind.i64.wrap (1+IntKind.i64.wrap (Int.tdiv 2 3))=1 from rfl,show IntKind.i64.wrap (1+IntKind.i64.wrap (Int.tdiv 3 3))=2 from rfl,show IntKind.i64.wrap (2+IntKind.i64.wrap (Int.tdiv 1 3))=2 from rfl,show IntKind.i64.wrap (2+IntKind.i64.wrap (Int.tdiv 3 3))=3 from rfl,ge_iff_le,Int.reduceBEq,Int.reduceLE,Int.reduceSub,decide_true,decide_false,cond_true,cond_false,Bool.and_true,Bool.and_false,Bool.true_and,Bool.false_and,ah]
  generalize (t==[])=a0
  generalize (o==[])=a1
  generalize (o==[62])=a2
  generalize (o==[62,62])=a3
  generalize (o==[124])=a4
  cases a0<;>cases a1<;>cases a2<;>cases a3<;>cases a4<;>exact⟨_,rfl,rfl⟩
 have e0:(op==0)=false:=by simpa using h0
 have e1:(op==1)=false:=by simpa using h1
 have hf:(decide ((0:Int)≤op) && decide (op≤1))=false:=by
  rw[Bool.and_eq_false_iff,decide_eq_false_iff_not,decide_eq_false_iff_not]
  omega
 simp only[zA,M.ay,M.aC,M.aQ,M.aH,M.aW,M.aU,M.aS,M.aI,M.bM,M.bf,M.bK,M.bW,M.cO,M.bY,M.bQ,M.bF,M.bT,M.bG,M.bU,M.bH,M.dA,M.cu,aX,aN,BG,hp,e0,e1,hf,ge_iff_le,Int.reduceBEq,Int.reduceLE,Int.reduceSub,decide_true,decide_false,cond_true,cond_false,Bool.and_true,Bool.and_false,Bool.true_and,Bool.false_and,ah]
 generalize (t==[])=a0
 generalize (o==[])=a1
 generalize (o==[62])=a2
 generalize (o==[62,62])=a3
 generalize (o==[124])=a4
 cases a0<;>cases a1<;>cases a2<;>cases a3<;>cases a4<;>exact⟨_,rfl,rfl⟩
theorem aI6(op:Int)(t o:aF)(kids:ak)(ht:t.length≤1048576)(ho:o.length≤1048576)(hk:kids.length≤400):zA 42 op t o kids:=by
 have hp:=RU o [[],[62],[62,62],[124]] (by decide)
 rw[Ve] at hp
 by_cases h1:op=1
 ·subst h1
  simp only[zA,M.ay,M.aC,M.aQ,M.aH,M.aW,M.aU,M.aS,M.aI,M.bM,M.bf,M.bK,M.bW,M.cO,M.bY,M.bQ,M.bF,M.bT,M.bG,M.bU,M.bH,M.dA,M.cu,aX,aN,BG,hp,show IntKind.i64.wrap (0+1)=1 from rfl,show IntKind.i64.wrap (1+1)=2 from rfl,show IntKind.i64.wrap (1+IntKind.i64.wrap (Int.tdiv 1 3))=1 from rfl,show IntKind.i64.wrap (1+IntKind.i64.wrap (Int.tdiv 2 3))=1 from rfl,show IntKind.i64.wrap (1+IntKind.i64.wrap (Int.tdiv 3 3))=2 from rfl,show IntKind.i64.wrap (2+IntKind.i64.wrap (Int.tdiv 1 3))=2 from rfl,show IntKind.i64.wrap (2+IntKind.i64.wrap (Int.tdiv 3 3))=3 from rfl,ge_iff_le,Int.reduceBEq,Int.reduceLE,Int.reduceSub,decide_true,decide_false,cond_true,cond_false,Bool.and_true,Bool.and_false,Bool.true_and,Bool.false_and,ah]
  generalize (t==[])=a0
  generalize (o==[])=a1
  cases a0<;>cases a1<;>exact⟨_,rfl,rfl⟩
 by_cases h2:op=2
 ·subst h2
  simp only[zA,M.ay,M.aC,M.aQ,M.aH,M.aW,M.aU,M.aS,M.aI,M.bM,M.bf,M.bK,M.bW,M.cO,M.bY,M.bQ,M.bF,M.bT,M.bG,M.bU,M.bH,M.dA,M.cu,aX,aN,BG,hp,show IntKind.i64.wrap (0+1)=1 from rfl,show IntKind.i64.wrap (1+1)=2 from rfl,show IntKind.i64.wrap (1+IntKind.i64.wrap (Int.tdiv 1 3))=1 from rfl,show IntKind.i64.wrap (1+IntKind.i64.wrap (Int.tdiv 2 3))=1 from rfl,show IntKind.i64.wrap (1+IntKind.i64.wrap (Int.tdiv 3 3))=2 from rfl,show IntKind.i64.wrap (2+IntKind.i64.wrap (Int.tdiv 1 3))=2 from rfl,show IntKind.i64.wrap (2+IntKind.i64.wrap (Int.tdiv 3 3))=3 from rfl,ge_iff_le,Int.reduceBEq,Int.reduceLE,Int.reduceSub,decide_true,decide_false,cond_true,cond_false,Bool.and_true,Bool.and_false,Bool.true_and,Bool.false_and,ah]
  generalize (t==[])=a0
  generalize (o==[])=a1
  cases a0<;>cases a1<;>exact⟨_,rfl,rfl⟩
 by_cases h3:op=3
 ·subst h3
  simp only[zA,M.ay,M.aC,M.aQ,M.aH,M.aW,M.aU,M.aS,M.aI,M.bM,M.bf,M.bK,M.bW,M.cO,M.bY,M.bQ,M.bF,M.bT,M.bG,M.bU,M.bH,M.dA,M.cu,aX,aN,BG,hp,show IntKind.i64.wrap (0+1)=1 from rfl,show IntKind.i64.wrap (1+1)=2 from rfl,show IntKind.i64.wrap (1+IntKind.i64.wrap (Int.tdiv 1 3))=1 from rfl,show IntKind.i64.wrap (1+IntKind.i64.wrap (Int.tdiv 2 3))=1 from rfl,show IntKind.i64.wrap (1+IntKind.i64.wrap (Int.tdiv 3 3))=2 from rfl,show IntKind.i64.wrap (2+IntKind.i64.wrap (Int.tdiv 1 3))=2 from rfl,show IntKind.i64.wrap (2+IntKind.i64.wrap (Int.tdiv 3 3))=3 from rfl,ge_iff_le,Int.reduceBEq,Int.reduceLE,Int.reduceSub,decide_true,decide_false,cond_true,cond_false,Bool.and_true,Bool.and_false,Bool.true_and,Bool.false_and,ah]
  generalize (t==[])=a0
  generalize (o==[])=a1
  cases a0<;>cases a1<;>exact⟨_,rfl,rfl⟩
 have e1:(op==1)=false:=by simpa using h1
 have e2:(op==2)=false:=by simpa using h2
 have e3:(op==3)=false:=by simpa using h3
 have hf:(decide ((1:Int)≤op) && decide (op≤3))=false:=by
  rw[Bool.and_eq_false_iff,decide_eq_false_iff_not,decide_eq_false_iff_not]
  omega
 simp only[zA,M.ay,M.aC,M.aQ,M.aH,M.aW,M.aU,M.aS,M.aI,M.bM,M.bf,M.bK,M.bW,M.cO,M.bY,M.bQ,M.bF,M.bT,M.bG,M.bU,M.bH,M.dA,M.cu,aX,aN,BG,hp,e1,e2,e3,hf,ge_iff_le,Int.reduceBEq,Int.reduceLE,Int.reduceSub,decide_true,decide_false,cond_true,cond_false,Bool.and_true,Bool.and_false,Bool.true_and,Bool.false_and,ah]
 generalize (t==[])=a0
 generalize (o==[])=a1
 cases a0<;>cases a1<;>exact⟨_,rfl,rfl⟩
theorem aI7(op:Int)(t o:aF)(kids:ak)(ht:t.length≤1048576)(ho:o.length≤1048576)(hk:kids.length≤400):zA 43 op t o kids:=by
 have hp:=RU o [[],[62],[62,62],[124]] (by decide)
 rw[Ve] at hp
 by_cases h1:op=1
 ·subst h1
  simp only[zA,M.ay,M.aC,M.aQ,M.aH,M.aW,M.aU,M.aS,M.aI,M.bM,M.bf,M.bK,M.bW,M.cO,M.bY,M.bQ,M.bF,M.bT,M.bG,M.bU,M.bH,M.dA,M.cu,aX,aN,BG,hp,show IntKind.i64.wrap (0+1)=1 from rfl,show IntKind.i64.wrap (1+1)=2 from rfl,show IntKind.i64.wrap (1+IntKind.i64.wrap (Int.tdiv 1 3))=1 from rfl,show IntKind.i64.wrap (1+IntKind.i64.wrap (Int.tdiv 2 3))=1 from rfl,show IntKind.i64.wrap (1+IntKind.i64.wrap (Int.tdiv 3 3))=2 from rfl,show IntKind.i64.wrap (2+IntKind.i64.wrap (Int.tdiv 1 3))=2 from rfl,show IntKind.i64.wrap (2+IntKind.i64.wrap (Int.tdiv 3 3))=3 from rfl,ge_iff_le,Int.reduceBEq,Int.reduceLE,Int.reduceSub,decide_true,decide_false,cond_true,cond_false,Bool.and_true,Bool.and_false,Bool.true_and,Bool.false_and,ah]
  generalize (t==[])=a0
  generalize (o==[])=a1
  cases a0<;>cases a1<;>exact⟨_,rfl,rfl⟩
 by_cases h3:op=3
 ·subst h3
  simp only[zA,M.ay,M.aC,M.aQ,M.aH,M.aW,M.aU,M.aS,M.aI,M.bM,M.bf,M.bK,M.bW,M.cO,M.bY,M.bQ,M.bF,M.bT,M.bG,M.bU,M.bH,M.dA,M.cu,aX,aN,BG,hp,show IntKind.i64.wrap (0+1)=1 from rfl,show IntKind.i64.wrap (1+1)=2 from rfl,show IntKind.i64.wrap (1+IntKind.i64.wrap (Int.tdiv 1 3))=1 from rfl,show IntKind.i64.wrap (1+IntKind.i64.wrap (Int.tdiv 2 3))=1 from rfl,show IntKind.i64.wrap (1+IntKind.i64.wrap (Int.tdiv 3 3))=2 from rfl,show IntKind.i64.wrap (2+IntKind.i64.wrap (Int.tdiv 1 3))=2 from rfl,show IntKind.i64.wrap (2+IntKind.i64.wrap (Int.tdiv 3 3))=3 from rfl,ge_iff_le,Int.reduceBEq,Int.reduceLE,Int.reduceSub,decide_true,decide_false,cond_true,cond_false,Bool.and_true,Bool.and_false,Bool.true_and,Bool.false_and,ah]
  generalize (t==[])=a0
  generalize (o==[])=a1
  cases a0<;>cases a1<;>exact⟨_,rfl,rfl⟩
 have e1:(op==1)=false:=by simpa using h1
 have e3:(op==3)=false:=by simpa using h3
 have hf:True:=trivial
 simp only[zA,M.ay,M.aC,M.aQ,M.aH,M.aW,M.aU,M.aS,M.aI,M.bM,M.bf,M.bK,M.bW,M.cO,M.bY,M.bQ,M.bF,M.bT,M.bG,M.bU,M.bH,M.dA,M.cu,aX,aN,BG,hp,e1,e3,hf,ge_iff_le,Int.reduceBEq,Int.reduceLE,Int.reduceSub,decide_true,decide_false,cond_true,cond_false,Bool.and_true,Bool.and_false,Bool.true_and,Bool.false_and,ah]
 generalize (t==[])=a0
 generalize (o==[])=a1
 cases a0<;>cases a1<;>exact⟨_,rfl,rfl⟩
theorem alf(k:Int)(op:Int)(t o:aF)(kids:ak)(ht:t.length≤1048576)(ho:o.length≤1048576)(hk:kids.length≤400):zA k op t o kids:=by
 by_cases h1:k=1
 ·subst h1;exact aTh op t o kids ht ho hk
 by_cases h2:k=2
 ·subst h2;exact aTi op t o kids ht ho hk
 by_cases h3:k=3
 ·subst h3;exact aTj op t o kids ht ho hk
 by_cases h4:k=4
 ·subst h4;exact aTk op t o kids ht ho hk
 by_cases h5:k=5
 ·subst h5;exact aTl op t o kids ht ho hk
 by_cases h6:k=6
 ·subst h6;exact aTm op t o kids ht ho hk
 by_cases h7:k=7
 ·subst h7;exact aTn op t o kids ht ho hk
 by_cases h8:k=8
 ·subst h8;exact aTo op t o kids ht ho hk
 by_cases h9:k=9
 ·subst h9;exact aTp op t o kids ht ho hk
 by_cases h10:k=10
 ·subst h10;exact aIG op t o kids ht ho hk
 by_cases h11:k=11
 ·subst h11;exact aIH op t o kids ht ho hk
 by_cases h12:k=12
 ·subst h12;exact aII op t o kids ht ho hk
 by_cases h13:k=13
 ·subst h13;exact aIJ op t o kids ht ho hk
 by_cases h14:k=14
 ·subst h14;exact aIK op t o kids ht ho hk
 by_cases h15:k=15
 ·subst h15;exact aIL op t o kids ht ho hk
 by_cases h16:k=16
 ·subst h16;exact aIM op t o kids ht ho hk
 by_cases h20:k=20
 ·subst h20;exact aIN op t o kids ht ho hk
 by_cases h21:k=21
 ·subst h21;exact aI5 op t o kids ht ho hk
 by_cases h22:k=22
 ·subst h22;exact aIO op t o kids ht ho hk
 by_cases h23:k=23
 ·subst h23;exact aIP op t o kids ht ho hk
 by_cases h24:k=24
 ·subst h24;exact aIQ op t o kids ht ho hk
 by_cases h25:k=25
 ·subst h25;exact aIR op t o kids ht ho hk
 by_cases h26:k=26
 ·subst h26;exact aIS op t o kids ht ho hk
 by_cases h27:k=27
 ·subst h27;exact aIT op t o kids ht ho hk
 by_cases h28:k=28
 ·subst h28;exact aIU op t o kids ht ho hk
 by_cases h29:k=29
 ·subst h29;exact aIV op t o kids ht ho hk
 by_cases h30:k=30
 ·subst h30;exact aIW op t o kids ht ho hk
 by_cases h31:k=31
 ·subst h31;exact aIX op t o kids ht ho hk
 by_cases h32:k=32
 ·subst h32;exact aIY op t o kids ht ho hk
 by_cases h33:k=33
 ·subst h33;exact aIZ op t o kids ht ho hk
 by_cases h34:k=34
 ·subst h34;exact aI0 op t o kids ht ho hk
 by_cases h40:k=40
 ·subst h40;exact aI1 op t o kids ht ho hk
 by_cases h41:k=41
 ·subst h41;exact aI2 op t o kids ht ho hk
 by_cases h42:k=42
 ·subst h42;exact aI6 op t o kids ht ho hk
 by_cases h43:k=43
 ·subst h43;exact aI7 op t o kids ht ho hk
 by_cases h44:k=44
 ·subst h44;exact aI3 op t o kids ht ho hk
 by_cases h45:k=45
 ·subst h45;exact aI4 op t o kids ht ho hk
 have f1:(decide (k≥1) && decide (k≤16))=false:=by
  rw[Bool.and_eq_false_iff,decide_eq_false_iff_not,decide_eq_false_iff_not]
  omega
 have f2:(decide (k≥20) && decide (k≤34))=false:=by
  rw[Bool.and_eq_false_iff,decide_eq_false_iff_not,decide_eq_false_iff_not]
  omega
 have f3:(decide (k≥40) && decide (k≤45))=false:=by
  rw[Bool.and_eq_false_iff,decide_eq_false_iff_not,decide_eq_false_iff_not]
  omega
 have f4:(decide (k≥1) && decide (k≤15))=false:=by
  rw[Bool.and_eq_false_iff,decide_eq_false_iff_not,decide_eq_false_iff_not]
  omega
 have g:(k==16)=false:=by simpa using h16
 have e1:(k==1)=false:=by simpa using h1
 have e2:(k==2)=false:=by simpa using h2
 have e3:(k==3)=false:=by simpa using h3
 have e4:(k==4)=false:=by simpa using h4
 have e5:(k==5)=false:=by simpa using h5
 have e6:(k==6)=false:=by simpa using h6
 have e7:(k==7)=false:=by simpa using h7
 have e8:(k==8)=false:=by simpa using h8
 have e9:(k==9)=false:=by simpa using h9
 have e10:(k==10)=false:=by simpa using h10
 have e11:(k==11)=false:=by simpa using h11
 have e12:(k==12)=false:=by simpa using h12
 have e13:(k==13)=false:=by simpa using h13
 have e14:(k==14)=false:=by simpa using h14
 have e15:(k==15)=false:=by simpa using h15
 have e16:(k==16)=false:=by simpa using h16
 have e20:(k==20)=false:=by simpa using h20
 have e21:(k==21)=false:=by simpa using h21
 have e22:(k==22)=false:=by simpa using h22
 have e23:(k==23)=false:=by simpa using h23
 have e24:(k==24)=false:=by simpa using h24
 have e25:(k==25)=false:=by simpa using h25
 have e26:(k==26)=false:=by simpa using h26
 have e27:(k==27)=false:=by simpa using h27
 have e28:(k==28)=false:=by simpa using h28
 have e29:(k==29)=false:=by simpa using h29
 have e30:(k==30)=false:=by simpa using h30
 have e31:(k==31)=false:=by simpa using h31
 have e32:(k==32)=false:=by simpa using h32
 have e33:(k==33)=false:=by simpa using h33
 have e34:(k==34)=false:=by simpa using h34
 have e40:(k==40)=false:=by simpa using h40
 have e41:(k==41)=false:=by simpa using h41
 have e42:(k==42)=false:=by simpa using h42
 have e43:(k==43)=false:=by simpa using h43
 have e44:(k==44)=false:=by simpa using h44
 have e45:(k==45)=false:=by simpa using h45
 simp only[zA,M.ay,M.aC,M.aQ,M.aH,M.bM,M.bf,M.bK,M.bW,M.cO,M.bY,aX,aN,f1,f2,f3,f4,e1,e2,e3,e4,e5,e6,e7,e8,e9,e10,e11,e12,e13,e14,e15,e16,e20,e21,e22,e23,e24,e25,e26,e27,e28,e29,e30,e31,e32,e33,e34,e40,e41,e42,e43,e44,e45,cond_false,ah]
 exact⟨false,rfl,rfl⟩
end Go.Proofs.YtbpldgeajbfgnaaGreatDoor
