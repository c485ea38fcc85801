import Derived.Test.YtoaeipkhadpbiaaGreatDoorPForms5
import Derived.Test.YtoaeipkhadpbiaaGreatDoorVm4
import Derived.Lib.IndexLaws
set_option linter.defProp false
namespace Go.Proofs.YtoaeipkhadpbiaaGreatDoor
set_option linter.unusedVariables false
set_option linter.unusedSimpArgs false
set_option linter.unusedSectionVars false
open Go Go.Vm
open Go.IntKind (i64)
open Int (reduceLE reduceLT reduceSub reduceAdd)
def jh:(∀a b:Int,(a>=b)=(b<=a))/\(∀a b:Int,(a>b)=(b<a))/\(∀h:Decidable True,@decide True h=true)/\(∀h:Decidable False,@decide False h=false)/\(∀(α:Type) (a b:α),cond true a b=a)/\(∀(α:Type) (a b:α),cond false a b=b)/\(∀b:Bool,(b && true)=b)/\(∀b:Bool,(b && false)=false)/\(∀b:Bool,(true && b)=b)/\(∀b:Bool,(false && b)=false)/\((!true)=false)/\((!false)=true):=
 ⟨λ_ _=>rfl,λ_ _=>rfl,λh=>@decide_eq_true True h trivial,λh=>@decide_eq_false False h id,λ_ _ _=>rfl,λ_ _ _=>rfl,λb=>by cases b<;>rfl,λb=>by cases b<;>rfl,λ_=>rfl,λ_=>rfl,rfl,rfl⟩
def bC{m n:Nat}(h:m<=n):m.ble n=true:=Nat.ble_eq_true_of_le h
def aj{α β:Type}(a:α)(f:α->Option β):(some a).bind f=f a:=rfl
def agJ:((0:Nat):Int)=0:=rfl
def tN(s:aK)(a:Int):Int:=if 0<=a then(match s[a.toNat]? with|some c=>(c.toNat:Int)|none=> -1) else -1
def isD(b:Int):Bool:=decide (b>=48) && decide (b<=57)
def Gj(s:aK)(a:Int):Int:=if 0<=a then a+(((s.drop a.toNat).takeWhile λc=>isD (c.toNat:Int)).length:Nat) else a
def aqB(c:UInt8):c.toNat<256:=c.toNat_lt
def Jz(s:aK)(i:Nat):tN s (i:Int)=(match s[i]? with|some c=>(c.toNat:Int)|none=> -1):=by rw[tN,if_pos aC,ztn]
section
variable {s:aK} (h:s.length<=1048576)
include h
theorem Ew(a:Int):M.ig s a=some (tN s a):=by
 simp only[M.ig,M.Td]
 by_cases h0:a<0
 ·rw[zdt h0,aJ,tN,if_neg aC]
 ·rw[Ac h0,aX];obtain⟨i,rfl⟩:∃i:Nat,a=i:=⟨a.toNat,aC⟩
  rw[Jz]
  by_cases h1:(i:Int)>=(s.length:Int)
  ·rw[zdt h1,aJ,List.getElem?_eq_none aC]
  ·obtain⟨c,hc⟩:∃c,s[i]? =some c:=⟨s[i]'aC,by simp⟩
   have:=aqB c;rw[Ac h1,aX,dG,hc,aj,bF aC aC]
theorem Ey(a:Int):M.ji s a=some (tN s a):=by
 simp only[M.ji,M.TB,M.fH,M.GH];rw[bF aC aC]
 by_cases h0:a<0
 ·rw[Ac aC,aX,aj,Bool.not_false,aJ,tN,if_neg aC]
 ·rw[zdt aC,aJ,aj];obtain⟨i,rfl⟩:∃i:Nat,a=i:=⟨a.toNat,aC⟩
  rw[Jz]
  by_cases h1:(i:Int)>=(s.length:Int)
  ·rw[Ac aC,Bool.not_false,aJ,List.getElem?_eq_none aC]
  ·obtain⟨c,hc⟩:∃c,s[i]? =some c:=⟨s[i]'aC,by simp⟩
   have:=aqB c;rw[zdt aC,zaT,aX,dG,hc,aj,bF aC aC]
end
def akt(b:Int):M.vg b=some (isD b):=by simp only[M.vg,M.Qa,M.gI,M.Fz,isD];cases decide (b>=48)<;>rfl
def aku(b:Int):M.vk b=some (isD b):=by simp only[M.vk,M.QA,isD];cases decide (b>=48)<;>rfl
def aEr{s:aK}{b:Int->Option (Int⊕Int)}(hb:∀a,0<=a->a<=2000000->b a=some (bif isD (tN s a) then .inl (a+1) else .inr a))(h:s.length<=1048576):
  ∀(rest pre:aK),s=pre++rest->gU b (pre.length:Int)=some ((pre.length:Int)+((rest.takeWhile λc=>isD (c.toNat:Int)).length:Nat))
 |[],pre,e=>by
  have hl:pre.length=s.length:=by rw[e];simp
  refine aO ?_;rw[hb _ aC aC,Jz,List.getElem?_eq_none aC];simp[isD]
 |c::rest,pre,e=>by
  have hl:s.length=pre.length+(rest.length+1):=by rw[e];simp
  have hget:s[pre.length]? =some c:=by rw[e,List.getElem?_append_right (zaU _),Nat.sub_self];rfl
  have hs:=hb (pre.length:Int) aC aC;rw[Jz,hget] at hs;simp only at hs;cases hd:isD (c.toNat:Int) with
  |true=>have:=aEr hb h rest (pre++[c]) (by rw[e];simp);rw[DJ,Bd] at this;rw[hd,aJ] at hs;rw[aZ hs,List.takeWhile_cons,if_pos hd,show(pre.length:Int)+1=((pre.length+1:Nat):Int) by omega,this];simp;omega
  |false=>rw[hd,aX] at hs;rw[aO hs,List.takeWhile_cons,hd];simp
def azI{s:aK}{b:Int->Option (Int⊕Int)}(hb:∀a,0<=a->a<=2000000->b a=some (bif isD (tN s a) then .inl (a+1) else .inr a))(h:s.length<=1048576)(a:Int)(h0:0<=a)(h1:a<=2000000):gU b a=some (Gj s a):=by
 obtain⟨i,rfl⟩:∃i:Nat,a=i:=⟨a.toNat,aC⟩
 rw[Gj,if_pos h0,ztn]
 by_cases hi:i<=s.length
 ·have:=aEr hb h (s.drop i) (s.take i) (List.take_append_drop i s).symm;rw[zlt,Nat.min_eq_left hi] at this;exact this
 ·rw[List.drop_eq_nil_of_le aC];refine aO ?_;rw[hb _ h0 h1,Jz,List.getElem?_eq_none aC];simp[isD]
def L9{s:aK}(h:s.length<=1048576){a:Int}(h0:0<=a):a<=Gj s a/\(Gj s a<=a\/Gj s a<=s.length):=by have h1:=(List.takeWhile_sublist (p:=λc:UInt8=>isD (c.toNat:Int)) (l:=s.drop a.toNat)).length_le;rw[List.length_drop] at h1;rw[Gj,if_pos h0];omega
section
variable {s:aK} (h:s.length<=1048576)
include h
theorem Io(a:Int)(h0:0<=a)(h1:a<=2000000):M.gJ s a=some (Gj s a):=by simp only[M.gJ,M.Ol,M.MK];rw[azI (λa h0 h1=>by simp only[M.VO,M.Jd,Ew h,akt,aj];rw[bF aC aC];cases isD (tN s a)<;>rfl) h a h0 h1,aj]
theorem Gl(a:Int)(h0:0<=a)(h1:a<=2000000):M.jI s a=some (Gj s a):=by simp only[M.jI,M.MX,M.KA];rw[azI (λa h0 h1=>by simp only[M.UQ,M.GR,Ey h,aku,aj];rw[bF aC aC];cases isD (tN s a)<;>rfl) h a h0 h1,aj]
end
def XA(s:aK)(r:Int):Int:=bif(tN s r==101)||(tN s r==69) then
  (bif(tN s (r+1)==43)||(tN s (r+1)==45) then(bif decide (Gj s (r+1+1)>r+1+1) then Gj s (r+1+1) else r) else(bif decide (Gj s (r+1)>r+1) then Gj s (r+1) else r)) else r
def Wh(s:aK)(a:Int):Int:=if a<0\/(s.length:Int)<=a then -1 else
 bif tN s (Gj s a)==46 then(bif(Gj s a==a) &&(Gj s (Gj s a+1)==Gj s a+1) then -1 else XA s (Gj s (Gj s a+1))) else(bif Gj s a==a then -1 else XA s (Gj s a))
section
variable {s:aK} (h:s.length<=1048576)
include h
set_option maxHeartbeats 2000000 in
theorem aby(a:Int)(ha:a<=1048576):M.Ah s a=some (Wh s a):=by
 simp only[M.Ah,M.TD,M.Ia,M.fH,M.GH,Wh];rw[bF aC aC]
 by_cases h0:a<0
 ·rw[Ac aC,aX,aj,Bool.not_false,aJ,if_pos (.inl h0)]
 ·rw[zdt aC,aJ,aj]
  by_cases h1:(s.length:Int)<=a
  ·rw[Ac aC,Bool.not_false,aJ,if_pos (.inr h1)]
  ·rw[zdt aC,zaT,aX,if_neg aC,Gl h a aC aC,aj];have e1:=L9 h (a:=a) aC;generalize hE:Gj s a=e at e1|-;simp only[Ey h,aj];rw[bF (n:=e+1) aC aC,bF (n:=e - a) aC aC,Gl h (e+1) aC aC,aj];have e2:=L9 h (a:=e+1) aC;generalize hK:Gj s (e+1)=k at e2|-;have hz:(i64.wrap (e - a+i64.wrap (i64.wrap (k - e) - 1))==0)=((e==a) &&(k==e+1)):=by rw[bF (n:=k - e) aC aC,bF (n:=k - e - 1) aC aC,bF aC aC,Bool.eq_iff_iff];simp only[PO,beq_iff_eq];omega
   have hz2:(e - a==0)=(e==a):=by rw[Bool.eq_iff_iff];simp only[beq_iff_eq];omega
   rw[hz,hz2];have ex:∀r:Int,0<=r->r<=1048578->(bif tN s r==101 then
      ((some (tN s (i64.wrap (r+1)))).bind λaQw=>
      (bif aQw==43 then
       ((M.jI s (i64.wrap (i64.wrap (r+1)+1))).bind λaQx=>
       (bif decide (aQx>i64.wrap (i64.wrap (r+1)+1)) then(some aQx) else(some r))) else
       (bif aQw==45 then
       ((M.jI s (i64.wrap (i64.wrap (r+1)+1))).bind λafp=>(bif decide (afp>i64.wrap (i64.wrap (r+1)+1)) then(some afp) else(some r))) else
       ((M.jI s (i64.wrap (r+1))).bind λapa=>(bif decide (apa>i64.wrap (r+1)) then(some apa) else(some r)))))) else
      (bif tN s r==69 then
      ((some (tN s (i64.wrap (r+1)))).bind λagr=>
       (bif agr==43 then
       ((M.jI s (i64.wrap (i64.wrap (r+1)+1))).bind λao9=>(bif decide (ao9>i64.wrap (i64.wrap (r+1)+1)) then(some ao9) else(some r))) else
       (bif agr==45 then
        ((M.jI s (i64.wrap (i64.wrap (r+1)+1))).bind λao8=>
        (bif decide (ao8>i64.wrap (i64.wrap (r+1)+1)) then(some ao8) else(some r))) else
        ((M.jI s (i64.wrap (r+1))).bind λNP=>(bif decide (NP>i64.wrap (r+1)) then(some NP) else(some r)))))) else(some r)))=some (XA s r):=by
    intro r h0 h1;rw[bF (n:=r+1) aC aC,bF (n:=r+1+1) aC aC,Gl h (r+1) aC aC,Gl h (r+1+1) aC aC,XA];simp only[aj];cases tN s r==101<;>cases tN s r==69<;>cases tN s (r+1)==43<;>cases tN s (r+1)==45<;>cases decide (Gj s (r+1+1)>r+1+1)<;>cases decide (Gj s (r+1)>r+1)<;>rfl
   simp only[aj] at ex;cases tN s e==46 with
   |true=>
    simp only[aJ];cases(e==a) &&(k==e+1) with
    |true=>rfl
    |false=>simp only[aX];exact ex k aC aC
   |false=>
    simp only[aX];cases e==a with
    |true=>rfl
    |false=>simp only[aX];have h2:=ex e aC aC;rw[bF (n:=e+1) aC aC,Gl h (e+1) aC aC,hK] at h2;simp only[aj] at h2;exact h2
theorem abz(a:Int)(ha:a<=1048576):M.Af s a=some (Wh s a):=by
 simp only[M.Af,M.Tf,M.Ai,Wh]
 by_cases h0:a<0
 ·rw[zdt h0,aJ,if_pos (.inl h0)]
 ·rw[Ac h0,aX];have e1:=L9 h (a:=a) aC;rw[Io h a aC aC,aj];simp only[Ew h,aj]
  by_cases h1:(s.length:Int)<=a
  ·have he:Gj s a=a:=aC;obtain⟨i,rfl⟩:∃i:Nat,a=i:=⟨a.toNat,aC⟩
   have hb:tN s (i:Int)= -1:=by rw[Jz,List.getElem?_eq_none aC]
   rw[he,hb,if_pos (.inr h1),show((-1:Int)==46)=false from rfl,aX,beq_self_eq_true,aJ]
  ·rw[if_neg aC];generalize hE:Gj s a=e at e1|-;have e2:=L9 h (a:=e+1) aC;rw[bF (n:=e+1) aC aC,Io h (e+1) aC aC,aj];have ex:∀r:Int,0<=r->r<=1048578->(bif tN s r==101 then
      (bif tN s (i64.wrap (r+1))==43 then
       ((M.gJ s (i64.wrap (i64.wrap (r+1)+1))).bind λaE3=>
        (bif decide (aE3>i64.wrap (i64.wrap (r+1)+1)) then
        ((M.gJ s (i64.wrap (i64.wrap (r+1)+1))).bind λaE4=>(some aE4)) else(some r))) else
        (bif tN s (i64.wrap (r+1))==45 then
        ((M.gJ s (i64.wrap (i64.wrap (r+1)+1))).bind λaE9=>
         (bif decide (aE9>i64.wrap (i64.wrap (r+1)+1)) then
         ((M.gJ s (i64.wrap (i64.wrap (r+1)+1))).bind λaFa=>(some aFa)) else(some r))) else
        ((M.gJ s (i64.wrap (r+1))).bind λaE5=>(bif decide (aE5>i64.wrap (r+1)) then((M.gJ s (i64.wrap (r+1))).bind λaBE=>(some aBE)) else(some r))))) else
       (bif tN s r==69 then
        (bif tN s (i64.wrap (r+1))==43 then
        ((M.gJ s (i64.wrap (i64.wrap (r+1)+1))).bind λaXg=>
         (bif decide (aXg>i64.wrap (i64.wrap (r+1)+1)) then
         ((M.gJ s (i64.wrap (i64.wrap (r+1)+1))).bind λaE7=>(some aE7)) else(some r))) else
         (bif tN s (i64.wrap (r+1))==45 then
         ((M.gJ s (i64.wrap (i64.wrap (r+1)+1))).bind λaXh=>
          (bif decide (aXh>i64.wrap (i64.wrap (r+1)+1)) then
          ((M.gJ s (i64.wrap (i64.wrap (r+1)+1))).bind λaXi=>(some aXi)) else(some r))) else
         ((M.gJ s (i64.wrap (r+1))).bind λaXj=>(bif decide (aXj>i64.wrap (r+1)) then((M.gJ s (i64.wrap (r+1))).bind λaFb=>(some aFb)) else(some r))))) else(some r)))=some (XA s r):=by
    intro r h0 h1;rw[bF (n:=r+1) aC aC,bF (n:=r+1+1) aC aC,Io h (r+1) aC aC,Io h (r+1+1) aC aC,XA];simp only[aj];cases tN s r==101<;>cases tN s r==69<;>cases tN s (r+1)==43<;>cases tN s (r+1)==45<;>cases decide (Gj s (r+1+1)>r+1+1)<;>cases decide (Gj s (r+1)>r+1)<;>rfl
   generalize hK:Gj s (e+1)=k at e2|-;have hka:(k==a)=false:=by rw[Y6];omega
   rw[hka];cases tN s e==46 with
   |true=>
    simp only[aJ,aX];cases e==a with
    |true=>
     simp only[aJ,Bool.true_and];cases k==e+1 with
     |true=>rfl
     |false=>simp only[aX];exact ex k aC aC
    |false=>simp only[aX,Bool.false_and];exact ex k aC aC
   |false=>
    simp only[aX];cases e==a with
    |true=>rfl
    |false=>simp only[aX];have h2:=ex e aC aC;rw[bF (n:=e+1) aC aC,Io h (e+1) aC aC,hK] at h2;simp only[aj] at h2;exact h2
end
def afH(q:Int):aK->Int->Int
 |[],_=> -1
 |c::l,i=>if(c.toNat:Int)=q then i+1 else if(c.toNat:Int)=10 then -1 else if(c.toNat:Int)=92 then(match l with
   |[]=> -1
   |d::l'=>if(d.toNat:Int)=10 then -1 else afH q l' (i+2)) else afH q l (i+1)
def agK(q:Int)(c:UInt8)(l:aK)(i:Int):afH q (c::l) i=if(c.toNat:Int)=q then i+1 else if(c.toNat:Int)=10 then -1 else if(c.toNat:Int)=92 then(match l with
   |[]=> -1
   |d::l'=>if(d.toNat:Int)=10 then -1 else afH q l' (i+2)) else afH q l (i+1):=by
 cases l with
 |nil=>simp[afH]
 |cons d l=>simp[afH]
def hdI:aK->Int
 |[]=> -1
 |d::_=>(d.toNat:Int)
def quoted(s:aK)(a q:Int):Int:=if tN s a=q then afH q (s.drop (a+1).toNat) (a+1) else -1
def azJ{s:aK}(h:s.length<=1048576)(q:Int)(hq:q≠10):∀(n:Nat) (rest pre:aK),rest.length<=n->s=pre++rest->
  (∃r,M.zk s q (pre.length:Int)=some r/\(jg r some λu=>letE u λ_=>some (-1))=some (afH q rest (pre.length:Int)))/\
  (∃r,M.xZ s q (pre.length:Int)=some r/\(jg r some λu=>letE u λ_=>some (-1))=some (afH q rest (pre.length:Int)))
 |n,[],pre,hn,e=>by
  have hl:pre.length=s.length:=by rw[e];simp
  constructor
  ·refine⟨.inr (pre.length:Int), ?_,rfl⟩;rw[M.zk];refine aO ?_;simp only[M.DT,M.zi];rw[Ac aC,aX]
  ·refine⟨.inr (pre.length:Int), ?_,rfl⟩;rw[M.xZ];refine aO ?_;simp only[M.BU,M.yD];rw[Ac aC,aX]
 |0,c::rest,pre,hn,e=>by simp at hn
 |n+1,c::rest,pre,hn,e=>by
  simp only[Zr] at hn;have hl:s.length=pre.length+(rest.length+1):=by rw[e];simp
  have hget:s[pre.length]? =some c:=by rw[e,List.getElem?_append_right (zaU _),Nat.sub_self];rfl
  have hc:=aqB c;have hw:i64.wrap ((c.toNat:Nat):Int)=(c.toNat:Int):=bF aC aC;have hw1:i64.wrap ((pre.length:Int)+1)=((pre.length+1:Nat):Int):=by rw[bF aC aC];omega
  have hw2:i64.wrap (((pre.length+1:Nat):Int)+1)=((pre.length+2:Nat):Int):=by rw[bF aC aC];omega
  have hnext:tN s ((pre.length+1:Nat):Int)=hdI rest:=by rw[Jz,e,List.getElem?_append_right aC,show pre.length+1 - pre.length=1 by omega];cases rest<;>rfl
  have hS:M.DT s q (pre.length:Int)=some (if(c.toNat:Int)=q then .inr (.inl ((pre.length+1:Nat):Int)) else if(c.toNat:Int)=10 then .inr (.inl (-1)) else if(c.toNat:Int)=92 then
    (if tN s ((pre.length+1:Nat):Int)=10 then .inr (.inl (-1)) else .inl ((pre.length+2:Nat):Int)) else .inl ((pre.length+1:Nat):Int)):=by
   simp only[M.DT,M.zi,dG,hget,aj,hw,hw1,hw2,Ew h];rw[zdt aC,aJ]
   by_cases c1:(c.toNat:Int)=q
   ·rw[if_pos c1,show((c.toNat:Int)==q)=true by simpa using c1,aJ]
   ·rw[if_neg c1,show((c.toNat:Int)==q)=false by simpa using c1,aX]
    by_cases c2:(c.toNat:Int)=10
    ·rw[if_pos c2,show((c.toNat:Int)==10)=true by simpa using c2,aJ]
    ·rw[if_neg c2,show((c.toNat:Int)==10)=false by simpa using c2,aX]
     by_cases c3:(c.toNat:Int)=92
     ·rw[if_pos c3,show((c.toNat:Int)==92)=true by simpa using c3,aJ]
      by_cases c4:tN s ((pre.length+1:Nat):Int)=10
      ·rw[if_pos c4,c4];rfl
      ·rw[if_neg c4,show(tN s ((pre.length+1:Nat):Int)==10)=false by simpa using c4,aX]
     ·rw[if_neg c3,show((c.toNat:Int)==92)=false by simpa using c3,aX]
  have hI:M.BU s q (pre.length:Int)=some (if(c.toNat:Int)=10 then .inr (.inr (pre.length:Int)) else if(c.toNat:Int)=q then .inr (.inl ((pre.length+1:Nat):Int)) else if(c.toNat:Int)=92 then
    (if tN s ((pre.length+1:Nat):Int)=10 then .inl ((pre.length+1:Nat):Int) else .inl ((pre.length+2:Nat):Int)) else .inl ((pre.length+1:Nat):Int)):=by
   simp only[M.BU,M.yD,dG,hget,aj,hw,hw1,hw2,Ey h];rw[zdt aC,aJ]
   by_cases c2:(c.toNat:Int)=10
   ·rw[if_pos c2,show((c.toNat:Int) !=10)=false by simpa using c2,aX]
   ·rw[if_neg c2,show((c.toNat:Int) !=10)=true by simpa using c2,aJ]
    by_cases c1:(c.toNat:Int)=q
    ·rw[if_pos c1,show((c.toNat:Int)==q)=true by simpa using c1,aJ]
    ·rw[if_neg c1,show((c.toNat:Int)==q)=false by simpa using c1,aX]
     by_cases c3:(c.toNat:Int)=92
     ·rw[if_pos c3,show((c.toNat:Int)==92)=true by simpa using c3,aJ]
      by_cases c4:tN s ((pre.length+1:Nat):Int)=10
      ·rw[if_pos c4,c4];rfl
      ·rw[if_neg c4,show(tN s ((pre.length+1:Nat):Int) !=10)=true by simpa using c4,aJ]
     ·rw[if_neg c3,show((c.toNat:Int)==92)=false by simpa using c3,aX]
  have e1:s=(pre++[c])++rest:=by rw[e];simp
  have ih1:=azJ h q hq n rest (pre++[c]) aC e1;rw[DJ,Bd] at ih1;rw[M.zk,M.xZ] at ih1|-;rw[agK]
  by_cases c1:(c.toNat:Int)=q
  ·have c2:¬(c.toNat:Int)=10:=aC;rw[if_pos c1];rw[if_pos c1] at hS;rw[if_neg c2,if_pos c1] at hI;refine⟨⟨_,aO hS, ?_⟩,⟨_,aO hI, ?_⟩⟩<;>simp[jg]
  ·rw[if_neg c1];rw[if_neg c1] at hS
   by_cases c2:(c.toNat:Int)=10
   ·rw[if_pos c2];rw[if_pos c2] at hS hI;exact⟨⟨_,aO hS,rfl⟩,⟨_,aO hI,rfl⟩⟩
   ·rw[if_neg c2];rw[if_neg c2] at hS hI;rw[if_neg c1] at hI
    by_cases c3:(c.toNat:Int)=92
    ·rw[if_pos c3];rw[if_pos c3] at hS hI;cases rest with
     |nil=>
      rw[hnext,hdI] at hS hI;simp only[show¬((-1:Int)=10) by omega,if_false] at hS hI;have hend:∀(b:Int->Option (Int⊕(Int⊕Int))),True:=λ_=>trivial
      simp only[zln] at hl;refine⟨⟨.inr ((pre.length+2:Nat):Int), ?_,rfl⟩,⟨.inr ((pre.length+2:Nat):Int), ?_,rfl⟩⟩
      ·rw[aZ hS];refine aO ?_;simp only[M.DT,M.zi];rw[Ac aC,aX]
      ·rw[aZ hI];refine aO ?_;simp only[M.BU,M.yD];rw[Ac aC,aX]
     |cons d rest'=>
      simp only[hdI] at hnext|-;rw[hnext] at hS hI
      by_cases c4:(d.toNat:Int)=10
      ·rw[if_pos c4];rw[if_pos c4] at hS hI;refine⟨⟨_,aO hS,rfl⟩, ?_⟩;obtain⟨r,h1,h2⟩:=ih1.2;refine⟨r,by rw[aZ hI];exact h1, ?_⟩;rw[h2,agK,if_neg aC,if_pos c4]
      ·rw[if_neg c4];rw[if_neg c4] at hS hI;have e2:s=(pre++[c,d])++rest':=by rw[e];simp
       simp only[Zr] at hn;have ih2:=azJ h q hq n rest' (pre++[c,d]) aC e2;rw[DJ,show[c,d].length=2 from rfl,M.zk,M.xZ] at ih2;rw[aZ hS,aZ hI,show(pre.length:Int)+2=((pre.length+2:Nat):Int) by omega];exact ih2
    ·rw[if_neg c3];rw[if_neg c3] at hS hI;rw[aZ hS,aZ hI,show(pre.length:Int)+1=((pre.length+1:Nat):Int) by omega];exact ih1
section
variable {s:aK} (h:s.length<=1048576)
include h
theorem amW(a q:Int)(h0:0<=a)(h1:a<=1048576)(hq:0<=q)(hq2:q≠10):M.xk s a q=some (quoted s a q)/\M.uO s a q=some (quoted s a q):=by
 simp only[M.xk,M.Om,M.uO,M.MZ,Ew h,Ey h,aj,quoted]
 by_cases hb:tN s a=q
 ·rw[if_pos hb,show(tN s a !=q)=false by simpa using hb,aX,aX,bF aC aC];obtain⟨i,rfl⟩:∃i:Nat,a=i:=⟨a.toNat,aC⟩
  have hi:i<s.length:=by
   rcases Nat.lt_or_ge i s.length with hlt|hge
   ·exact hlt
   ·rw[Jz,List.getElem?_eq_none hge] at hb;simp only at hb;omega
  obtain⟨⟨r,k1,k2⟩,⟨r',k3,k4⟩⟩:=azJ h q hq2 _ (s.drop (i+1)) (s.take (i+1)) (zaU _) (List.take_append_drop _ s).symm;rw[zlt,Nat.min_eq_left aC] at k1 k2 k3 k4;rw[show(i:Int)+1=((i+1:Nat):Int) by omega,ztn,k1,k3,aj,aj];exact⟨k2,k4⟩
 ·rw[if_neg hb,show(tN s a !=q)=true by simpa using hb,aJ,aJ];exact⟨rfl,rfl⟩
theorem agL(a:Int)(h0:0<=a)(h1:a<=1048576):M.Dj s a=some (quoted s a 34)/\M.Dq s a=some (quoted s a 34):=by have:=amW h a 34 h0 h1 aC aC;simp only[M.Dj,M.Ti,M.Dq,M.TF,this.1,this.2,aj];constructor<;>first|rfl|trivial
def XB(s:aK)(a:Int):Int:=bif quoted s a 47==a+2 then -1 else quoted s a 47
theorem agM(a:Int)(h0:0<=a)(h1:a<=1048576):M.Dk s a=some (XB s a)/\M.Dt s a=some (XB s a):=by have:=amW h a 47 h0 h1 aC aC;simp only[M.Dk,M.Tj,M.Dt,M.TG,this.1,this.2,aj,XB];rw[bF aC aC];cases quoted s a 47==a+2<;>simp
end
end Go.Proofs.YtoaeipkhadpbiaaGreatDoor
namespace Go.Proofs.YtoaeipkhadpbiaaGreatDoor
set_option linter.unusedVariables false
set_option linter.unusedSimpArgs false
set_option linter.unusedSectionVars false
open Go Go.Vm
open Go.IntKind (i64)
open Int (reduceLE reduceLT reduceSub reduceAdd)
@[simp] theorem Ut(l:List (aK)):(encS l).length=l.length:=by simp[encS]
@[simp] theorem abA(l:List (aK))(i:Nat):(encS l)[i]? =(l[i]?).map λs=>[D.str s]:=by simp[encS]
def cS0(s:aK):cStr [D.str s] 0=some s:=rfl
def strsOf:Row->List (aK)
 |[]=>[]
 | .str s::r=>s::strsOf r
 |_::r=>strsOf r
def ZC:List (aK):=strsOf Iz
def ZE:List (aK):=strsOf VN
def aqC:List (aK):=strsOf Pv
def Uu(s:aK):List (aK)->Int->Int
 |[],_=> -1
 |x::l,i=>if x==s then i else Uu s l (i+1)
def abB(s:aK):∀(l:List (aK)) (i:Int),0<=i-> -1<=Uu s l i/\Uu s l i<i+l.length
 |[],i,h=>by simp[Uu];omega
 |x::l,i,h=>by
  rw[Uu];split
  ·simp;omega
  ·have:=abB s l (i+1) aC;simp only[Zr];omega
def amX(s:aK)(l:List (aK))(hl:l.length<=1048576){b:Int->Option (Int⊕(Int⊕Int))}
  (hb:∀(i:Nat) x,l[i]? =some x->b (i:Int)=some (if x==s then .inr (.inl (i:Int)) else .inl ((i:Int)+1))) (he:b (l.length:Int)=some (.inr (.inr (l.length:Int)))):
  ∃r,gU b 0=some r/\(jg r some λu=>letE u λ_=>some (-1))=some (Uu s l 0):=by
 have key:∀(t:List (aK)) (i:Nat),l.drop i=t->i<=l.length->∃r,gU b (i:Int)=some r/\(jg r some λu=>letE u λ_=>some (-1))=some (Uu s t (i:Int)):=by
  intro t;induction t with
  |nil=>
   intro i hd hi;have:i=l.length:=by have:=congrArg List.length hd;simp at this;omega
   subst this;exact⟨_,aO he,rfl⟩
  |cons x t ih=>
   intro i hd hi;have hx:l[i]? =some x:=by
    have:(l.drop i)[0]? =some x:=by rw[hd];rfl
    simpa using this
   have hlt:i<l.length:=(UN.1 hx).1;have hd':l.drop (i+1)=t:=by rw[<-List.drop_drop,hd];rfl
   have hs:=hb i x hx;rw[Uu];cases hxs:x==s with
   |true=>rw[hxs] at hs;exact⟨_,aO hs,rfl⟩
   |false=>
    rw[hxs] at hs;obtain⟨r,h1,h2⟩:=ih (i+1) hd' hlt;refine⟨r, ?_, ?_⟩
    ·rw[aZ hs,show(i:Int)+1=((i+1:Nat):Int) by omega];exact h1
    ·rw[h2];simp
 exact key l 0 rfl (Nat.zero_le _)
def amY(s:aK)(l:List (aK))(hl:l.length<=1048576):M.Dl (encS l) s=some (Uu s l 0):=by
 obtain⟨r,h1,h2⟩:=amX s l hl (b:=M.MN (encS l) s)
  (λi x hx=>by have hi:=(UN.1 hx).1;simp only[M.MN,M.Hg,Ut,dG,abA,hx,Ir,aj,cS0];rw[zdt aC,aJ,bF aC aC];cases x==s<;>rfl)
  (by simp only[M.MN,M.Hg,Ut];rw[Ac aC,aX])
 simp only[M.Dl,M.Tq,M.Qb];rw[h1,aj];exact h2
def akv(s:aK)(l:List (aK))(hl:l.length<=1048576):M.slices_Index (encS l) s=some (Uu s l 0):=by
 obtain⟨r,h1,h2⟩:=amX s l hl (b:=M.KE (encS l) s (l.length:Int))
  (λi x hx=>by have hi:=(UN.1 hx).1;simp only[M.KE,M.FP,dG,abA,hx,Ir,aj,cS0];rw[zdt aC,aJ,bF aC aC,show(s==x)=(x==s) by rw[Bool.eq_iff_iff,beq_iff_eq,beq_iff_eq];exact⟨Eq.symm,Eq.symm⟩];cases x==s<;>rfl)
  (by simp only[M.KE,M.FP];rw[Ac aC,aX])
 simp only[M.slices_Index,M.QB,M.OG,Ut];rw[h1,aj];exact h2
def aia(s:aK):Int:=if Uu s ZC 0<0 then 0 else 10+Uu s ZC 0
def Zn(s:aK):Bool:=decide (Uu s aqC 0>=0)
def aqD:M.CQ=some (encS ZC):=rfl
def aqE:M.BG=some (encS aqC):=rfl
def aqF:M.CS=some (encS ZE):=rfl
def aGr:List.map (λx=>[x]) Iz=encS ZC:=rfl
def aCL:List.map (λx=>[x]) Pv=encS aqC:=rfl
def YX(s:aK):M.rH s=some (aia s)/\M.rM s=some (aia s):=by
 have hr:=abB s ZC 0 aC;have hl:ZC.length=17:=rfl;simp only[M.rH,M.MO,M.rM,M.Nj,aqD,aGr,aj,amY s ZC (by rw[hl];omega),akv s ZC (by rw[hl];omega),aia]
 by_cases h:Uu s ZC 0<0
 ·rw[zdt h,aJ,if_pos h];exact⟨rfl,rfl⟩
 ·rw[Ac h,aX,if_neg h,bF aC aC];exact⟨rfl,rfl⟩
def Rf(s:aK):M.nH s=some (Zn s)/\M.nJ s=some (Zn s):=by have hl:aqC.length=21:=rfl;simp only[M.nH,M.MP,M.nJ,M.Nl,M.slices_Contains,M.FQ,aqE,aCL,aj,amY s aqC (by rw[hl];omega),akv s aqC (by rw[hl];omega),Zn];constructor<;>first|rfl|trivial
def isL(b:Int):Bool:=(decide (b>=97) && decide (b<=122))||((decide (b>=65) && decide (b<=90))||(b==95))
def isW(b:Int):Bool:=isL b||isD b
def PG(b:Int):M.nO b=some (isL b)/\M.nP b=some (isL b):=by simp only[M.nO,M.Oo,M.gI,M.Fz,M.nP,M.OE,isL];cases decide (b>=97)<;>cases decide (b<=122)<;>cases decide (b>=65)<;>cases decide (b<=90)<;>cases(b==95)<;>exact⟨rfl,rfl⟩
def J8(b:Int):M.qm b=some (isW b)/\M.qo b=some (isW b):=by simp only[M.qm,M.Kr,M.qo,M.KC,PG,akt,aku,aj,isW];cases isL b<;>cases isD b<;>exact⟨rfl,rfl⟩
def azK(s:aK):Bool:=s.all λc=>isW (c.toNat:Int)
def aXk:aK->Bool
 |[]=>false
 |c::_=>isL (c.toNat:Int)
def J9(s:aK):Bool:=azK s &&((decide ((s.length:Int)>=1) && decide ((s.length:Int)<=12)) && aXk s)
def akw(s:aK){b:Int->Option (Int⊕(Unit⊕Int))}
  (hb:∀(i:Nat) c,s[i]? =some c->b (i:Int)=some (bif isW (c.toNat:Int) then .inl ((i:Int)+1) else .inr (.inl ()))) (he:b (s.length:Int)=some (.inr (.inr (s.length:Int)))):
  gU b 0=some (bif azK s then .inr (s.length:Int) else .inl ()):=by
 have key:∀(t:aK) (i:Nat),s.drop i=t->i<=s.length->gU b (i:Int)=some (bif azK t then .inr (s.length:Int) else .inl ()):=by
  intro t;induction t with
  |nil=>
   intro i hd hi;have:i=s.length:=by have:=congrArg List.length hd;simp at this;omega
   subst this;exact aO he
  |cons x t ih=>
   intro i hd hi;have hx:s[i]? =some x:=by
    have:(s.drop i)[0]? =some x:=by rw[hd];rfl
    simpa using this
   have hlt:i<s.length:=(UN.1 hx).1;have hd':s.drop (i+1)=t:=by rw[<-List.drop_drop,hd];rfl
   have hs:=hb i x hx;rw[azK,List.all_cons];cases hw:isW (x.toNat:Int) with
   |true=>rw[hw,aJ] at hs;rw[aZ hs,show(i:Int)+1=((i+1:Nat):Int) by omega,ih (i+1) hd' hlt,Bool.true_and];rfl
   |false=>rw[hw,aX] at hs;rw[aO hs];rfl
 exact key s 0 rfl (Nat.zero_le _)
def YZ(s:aK)(h:s.length<=1048576):M.rG s=some (J9 s)/\M.rJ s=some (J9 s):=by
 have hw:∀c:UInt8,i64.wrap ((c.toNat:Nat):Int)=(c.toNat:Int):=λc=>by have:=aqB c;exact bF aC aC
 have h1:=akw s (b:=M.GN s)
  (λi c hc=>by have hi:=(UN.1 hc).1;simp only[M.GN,M.BQ,dG,hc,aj,hw,J8];rw[zdt aC,aJ,bF aC aC];cases isW (c.toNat:Int)<;>rfl)
  (by simp only[M.GN,M.BQ];rw[Ac aC,aX])
 have h2:=akw s (b:=M.GU s (s.length:Int))
  (λi c hc=>by have hi:=(UN.1 hc).1;simp only[M.GU,M.BX,dG,hc,aj,hw,J8];rw[zdt aC,aJ,bF aC aC];cases isW (c.toNat:Int)<;>rfl)
  (by simp only[M.GU,M.BX];rw[Ac aC,aX])
 simp only[M.rG,M.ML,M.rJ,M.Nh,M.Kt,M.KD,M.gI,M.Fz,M.fH,M.GH];rw[h1,h2,aj,aj,J9];cases azK s with
 |false=>exact⟨rfl,rfl⟩
 |true=>
  simp only[aJ,jg,letE,Bool.true_and];cases s with
  |nil=>exact⟨rfl,rfl⟩
  |cons c l=>have hi:idx (c::l) 0=some c:=rfl;simp only[hi,aj,hw,PG];cases decide (((c::l).length:Int)>=1)<;>cases decide (((c::l).length:Int)<=12)<;>exact⟨rfl,rfl⟩
def Rh(s:aK):Bool:=J9 s &&((aia s==0) && !(Zn s))
def agN(s:aK)(h:s.length<=1048576):M.og s=some (Rh s)/\M.lZ s=some (Rh s):=by have h1:=YZ s h;simp only[M.og,M.Tt,M.lZ,M.TI,h1.1,h1.2,YX,Rf,aj,Rh];cases J9 s<;>cases aia s==0<;>cases Zn s<;>exact⟨rfl,rfl⟩
end Go.Proofs.YtoaeipkhadpbiaaGreatDoor
namespace Go.Proofs.YtoaeipkhadpbiaaGreatDoor
set_option linter.unusedVariables false
set_option linter.unusedSimpArgs false
set_option linter.unusedSectionVars false
open Go Go.Vm
open Go.IntKind (i64)
open Int (reduceLE reduceLT reduceSub reduceAdd)
def aEs(c:UInt8)(n:Nat)(h:n<256):(((c.toNat:Nat):Int)==(n:Int))=(c==UInt8.ofNat n):=by
 rw[Bool.eq_iff_iff,beq_iff_eq,beq_iff_eq];constructor
 ·intro e;apply UInt8.toNat_inj.1;rw[UInt8.toNat_ofNat',Nat.mod_eq_of_lt h];omega
 ·rintro rfl;rw[UInt8.toNat_ofNat',Nat.mod_eq_of_lt h]
def hasB(c:UInt8)(s:aK):Bool:=s.any (· ==c)
def awe(s:aK)(c:UInt8):decide (0<=Lib.indexByte s c)=hasB c s:=by
 have hge:=Lib.indexByte_ge s c;rw[Bool.eq_iff_iff,decide_eq_true_eq,hasB,List.any_eq_true];constructor
 ·intro h;obtain⟨i,hi⟩:∃i:Nat,Lib.indexByte s c=i:=⟨(Lib.indexByte s c).toNat,aC⟩
  exact⟨c,zmg (Lib.indexByte_some hi).1,by simp⟩
 ·rintro⟨x,hx,hc⟩;have:=beq_iff_eq.1 hc;subst this;rcases Int.lt_or_le (Lib.indexByte s x) 0 with h|h
  ·obtain⟨i,hi⟩:=List.mem_iff_getElem?.1 hx;exact absurd hi (Lib.indexByte_none aC i)
  ·exact h
def azL(s:aK)(h:s.length<=1000000000):M.E8 s=some (!(hasB 10 s)):=by
 have key:∀(t:aK) (i:Nat),s.drop i=t->i<=s.length->gU (M.Fv s) (i:Int)=some (bif hasB 10 t then .inl () else .inr (s.length:Int)):=by
  intro t;induction t with
  |nil=>
   intro i hd hi;have:i=s.length:=by have:=congrArg List.length hd;simp at this;omega
   subst this;refine aO ?_;simp only[M.Fv,M.Fq];rw[Ac aC,aX];rfl
  |cons x t ih=>
   intro i hd hi;have hx:s[i]? =some x:=by
    have:(s.drop i)[0]? =some x:=by rw[hd];rfl
    simpa using this
   have hlt:i<s.length:=(UN.1 hx).1;have hd':s.drop (i+1)=t:=by rw[<-List.drop_drop,hd];rfl
   have hs:M.Fv s (i:Int)=some (bif x==10 then .inr (.inl ()) else .inl ((i:Int)+1)):=by simp only[M.Fv,M.Fq,dG,hx,aj];rw[zdt aC,aJ,show(10:Int)=((10:Nat):Int) from rfl,aEs _ _ aC,bF aC aC,show(x==UInt8.ofNat 10)=(x==10) from rfl];cases x==10<;>rfl
   rw[hasB,List.any_cons];cases hc:x==10 with
   |true=>rw[hc,aJ] at hs;rw[aO hs];rfl
   |false=>rw[hc,aX] at hs;rw[aZ hs,show(i:Int)+1=((i+1:Nat):Int) by omega,ih (i+1) hd' hlt,Bool.false_or];rfl
 have:=key s 0 rfl (Nat.zero_le _);rw[agJ] at this;simp only[M.E8,M.P9,M.Oj];rw[this,aj];cases hasB 10 s<;>rfl
def aCM:∀i,i<17->cStr Iz i=ZC[i]? :=by decide+kernel
def aua:∀i,i<39->cStr VN i=ZE[i]? :=by decide+kernel
def spell(k:Int):aK:=if k=1 then[10] else if 10<=k/\k<=26 then ZC[(k - 10).toNat]?.getD [] else if 30<=k/\k<=68 then ZE[(k - 30).toNat]?.getD [] else[]
def akx(k:Int)(hk:I64 k):M.sQ k=some (spell k)/\M.Fe k=some (spell k):=by
 have l1:ZC.length=17:=rfl;have l2:ZE.length=39:=rfl;simp only[M.sQ,M.Qd,M.Fe,M.QC,M.vN,M.FT,M.BH,M.KF,M.fH,M.GH,M.gI,M.Fz,aqD,aqF,aj,spell]
 by_cases h1:k=1
 ·subst h1;exact⟨rfl,rfl⟩
 ·rw[show(k==1)=false by simpa using h1,aX,aX,if_neg h1]
  by_cases h2:10<=k/\k<=26
  ·obtain⟨i,hi⟩:∃i:Nat,k=10+i:=⟨(k - 10).toNat,aC⟩
   have hw:i64.wrap (k - 10)=(i:Int):=by rw[bF aC aC];omega
   obtain⟨x,hx⟩:∃x,ZC[i]? =some x:=⟨ZC[i]'aC,by simp⟩
   rw[if_pos h2,zdt (show k>=10 by omega),aJ,zdt (show k<=26 by omega),hw,zdt (show(0:Int)<=(i:Int) by omega),zdt (show(i:Int)<17 by omega)];simp only[aj,aJ,dG,ztn,abA,hx,Ir,cS0,Bool.and_self,Nat.zero_add,Nat.mul_one,aCM i aC];rw[show(k - 10).toNat=i by omega,hx];exact⟨rfl,rfl⟩
  ·have hf:(bif decide (k>=10) then some (decide (k<=26)) else some false)=some false:=by
    by_cases h3:k>=10
    ·rw[zdt h3,aJ,Ac aC]
    ·rw[Ac h3,aX]
   rw[if_neg h2,hf];simp only[aj,aX]
   by_cases h4:30<=k/\k<=68
   ·obtain⟨i,hi⟩:∃i:Nat,k=30+i:=⟨(k - 30).toNat,aC⟩
    have hw:i64.wrap (k - 30)=(i:Int):=by rw[bF aC aC];omega
    obtain⟨x,hx⟩:∃x,ZE[i]? =some x:=⟨ZE[i]'aC,by simp⟩
    rw[if_pos h4,zdt (show k>=30 by omega),aJ,zdt (show k<=68 by omega),hw,zdt (show(0:Int)<=(i:Int) by omega),zdt (show(i:Int)<39 by omega)];simp only[aj,aJ,dG,ztn,abA,hx,Ir,cS0,Bool.and_self,Nat.zero_add,Nat.mul_one,aua i aC];rw[show(k - 30).toNat=i by omega,hx];exact⟨rfl,rfl⟩
   ·have hf:(bif decide (k>=30) then some (decide (k<=68)) else some false)=some false:=by
     by_cases h3:k>=30
     ·rw[zdt h3,aJ,Ac aC]
     ·rw[Ac h3,aX]
    rw[if_neg h4,hf];exact⟨rfl,rfl⟩
def JA(k:Int)(s:aK):Bool:=bif s==[] then false else
 bif k==2 then(tN s 0==35) && !(hasB 10 s) else bif k==3 then Wh s 0==(s.length:Int) else bif k==4 then quoted s 0 34==(s.length:Int) else bif k==5 then XB s 0==(s.length:Int) else
 bif k==6 then Rh s else bif k==7 then Rh s else bif k==8 then Zn s else s==spell k
def aeK(k:Int)(s:aK)(a:Int)(h:s.length<=1048576)(hk:I64 k):M.qV k s a=some (JA k s)/\M.sW k s a=some (JA k s):=by
 have hn:=agN s h;have hb:=Rf s;have hst:=agL h 0 aC aC;have her:=agM h 0 aC aC;have hsp:=akx k hk;have hct:M.strings_Contains s [10]=some (hasB 10 s):=by rw[M.strings_Contains,awe]
 simp only[M.qV,M.Qe,M.sW,M.QD,hn.1,hn.2,hb.1,hb.2,hst.1,hst.2,her.1,her.2,hsp.1,hsp.2,hct,azL s aC,abz h 0 aC,aby h 0 aC,aj,JA];cases s with
 |nil=>refine⟨?_,rfl⟩;have q1:Rh []=false:=rfl;have q2:Zn []=false:=rfl;have q3:(quoted [] 0 34==(([]:aK).length:Int))=false:=rfl;have q4:(XB [] 0==(([]:aK).length:Int))=false:=rfl;rw[q1,q2,q3,q4];cases k==2<;>cases k==3<;>cases k==4<;>cases k==5<;>cases k==6<;>cases k==7<;>cases k==8<;>rfl
 |cons c l=>
  have hi:idx (c::l) 0=some c:=rfl;have hb0:tN (c::l) 0=(c.toNat:Int):=rfl;have hne:((c::l:aK)==[])=false:=rfl;have hgt:decide (((c::l).length:Int)>0)=true:=by simp
  have hsw:(spell k==c::l)=(c::l==spell k):=by rw[Bool.eq_iff_iff,beq_iff_eq,beq_iff_eq];exact⟨Eq.symm,Eq.symm⟩
  rw[hi,hb0,hne,hgt,hsw];simp only[aj,aJ,aX,Bool.not_false];cases k==2<;>cases k==3<;>cases k==4<;>cases k==5<;>cases k==6<;>cases k==7<;>cases k==8<;>cases(c.toNat:Int)==35<;>exact⟨rfl,rfl⟩
end Go.Proofs.YtoaeipkhadpbiaaGreatDoor
namespace Go.Proofs.YtoaeipkhadpbiaaGreatDoor
set_option linter.unusedVariables false
set_option linter.unusedSimpArgs false
set_option linter.unusedSectionVars false
open Go Go.Vm
open Go.IntKind (i64)
open Int (reduceLE reduceLT reduceSub reduceAdd)
def tV(x a b:Int):M.gI x a b=some (decide (x>=a) && decide (x<=b)):=by simp only[M.gI,M.Fz];cases decide (x>=a)<;>rfl
def lF(x a b:Int):M.fH x a b=some (decide (x>=a) && decide (x<=b)):=tV x a b
def aub(op:Int):Bool:=op==60||op==57||op==58||op==59||op==55||op==56||op==99||op==63||op==48||op==47||op==50||op==62||op==49||op==67||op==46||op==45||op==44
def azM(op:Int):M.EZ op=some (aub op)/\∃lv,M.oD op=some lv/\(lv !=0)=aub op:=by
 by_cases h44:op=44
 ·subst h44;exact⟨rfl,_,rfl,rfl⟩
 have e44:(op==44)=false:=by simpa using h44
 by_cases h45:op=45
 ·subst h45;exact⟨rfl,_,rfl,rfl⟩
 have e45:(op==45)=false:=by simpa using h45
 by_cases h67:op=67
 ·subst h67;exact⟨rfl,_,rfl,rfl⟩
 have e67:(op==67)=false:=by simpa using h67
 by_cases h46:op=46
 ·subst h46;exact⟨rfl,_,rfl,rfl⟩
 have e46:(op==46)=false:=by simpa using h46
 by_cases h63:op=63
 ·subst h63;exact⟨rfl,_,rfl,rfl⟩
 have e63:(op==63)=false:=by simpa using h63
 by_cases h48:op=48
 ·subst h48;exact⟨rfl,_,rfl,rfl⟩
 have e48:(op==48)=false:=by simpa using h48
 by_cases h47:op=47
 ·subst h47;exact⟨rfl,_,rfl,rfl⟩
 have e47:(op==47)=false:=by simpa using h47
 by_cases h50:op=50
 ·subst h50;exact⟨rfl,_,rfl,rfl⟩
 have e50:(op==50)=false:=by simpa using h50
 by_cases h62:op=62
 ·subst h62;exact⟨rfl,_,rfl,rfl⟩
 have e62:(op==62)=false:=by simpa using h62
 by_cases h49:op=49
 ·subst h49;exact⟨rfl,_,rfl,rfl⟩
 have e49:(op==49)=false:=by simpa using h49
 by_cases h99:op=99
 ·subst h99;exact⟨rfl,_,rfl,rfl⟩
 have e99:(op==99)=false:=by simpa using h99
 by_cases h55:op=55
 ·subst h55;exact⟨rfl,_,rfl,rfl⟩
 have e55:(op==55)=false:=by simpa using h55
 by_cases h56:op=56
 ·subst h56;exact⟨rfl,_,rfl,rfl⟩
 have e56:(op==56)=false:=by simpa using h56
 by_cases h57:op=57
 ·subst h57;exact⟨rfl,_,rfl,rfl⟩
 have e57:(op==57)=false:=by simpa using h57
 by_cases h58:op=58
 ·subst h58;exact⟨rfl,_,rfl,rfl⟩
 have e58:(op==58)=false:=by simpa using h58
 by_cases h59:op=59
 ·subst h59;exact⟨rfl,_,rfl,rfl⟩
 have e59:(op==59)=false:=by simpa using h59
 by_cases h60:op=60
 ·subst h60;exact⟨rfl,_,rfl,rfl⟩
 have e60:(op==60)=false:=by simpa using h60
 simp only[M.EZ,M.QZ,M.oD,M.LH,aub,e44,e45,e67,e46,e63,e48,e47,e50,e62,e49,e99,e55,e56,e57,e58,e59,e60,aX,Bool.or_self];exact⟨trivial,0,rfl,rfl⟩
def ahJ(op:Int):Bool:=op==54||(decide (op>=38) && decide (op<=43))
def abC(op:Int):M.sD op=some (ahJ op)/\M.xu op=some (ahJ op):=by simp only[M.sD,M.Ku,M.xu,M.OI,tV,lF,aj,ahJ];cases op==54<;>exact⟨rfl,rfl⟩
def abD(s:aK)(l:List (aK))(hl:l.length<=1048576):M.slices_Contains (encS l) s=some (decide (Uu s l 0>=0)):=by simp only[M.slices_Contains,M.FQ,akv s l hl,aj]
def Ko:([[D.str []],[D.str [62]],[D.str [62,62]],[D.str [124]]]:ak)=encS [[],[62],[62,62],[124]]:=rfl
def aeL(s:aK):decide (Uu s [[],[62],[62,62],[124]] 0>=0)=(s==[]||(s==[62]||(s==[62,62]||s==[124]))):=by
 have sw:∀a b:aK,(a==b)=(b==a):=λa b=>by rw[Bool.eq_iff_iff,beq_iff_eq,beq_iff_eq];exact⟨Eq.symm,Eq.symm⟩
 simp only[Uu,sw _ s];cases s==[]<;>cases s==[62]<;>cases s==[62,62]<;>cases s==[124]<;>rfl
def FOk(k op:Int)(t o:aK)(kids:ak):Prop:=∃b,M.dW k op t o kids=some b/\M.jG k op t o kids=some b
def aCN(k:Int)(op:Int)(t o:aK)(kids:ak)(ht:t.length<=1048576)(ho:o.length<=1048576)(hk:kids.length<=400)(hkk:k=1\/k=2\/k=3\/k=4\/k=5\/k=6\/k=7\/k=8\/k=9\/k=10\/k=11\/k=12\/k=13\/k=14\/k=15\/k=16\/k=20\/k=22\/k=23\/k=24\/k=25\/k=26\/k=27\/k=28\/k=29\/k=30\/k=31\/k=32\/k=33\/k=34\/k=40\/k=41\/k=44\/k=45):FOk k op t o kids:=by
 have hn:=agN t ht;have hn2:=agN o ho;have hb:=Rf t;have ha:=abC op;obtain⟨hi,lv,hlv,hi2⟩:=azM op;have tk:=λk hk=>aeK k t 0 ht hk
 have tk2:=tk 2 ⟨aC,aC⟩;have tk3:=tk 3 ⟨aC,aC⟩;have tk4:=tk 4 ⟨aC,aC⟩;have tk5:=tk 5 ⟨aC,aC⟩;have hc2:kP IntKind.i64 [D.int IntKind.i64 3,D.int IntKind.i64 4,D.int IntKind.i64 5] (i64.wrap 0).toNat=some 3:=rfl;have d12:decide ((0:Int)<=i64.wrap 0)=true:=rfl;have d22:decide (i64.wrap 0<3)=true:=rfl;have hc3:kP IntKind.i64 [D.int IntKind.i64 3,D.int IntKind.i64 4,D.int IntKind.i64 5] (i64.wrap 1).toNat=some 4:=rfl;have d13:decide ((0:Int)<=i64.wrap 1)=true:=rfl;have d23:decide (i64.wrap 1<3)=true:=rfl;have hc4:kP IntKind.i64 [D.int IntKind.i64 3,D.int IntKind.i64 4,D.int IntKind.i64 5] (i64.wrap 2).toNat=some 5:=rfl;have d14:decide ((0:Int)<=i64.wrap 2)=true:=rfl;have d24:decide (i64.wrap 2<3)=true:=rfl;have z1:decide ((kids.length:Int)<=400)=true:=zdt aC;have z2:decide ((0:Int)<=(kids.length:Int))=true:=zdt aC;have z3:decide ((kids.length:Int)<=(kids.length:Int))=true:=zdt aC;rcases hkk with rfl|rfl|rfl|rfl|rfl|rfl|rfl|rfl|rfl|rfl|rfl|rfl|rfl|rfl|rfl|rfl|rfl|rfl|rfl|rfl|rfl|rfl|rfl|rfl|rfl|rfl|rfl|rfl|rfl|rfl|rfl|rfl|rfl|rfl<;>simp only[FOk,M.dW,M.fK,M.iT,M.iw,M.jW,M.jM,M.iK,M.iD,M.jG,M.kK,M.gQ,M.mO,M.kM,M.mP,M.kX,M.lJ,M.jS,M.kY,M.lK,M.kZ,M.lM,M.iU,M.nT,tV,lF,hn.1,hn.2,hn2.1,hn2.2,hb.1,hb.2,ha.1,ha.2,hi,hlv,hi2,tk2.1,tk2.2,tk3.1,tk3.2,tk4.1,tk4.2,tk5.1,tk5.2,hc2,d12,d22,hc3,d13,d23,hc4,d14,d24,z1,z2,z3,ge_iff_le,Int.reduceBEq,reduceLE,reduceSub,decide_true,decide_false,aJ,aX,Bool.and_true,Bool.and_false,Bool.true_and,Bool.false_and,aj]
 ·cases(op==0)<;>cases(Rh t)<;>cases(o==[])<;>exact⟨_,rfl,rfl⟩
 ·cases(op==0)<;>cases(JA 3 t)<;>cases(o==[])<;>exact⟨_,rfl,rfl⟩
 ·cases(op==0)<;>cases(JA 4 t)<;>cases(o==[])<;>exact⟨_,rfl,rfl⟩
 ·cases(op==0)<;>cases(JA 5 t)<;>cases(o==[])<;>exact⟨_,rfl,rfl⟩
 ·cases(op==0)<;>cases(Rh t)<;>cases(o==[])<;>exact⟨_,rfl,rfl⟩
 ·cases(op==0)<;>cases(t==[])<;>cases(o==[])<;>exact⟨_,rfl,rfl⟩
 ·cases(op==0)<;>cases(Rh t)<;>cases(o==[])<;>exact⟨_,rfl,rfl⟩
 ·cases(op==0)<;>cases(Zn t)<;>cases(o==[])<;>exact⟨_,rfl,rfl⟩
 ·cases(op==51)<;>cases(op==52)<;>cases(t==[])<;>cases(o==[])<;>exact⟨_,rfl,rfl⟩
 ·cases(op==51)<;>cases(op==52)<;>cases(t==[])<;>cases(o==[])<;>exact⟨_,rfl,rfl⟩
 ·cases(op==55)<;>cases(op==56)<;>cases(op==61)<;>cases(t==[])<;>cases(o==[])<;>exact⟨_,rfl,rfl⟩
 ·cases(aub op)<;>cases(t==[])<;>cases(o==[])<;>exact⟨_,rfl,rfl⟩
 ·cases(op==0)<;>cases(Rh t)<;>cases(o==[])<;>exact⟨_,rfl,rfl⟩
 ·cases(op==0)<;>cases(t==[])<;>cases(o==[])<;>exact⟨_,rfl,rfl⟩
 ·cases(ahJ op)<;>cases(t==[])<;>cases(o==[])<;>exact⟨_,rfl,rfl⟩
 ·cases(op==0)<;>cases(t==[])<;>cases(o==[])<;>exact⟨_,rfl,rfl⟩
 ·cases(op==0)<;>cases(t==[])<;>cases(o==[])<;>exact⟨_,rfl,rfl⟩
 ·cases(op==0)<;>cases(t==[])<;>cases(o==[])<;>exact⟨_,rfl,rfl⟩
 ·cases(op==0)<;>cases(t==[])<;>cases(o==[])<;>exact⟨_,rfl,rfl⟩
 ·cases(op==0)<;>cases(t==[])<;>cases(o==[])<;>exact⟨_,rfl,rfl⟩
 ·cases(op==0)<;>cases(t==[])<;>cases(o==[])<;>exact⟨_,rfl,rfl⟩
 ·cases(op==0)<;>cases(t==[])<;>cases(o==[])<;>exact⟨_,rfl,rfl⟩
 ·cases(op==0)<;>cases(Rh t)<;>cases(o==[])<;>exact⟨_,rfl,rfl⟩
 ·cases(op==0)<;>cases(t==[])<;>cases(o==[])<;>exact⟨_,rfl,rfl⟩
 ·cases(op==0)<;>cases(t==[])<;>cases(o==[])<;>exact⟨_,rfl,rfl⟩
 ·cases(op==0)<;>cases(t==[])<;>cases(o==[])<;>exact⟨_,rfl,rfl⟩
 ·cases(op==0)<;>cases(t==[])<;>cases(o==[])<;>exact⟨_,rfl,rfl⟩
 ·cases(op==0)<;>cases(Rh t)<;>cases(Rh o)<;>exact⟨_,rfl,rfl⟩
 ·cases(op==0)<;>cases(t==[])<;>cases(o==[])<;>exact⟨_,rfl,rfl⟩
 ·cases(op==0)<;>cases(JA 2 t)<;>cases(o==[])<;>exact⟨_,rfl,rfl⟩
 ·cases(op==0)<;>cases(t==[])<;>cases(o==[])<;>exact⟨_,rfl,rfl⟩
 ·cases(op==0)<;>cases(t==[])<;>cases(o==[])<;>exact⟨_,rfl,rfl⟩
 ·cases(op==0)<;>cases(Rh t)<;>cases(o==[])<;>exact⟨_,rfl,rfl⟩
 ·cases(op==0)<;>cases(t==[])<;>cases(o==[])<;>exact⟨_,rfl,rfl⟩
def aQy(op:Int)(t o:aK)(kids:ak)(ht:t.length<=1048576)(ho:o.length<=1048576)(hk:kids.length<=400):FOk 21 op t o kids:=by
 have hp:=abD o [[],[62],[62,62],[124]] (by decide);rw[aeL] at hp
 by_cases h0:op=0
 ·subst h0;simp only[FOk,M.dW,M.fK,M.iT,M.iw,M.jW,M.jM,M.iK,M.iD,M.jG,M.kK,M.gQ,M.mO,M.kM,M.mP,M.kX,M.lJ,M.jS,M.kY,M.lK,M.kZ,M.lM,M.iU,M.nT,tV,lF,Ko,hp,show i64.wrap (0+1)=1 from rfl,show i64.wrap (1+1)=2 from rfl,show i64.wrap (1+i64.wrap (Int.tdiv 1 3))=1 from rfl,show i64.wrap (1+i64.wrap (Int.tdiv 2 3))=1 from rfl,show i64.wrap (1+i64.wrap (Int.tdiv 3 3))=2 from rfl,show i64.wrap (2+i64.wrap (Int.tdiv 1 3))=2 from rfl,show i64.wrap (2+i64.wrap (Int.tdiv 3 3))=3 from rfl,ge_iff_le,Int.reduceBEq,reduceLE,reduceSub,decide_true,decide_false,aJ,aX,Bool.and_true,Bool.and_false,Bool.true_and,Bool.false_and,aj];generalize (t==[])=a0;generalize (o==[])=a1;generalize (o==[62])=a2;generalize (o==[62,62])=a3;generalize (o==[124])=a4;cases a0<;>cases a1<;>cases a2<;>cases a3<;>cases a4<;>exact⟨_,rfl,rfl⟩
 by_cases h1:op=1
 ·subst h1;simp only[FOk,M.dW,M.fK,M.iT,M.iw,M.jW,M.jM,M.iK,M.iD,M.jG,M.kK,M.gQ,M.mO,M.kM,M.mP,M.kX,M.lJ,M.jS,M.kY,M.lK,M.kZ,M.lM,M.iU,M.nT,tV,lF,Ko,hp,show i64.wrap (0+1)=1 from rfl,show i64.wrap (1+1)=2 from rfl,show i64.wrap (1+i64.wrap (Int.tdiv 1 3))=1 from rfl,show i64.wrap (1+i64.wrap (Int.tdiv 2 3))=1 from rfl,show i64.wrap (1+i64.wrap (Int.tdiv 3 3))=2 from rfl,show i64.wrap (2+i64.wrap (Int.tdiv 1 3))=2 from rfl,show i64.wrap (2+i64.wrap (Int.tdiv 3 3))=3 from rfl,ge_iff_le,Int.reduceBEq,reduceLE,reduceSub,decide_true,decide_false,aJ,aX,Bool.and_true,Bool.and_false,Bool.true_and,Bool.false_and,aj];generalize (t==[])=a0;generalize (o==[])=a1;generalize (o==[62])=a2;generalize (o==[62,62])=a3;generalize (o==[124])=a4;cases a0<;>cases a1<;>cases a2<;>cases a3<;>cases a4<;>exact⟨_,rfl,rfl⟩
 have e0:(op==0)=false:=by simpa using h0
 have e1:(op==1)=false:=by simpa using h1
 have hf:(decide ((0:Int)<=op) && decide (op<=1))=false:=by rw[Bool.and_eq_false_iff,decide_eq_false_iff_not,decide_eq_false_iff_not];omega
 simp only[FOk,M.dW,M.fK,M.iT,M.iw,M.jW,M.jM,M.iK,M.iD,M.jG,M.kK,M.gQ,M.mO,M.kM,M.mP,M.kX,M.lJ,M.jS,M.kY,M.lK,M.kZ,M.lM,M.iU,M.nT,tV,lF,Ko,hp,e0,e1,hf,ge_iff_le,Int.reduceBEq,reduceLE,reduceSub,decide_true,decide_false,aJ,aX,Bool.and_true,Bool.and_false,Bool.true_and,Bool.false_and,aj];generalize (t==[])=a0;generalize (o==[])=a1;generalize (o==[62])=a2;generalize (o==[62,62])=a3;generalize (o==[124])=a4;cases a0<;>cases a1<;>cases a2<;>cases a3<;>cases a4<;>exact⟨_,rfl,rfl⟩
def aQz(op:Int)(t o:aK)(kids:ak)(ht:t.length<=1048576)(ho:o.length<=1048576)(hk:kids.length<=400):FOk 42 op t o kids:=by
 have hp:=abD o [[],[62],[62,62],[124]] (by decide);rw[aeL] at hp
 by_cases h1:op=1
 ·subst h1;simp only[FOk,M.dW,M.fK,M.iT,M.iw,M.jW,M.jM,M.iK,M.iD,M.jG,M.kK,M.gQ,M.mO,M.kM,M.mP,M.kX,M.lJ,M.jS,M.kY,M.lK,M.kZ,M.lM,M.iU,M.nT,tV,lF,Ko,hp,show i64.wrap (0+1)=1 from rfl,show i64.wrap (1+1)=2 from rfl,show i64.wrap (1+i64.wrap (Int.tdiv 1 3))=1 from rfl,show i64.wrap (1+i64.wrap (Int.tdiv 2 3))=1 from rfl,show i64.wrap (1+i64.wrap (Int.tdiv 3 3))=2 from rfl,show i64.wrap (2+i64.wrap (Int.tdiv 1 3))=2 from rfl,show i64.wrap (2+i64.wrap (Int.tdiv 3 3))=3 from rfl,ge_iff_le,Int.reduceBEq,reduceLE,reduceSub,decide_true,decide_false,aJ,aX,Bool.and_true,Bool.and_false,Bool.true_and,Bool.false_and,aj];generalize (t==[])=a0;generalize (o==[])=a1;cases a0<;>cases a1<;>exact⟨_,rfl,rfl⟩
 by_cases h2:op=2
 ·subst h2;simp only[FOk,M.dW,M.fK,M.iT,M.iw,M.jW,M.jM,M.iK,M.iD,M.jG,M.kK,M.gQ,M.mO,M.kM,M.mP,M.kX,M.lJ,M.jS,M.kY,M.lK,M.kZ,M.lM,M.iU,M.nT,tV,lF,Ko,hp,show i64.wrap (0+1)=1 from rfl,show i64.wrap (1+1)=2 from rfl,show i64.wrap (1+i64.wrap (Int.tdiv 1 3))=1 from rfl,show i64.wrap (1+i64.wrap (Int.tdiv 2 3))=1 from rfl,show i64.wrap (1+i64.wrap (Int.tdiv 3 3))=2 from rfl,show i64.wrap (2+i64.wrap (Int.tdiv 1 3))=2 from rfl,show i64.wrap (2+i64.wrap (Int.tdiv 3 3))=3 from rfl,ge_iff_le,Int.reduceBEq,reduceLE,reduceSub,decide_true,decide_false,aJ,aX,Bool.and_true,Bool.and_false,Bool.true_and,Bool.false_and,aj];generalize (t==[])=a0;generalize (o==[])=a1;cases a0<;>cases a1<;>exact⟨_,rfl,rfl⟩
 by_cases h3:op=3
 ·subst h3;simp only[FOk,M.dW,M.fK,M.iT,M.iw,M.jW,M.jM,M.iK,M.iD,M.jG,M.kK,M.gQ,M.mO,M.kM,M.mP,M.kX,M.lJ,M.jS,M.kY,M.lK,M.kZ,M.lM,M.iU,M.nT,tV,lF,Ko,hp,show i64.wrap (0+1)=1 from rfl,show i64.wrap (1+1)=2 from rfl,show i64.wrap (1+i64.wrap (Int.tdiv 1 3))=1 from rfl,show i64.wrap (1+i64.wrap (Int.tdiv 2 3))=1 from rfl,show i64.wrap (1+i64.wrap (Int.tdiv 3 3))=2 from rfl,show i64.wrap (2+i64.wrap (Int.tdiv 1 3))=2 from rfl,show i64.wrap (2+i64.wrap (Int.tdiv 3 3))=3 from rfl,ge_iff_le,Int.reduceBEq,reduceLE,reduceSub,decide_true,decide_false,aJ,aX,Bool.and_true,Bool.and_false,Bool.true_and,Bool.false_and,aj];generalize (t==[])=a0;generalize (o==[])=a1;cases a0<;>cases a1<;>exact⟨_,rfl,rfl⟩
 have e1:(op==1)=false:=by simpa using h1
 have e2:(op==2)=false:=by simpa using h2
 have e3:(op==3)=false:=by simpa using h3
 have hf:(decide ((1:Int)<=op) && decide (op<=3))=false:=by rw[Bool.and_eq_false_iff,decide_eq_false_iff_not,decide_eq_false_iff_not];omega
 simp only[FOk,M.dW,M.fK,M.iT,M.iw,M.jW,M.jM,M.iK,M.iD,M.jG,M.kK,M.gQ,M.mO,M.kM,M.mP,M.kX,M.lJ,M.jS,M.kY,M.lK,M.kZ,M.lM,M.iU,M.nT,tV,lF,Ko,hp,e1,e2,e3,hf,ge_iff_le,Int.reduceBEq,reduceLE,reduceSub,decide_true,decide_false,aJ,aX,Bool.and_true,Bool.and_false,Bool.true_and,Bool.false_and,aj];generalize (t==[])=a0;generalize (o==[])=a1;cases a0<;>cases a1<;>exact⟨_,rfl,rfl⟩
def aQA(op:Int)(t o:aK)(kids:ak)(ht:t.length<=1048576)(ho:o.length<=1048576)(hk:kids.length<=400):FOk 43 op t o kids:=by
 have hp:=abD o [[],[62],[62,62],[124]] (by decide);rw[aeL] at hp
 by_cases h1:op=1
 ·subst h1;simp only[FOk,M.dW,M.fK,M.iT,M.iw,M.jW,M.jM,M.iK,M.iD,M.jG,M.kK,M.gQ,M.mO,M.kM,M.mP,M.kX,M.lJ,M.jS,M.kY,M.lK,M.kZ,M.lM,M.iU,M.nT,tV,lF,Ko,hp,show i64.wrap (0+1)=1 from rfl,show i64.wrap (1+1)=2 from rfl,show i64.wrap (1+i64.wrap (Int.tdiv 1 3))=1 from rfl,show i64.wrap (1+i64.wrap (Int.tdiv 2 3))=1 from rfl,show i64.wrap (1+i64.wrap (Int.tdiv 3 3))=2 from rfl,show i64.wrap (2+i64.wrap (Int.tdiv 1 3))=2 from rfl,show i64.wrap (2+i64.wrap (Int.tdiv 3 3))=3 from rfl,ge_iff_le,Int.reduceBEq,reduceLE,reduceSub,decide_true,decide_false,aJ,aX,Bool.and_true,Bool.and_false,Bool.true_and,Bool.false_and,aj];generalize (t==[])=a0;generalize (o==[])=a1;cases a0<;>cases a1<;>exact⟨_,rfl,rfl⟩
 by_cases h3:op=3
 ·subst h3;simp only[FOk,M.dW,M.fK,M.iT,M.iw,M.jW,M.jM,M.iK,M.iD,M.jG,M.kK,M.gQ,M.mO,M.kM,M.mP,M.kX,M.lJ,M.jS,M.kY,M.lK,M.kZ,M.lM,M.iU,M.nT,tV,lF,Ko,hp,show i64.wrap (0+1)=1 from rfl,show i64.wrap (1+1)=2 from rfl,show i64.wrap (1+i64.wrap (Int.tdiv 1 3))=1 from rfl,show i64.wrap (1+i64.wrap (Int.tdiv 2 3))=1 from rfl,show i64.wrap (1+i64.wrap (Int.tdiv 3 3))=2 from rfl,show i64.wrap (2+i64.wrap (Int.tdiv 1 3))=2 from rfl,show i64.wrap (2+i64.wrap (Int.tdiv 3 3))=3 from rfl,ge_iff_le,Int.reduceBEq,reduceLE,reduceSub,decide_true,decide_false,aJ,aX,Bool.and_true,Bool.and_false,Bool.true_and,Bool.false_and,aj];generalize (t==[])=a0;generalize (o==[])=a1;cases a0<;>cases a1<;>exact⟨_,rfl,rfl⟩
 have e1:(op==1)=false:=by simpa using h1
 have e3:(op==3)=false:=by simpa using h3
 have hf:True:=trivial;simp only[FOk,M.dW,M.fK,M.iT,M.iw,M.jW,M.jM,M.iK,M.iD,M.jG,M.kK,M.gQ,M.mO,M.kM,M.mP,M.kX,M.lJ,M.jS,M.kY,M.lK,M.kZ,M.lM,M.iU,M.nT,tV,lF,Ko,hp,e1,e3,hf,ge_iff_le,Int.reduceBEq,reduceLE,reduceSub,decide_true,decide_false,aJ,aX,Bool.and_true,Bool.and_false,Bool.true_and,Bool.false_and,aj];generalize (t==[])=a0;generalize (o==[])=a1;cases a0<;>cases a1<;>exact⟨_,rfl,rfl⟩
def aqG(k:Int)(op:Int)(t o:aK)(kids:ak)(ht:t.length<=1048576)(ho:o.length<=1048576)(hk:kids.length<=400):FOk k op t o kids:=by
 by_cases hkk:k=1\/k=2\/k=3\/k=4\/k=5\/k=6\/k=7\/k=8\/k=9\/k=10\/k=11\/k=12\/k=13\/k=14\/k=15\/k=16\/k=20\/k=22\/k=23\/k=24\/k=25\/k=26\/k=27\/k=28\/k=29\/k=30\/k=31\/k=32\/k=33\/k=34\/k=40\/k=41\/k=44\/k=45
 ·exact aCN k op t o kids ht ho hk hkk
 by_cases h21:k=21
 ·subst h21;exact aQy op t o kids ht ho hk
 by_cases h42:k=42
 ·subst h42;exact aQz op t o kids ht ho hk
 by_cases h43:k=43
 ·subst h43;exact aQA op t o kids ht ho hk
 have h1:k≠1:=aC;have h2:k≠2:=aC;have h3:k≠3:=aC;have h4:k≠4:=aC;have h5:k≠5:=aC;have h6:k≠6:=aC;have h7:k≠7:=aC;have h8:k≠8:=aC;have h9:k≠9:=aC;have h10:k≠10:=aC;have h11:k≠11:=aC;have h12:k≠12:=aC;have h13:k≠13:=aC;have h14:k≠14:=aC;have h15:k≠15:=aC;have h16:k≠16:=aC;have h20:k≠20:=aC;have h22:k≠22:=aC;have h23:k≠23:=aC;have h24:k≠24:=aC;have h25:k≠25:=aC;have h26:k≠26:=aC;have h27:k≠27:=aC;have h28:k≠28:=aC;have h29:k≠29:=aC;have h30:k≠30:=aC;have h31:k≠31:=aC;have h32:k≠32:=aC;have h33:k≠33:=aC;have h34:k≠34:=aC;have h40:k≠40:=aC;have h41:k≠41:=aC;have h44:k≠44:=aC;have h45:k≠45:=aC;have f1:(decide (k>=1) && decide (k<=16))=false:=by rw[Bool.and_eq_false_iff,decide_eq_false_iff_not,decide_eq_false_iff_not];omega
 have f2:(decide (k>=20) && decide (k<=34))=false:=by rw[Bool.and_eq_false_iff,decide_eq_false_iff_not,decide_eq_false_iff_not];omega
 have f3:(decide (k>=40) && decide (k<=45))=false:=by rw[Bool.and_eq_false_iff,decide_eq_false_iff_not,decide_eq_false_iff_not];omega
 have f4:(decide (k>=1) && decide (k<=15))=false:=by rw[Bool.and_eq_false_iff,decide_eq_false_iff_not,decide_eq_false_iff_not];omega
 have g:(k==16)=false:=by simpa using h16
 have e1:(k==1)=false:=by simpa using h1
 have e2:(k==2)=false:=by simpa using h2
 have e3:(k==3)=false:=by simpa using h3
 have e4:(k==4)=false:=by simpa using h4
 have e5:(k==5)=false:=by simpa using h5
 have e6:(k==6)=false:=by simpa using h6
 have e7:(k==7)=false:=by simpa using h7
 have e8:(k==8)=false:=by simpa using h8
 have e9:(k==9)=false:=by simpa using h9
 have e10:(k==10)=false:=by simpa using h10
 have e11:(k==11)=false:=by simpa using h11
 have e12:(k==12)=false:=by simpa using h12
 have e13:(k==13)=false:=by simpa using h13
 have e14:(k==14)=false:=by simpa using h14
 have e15:(k==15)=false:=by simpa using h15
 have e16:(k==16)=false:=by simpa using h16
 have e20:(k==20)=false:=by simpa using h20
 have e21:(k==21)=false:=by simpa using h21
 have e22:(k==22)=false:=by simpa using h22
 have e23:(k==23)=false:=by simpa using h23
 have e24:(k==24)=false:=by simpa using h24
 have e25:(k==25)=false:=by simpa using h25
 have e26:(k==26)=false:=by simpa using h26
 have e27:(k==27)=false:=by simpa using h27
 have e28:(k==28)=false:=by simpa using h28
 have e29:(k==29)=false:=by simpa using h29
 have e30:(k==30)=false:=by simpa using h30
 have e31:(k==31)=false:=by simpa using h31
 have e32:(k==32)=false:=by simpa using h32
 have e33:(k==33)=false:=by simpa using h33
 have e34:(k==34)=false:=by simpa using h34
 have e40:(k==40)=false:=by simpa using h40
 have e41:(k==41)=false:=by simpa using h41
 have e42:(k==42)=false:=by simpa using h42
 have e43:(k==43)=false:=by simpa using h43
 have e44:(k==44)=false:=by simpa using h44
 have e45:(k==45)=false:=by simpa using h45
 simp only[FOk,M.dW,M.fK,M.iT,M.iw,M.jG,M.kK,M.gQ,M.mO,M.kM,M.mP,tV,lF,f1,f2,f3,f4,e1,e2,e3,e4,e5,e6,e7,e8,e9,e10,e11,e12,e13,e14,e15,e16,e20,e21,e22,e23,e24,e25,e26,e27,e28,e29,e30,e31,e32,e33,e34,e40,e41,e42,e43,e44,e45,aX,aj];exact⟨false,rfl,rfl⟩
end Go.Proofs.YtoaeipkhadpbiaaGreatDoor
namespace Go.Proofs.YtoaeipkhadpbiaaGreatDoor
set_option linter.unusedVariables false
set_option linter.unusedSimpArgs false
set_option linter.unusedSectionVars false
open Go Go.Vm
open Go.IntKind (i64)
open Int (reduceLE reduceLT reduceSub reduceAdd)
structure Cons(k op:Int)(n:Nat):Prop where
 two:k=29\/k=30->n=2
 four:k=31->n=4
 rule:k=42->(op=1/\n=1)\/(op=2/\n=1)\/(op=3/\n=2)
 range:k=43->(op=1/\n=2)\/(op=3/\n=3)
def aXl(op:Int)(t o:aK)(kids:ak)(h:M.dW 29 op t o kids=some true):kids.length=2:=by simp only[M.dW,M.fK,M.iT,M.iw,M.jW,M.jM,M.iK,M.iD,tV,lF,Int.reduceBEq,reduceLE,reduceLT,reduceSub,reduceAdd,jh,aj] at h;revert h;cases op==0<;>cases t==[]<;>cases o==[]<;>simp<;>omega
def aXm(op:Int)(t o:aK)(kids:ak)(h:M.dW 30 op t o kids=some true):kids.length=2:=by simp only[M.dW,M.fK,M.iT,M.iw,M.jW,M.jM,M.iK,M.iD,tV,lF,Int.reduceBEq,reduceLE,reduceLT,reduceSub,reduceAdd,jh,aj] at h;revert h;cases op==0<;>cases t==[]<;>cases o==[]<;>simp<;>omega
def aXn(op:Int)(t o:aK)(kids:ak)(h:M.dW 31 op t o kids=some true):kids.length=4:=by simp only[M.dW,M.fK,M.iT,M.iw,M.jW,M.jM,M.iK,M.iD,tV,lF,Int.reduceBEq,reduceLE,reduceLT,reduceSub,reduceAdd,jh,aj] at h;revert h;cases op==0<;>cases t==[]<;>cases o==[]<;>simp<;>omega
def aXo(op:Int)(t o:aK)(kids:ak)(h:M.dW 42 op t o kids=some true):(op=1/\kids.length=1)\/(op=2/\kids.length=1)\/(op=3/\kids.length=2):=by
 by_cases h1:op=1
 ·subst h1;simp only[M.dW,M.fK,M.iT,M.iw,M.jW,M.jM,M.iK,M.iD,tV,lF,show i64.wrap (1+i64.wrap (Int.tdiv 1 3))=1 from rfl,show i64.wrap (1+i64.wrap (Int.tdiv 2 3))=1 from rfl,show i64.wrap (1+i64.wrap (Int.tdiv 3 3))=2 from rfl,show i64.wrap (2+i64.wrap (Int.tdiv 1 3))=2 from rfl,show i64.wrap (2+i64.wrap (Int.tdiv 3 3))=3 from rfl,Int.reduceBEq,reduceLE,reduceLT,reduceSub,reduceAdd,jh,aj] at h;revert h;cases t==[]<;>cases o==[]<;>simp<;>omega
 have e1:(op==1)=false:=by simpa using h1
 by_cases h2:op=2
 ·subst h2;simp only[M.dW,M.fK,M.iT,M.iw,M.jW,M.jM,M.iK,M.iD,tV,lF,show i64.wrap (1+i64.wrap (Int.tdiv 1 3))=1 from rfl,show i64.wrap (1+i64.wrap (Int.tdiv 2 3))=1 from rfl,show i64.wrap (1+i64.wrap (Int.tdiv 3 3))=2 from rfl,show i64.wrap (2+i64.wrap (Int.tdiv 1 3))=2 from rfl,show i64.wrap (2+i64.wrap (Int.tdiv 3 3))=3 from rfl,Int.reduceBEq,reduceLE,reduceLT,reduceSub,reduceAdd,jh,aj] at h;revert h;cases t==[]<;>cases o==[]<;>simp<;>omega
 have e2:(op==2)=false:=by simpa using h2
 by_cases h3:op=3
 ·subst h3;simp only[M.dW,M.fK,M.iT,M.iw,M.jW,M.jM,M.iK,M.iD,tV,lF,show i64.wrap (1+i64.wrap (Int.tdiv 1 3))=1 from rfl,show i64.wrap (1+i64.wrap (Int.tdiv 2 3))=1 from rfl,show i64.wrap (1+i64.wrap (Int.tdiv 3 3))=2 from rfl,show i64.wrap (2+i64.wrap (Int.tdiv 1 3))=2 from rfl,show i64.wrap (2+i64.wrap (Int.tdiv 3 3))=3 from rfl,Int.reduceBEq,reduceLE,reduceLT,reduceSub,reduceAdd,jh,aj] at h;revert h;cases t==[]<;>cases o==[]<;>simp<;>omega
 have e3:(op==3)=false:=by simpa using h3
 have hf:(decide ((1:Int)<=op) && decide (op<=3))=false:=by rw[Bool.and_eq_false_iff,decide_eq_false_iff_not,decide_eq_false_iff_not];omega
 simp only[M.dW,M.fK,M.iT,M.iw,M.jW,M.jM,M.iK,M.iD,tV,lF,e1,e2,e3,hf,Int.reduceBEq,reduceLE,reduceLT,reduceSub,reduceAdd,jh,aj] at h;cases h
def aXp(op:Int)(t o:aK)(kids:ak)(h:M.dW 43 op t o kids=some true):(op=1/\kids.length=2)\/(op=3/\kids.length=3):=by
 by_cases h1:op=1
 ·subst h1;simp only[M.dW,M.fK,M.iT,M.iw,M.jW,M.jM,M.iK,M.iD,tV,lF,show i64.wrap (1+i64.wrap (Int.tdiv 1 3))=1 from rfl,show i64.wrap (1+i64.wrap (Int.tdiv 2 3))=1 from rfl,show i64.wrap (1+i64.wrap (Int.tdiv 3 3))=2 from rfl,show i64.wrap (2+i64.wrap (Int.tdiv 1 3))=2 from rfl,show i64.wrap (2+i64.wrap (Int.tdiv 3 3))=3 from rfl,Int.reduceBEq,reduceLE,reduceLT,reduceSub,reduceAdd,jh,aj] at h;revert h;cases t==[]<;>cases o==[]<;>simp<;>omega
 have e1:(op==1)=false:=by simpa using h1
 by_cases h3:op=3
 ·subst h3;simp only[M.dW,M.fK,M.iT,M.iw,M.jW,M.jM,M.iK,M.iD,tV,lF,show i64.wrap (1+i64.wrap (Int.tdiv 1 3))=1 from rfl,show i64.wrap (1+i64.wrap (Int.tdiv 2 3))=1 from rfl,show i64.wrap (1+i64.wrap (Int.tdiv 3 3))=2 from rfl,show i64.wrap (2+i64.wrap (Int.tdiv 1 3))=2 from rfl,show i64.wrap (2+i64.wrap (Int.tdiv 3 3))=3 from rfl,Int.reduceBEq,reduceLE,reduceLT,reduceSub,reduceAdd,jh,aj] at h;revert h;cases t==[]<;>cases o==[]<;>simp<;>omega
 have e3:(op==3)=false:=by simpa using h3
 have hf:True:=trivial;simp only[M.dW,M.fK,M.iT,M.iw,M.jW,M.jM,M.iK,M.iD,tV,lF,e1,e3,hf,Int.reduceBEq,reduceLE,reduceLT,reduceSub,reduceAdd,jh,aj] at h;cases h
def aCO{k op:Int}{t o:aK}{kids:ak}(h:M.dW k op t o kids=some true):Cons k op kids.length:=
 ⟨λe=>(by rcases e with rfl|rfl;exact aXl op t o kids h;exact aXm op t o kids h),λe=>(by subst e;exact aXn op t o kids h),λe=>(by subst e;exact aXo op t o kids h),λe=>(by subst e;exact aXp op t o kids h)⟩
def EJ(k:Int):Bool:=decide (1<=k) && decide (k<=15)
def abE(k:Int):Bool:=k==1||(k==5||k==6)
def aCP(k:Int):Bool:=decide (20<=k) && decide (k<=34)
def isIt(k:Int):Bool:=decide (40<=k) && decide (k<=44)
def eX(k:Int):M.nZ k=some (EJ k)/\M.gQ k=some (EJ k):=by simp only[M.nZ,M.TQ,M.gQ,M.mO,tV,lF,aj,EJ,ge_iff_le];constructor<;>first|rfl|trivial
def eY(k:Int):M.IB k=some (aCP k)/\M.kM k=some (aCP k):=by simp only[M.IB,M.TR,M.kM,M.mP,tV,lF,aj,aCP,ge_iff_le];constructor<;>first|rfl|trivial
def fA(k:Int):M.gI k 40 44=some (isIt k)/\M.IG k=some (isIt k):=by simp only[M.IG,M.TV,tV,lF,aj,isIt,ge_iff_le];constructor<;>first|rfl|trivial
def dL(k:Int):M.pF k=some (abE k)/\M.xg k=some (abE k):=by simp only[M.pF,M.JJ,M.xg,M.OU,abE];cases k==1<;>cases k==5<;>exact⟨rfl,rfl⟩
def aQB(k:Int):abE k=(EJ k && abE k):=by
 by_cases h1:k=1
 ·subst h1;rfl
 by_cases h5:k=5
 ·subst h5;rfl
 by_cases h6:k=6
 ·subst h6;rfl
 have e:abE k=false:=by simp[abE,h1,h5,h6]
 rw[e,Bool.and_false]
def ET(k op:Int)(t o:aK)(kids:ak)(j d:Int):Prop:=∃b,M.dD k op t o kids j d=some b/\M.dH k op t o kids j d=some b
def aXq(op:Int)(t o:aK)(kids:ak)(j d:Int)(h0:0<=j)(h1:j<kids.length)(hk:kids.length<=400)(hc:Cons 1 op kids.length):ET 1 op t o kids j d:=by simp only[ET,M.dD,M.bV,M.bD,M.dH,M.bW,eX,eY,fA,dL,Int.reduceBEq,reduceLE,reduceLT,reduceSub,reduceAdd,jh,aj];generalize (EJ d)=a0;cases a0<;>exact⟨_,rfl,rfl⟩
def aXr(op:Int)(t o:aK)(kids:ak)(j d:Int)(h0:0<=j)(h1:j<kids.length)(hk:kids.length<=400)(hc:Cons 2 op kids.length):ET 2 op t o kids j d:=by simp only[ET,M.dD,M.bV,M.bD,M.dH,M.bW,eX,eY,fA,dL,Int.reduceBEq,reduceLE,reduceLT,reduceSub,reduceAdd,jh,aj];generalize (EJ d)=a0;cases a0<;>exact⟨_,rfl,rfl⟩
def aXs(op:Int)(t o:aK)(kids:ak)(j d:Int)(h0:0<=j)(h1:j<kids.length)(hk:kids.length<=400)(hc:Cons 3 op kids.length):ET 3 op t o kids j d:=by simp only[ET,M.dD,M.bV,M.bD,M.dH,M.bW,eX,eY,fA,dL,Int.reduceBEq,reduceLE,reduceLT,reduceSub,reduceAdd,jh,aj];generalize (EJ d)=a0;cases a0<;>exact⟨_,rfl,rfl⟩
def aXt(op:Int)(t o:aK)(kids:ak)(j d:Int)(h0:0<=j)(h1:j<kids.length)(hk:kids.length<=400)(hc:Cons 4 op kids.length):ET 4 op t o kids j d:=by simp only[ET,M.dD,M.bV,M.bD,M.dH,M.bW,eX,eY,fA,dL,Int.reduceBEq,reduceLE,reduceLT,reduceSub,reduceAdd,jh,aj];generalize (EJ d)=a0;cases a0<;>exact⟨_,rfl,rfl⟩
def aXu(op:Int)(t o:aK)(kids:ak)(j d:Int)(h0:0<=j)(h1:j<kids.length)(hk:kids.length<=400)(hc:Cons 5 op kids.length):ET 5 op t o kids j d:=by simp only[ET,M.dD,M.bV,M.bD,M.dH,M.bW,eX,eY,fA,dL,Int.reduceBEq,reduceLE,reduceLT,reduceSub,reduceAdd,jh,aj];generalize (EJ d)=a0;cases a0<;>exact⟨_,rfl,rfl⟩
def aXv(op:Int)(t o:aK)(kids:ak)(j d:Int)(h0:0<=j)(h1:j<kids.length)(hk:kids.length<=400)(hc:Cons 6 op kids.length):ET 6 op t o kids j d:=by simp only[ET,M.dD,M.bV,M.bD,M.dH,M.bW,eX,eY,fA,dL,Int.reduceBEq,reduceLE,reduceLT,reduceSub,reduceAdd,jh,aj];generalize (EJ d)=a0;cases a0<;>exact⟨_,rfl,rfl⟩
def aXw(op:Int)(t o:aK)(kids:ak)(j d:Int)(h0:0<=j)(h1:j<kids.length)(hk:kids.length<=400)(hc:Cons 7 op kids.length):ET 7 op t o kids j d:=by simp only[ET,M.dD,M.bV,M.bD,M.dH,M.bW,eX,eY,fA,dL,Int.reduceBEq,reduceLE,reduceLT,reduceSub,reduceAdd,jh,aj];generalize (EJ d)=a0;cases a0<;>exact⟨_,rfl,rfl⟩
def aXx(op:Int)(t o:aK)(kids:ak)(j d:Int)(h0:0<=j)(h1:j<kids.length)(hk:kids.length<=400)(hc:Cons 8 op kids.length):ET 8 op t o kids j d:=by simp only[ET,M.dD,M.bV,M.bD,M.dH,M.bW,eX,eY,fA,dL,Int.reduceBEq,reduceLE,reduceLT,reduceSub,reduceAdd,jh,aj];generalize (EJ d)=a0;cases a0<;>exact⟨_,rfl,rfl⟩
def aXy(op:Int)(t o:aK)(kids:ak)(j d:Int)(h0:0<=j)(h1:j<kids.length)(hk:kids.length<=400)(hc:Cons 9 op kids.length):ET 9 op t o kids j d:=by simp only[ET,M.dD,M.bV,M.bD,M.dH,M.bW,eX,eY,fA,dL,Int.reduceBEq,reduceLE,reduceLT,reduceSub,reduceAdd,jh,aj];generalize (abE d)=a0;cases a0<;>exact⟨_,rfl,rfl⟩
def aQC(op:Int)(t o:aK)(kids:ak)(j d:Int)(h0:0<=j)(h1:j<kids.length)(hk:kids.length<=400)(hc:Cons 10 op kids.length):ET 10 op t o kids j d:=by simp only[ET,M.dD,M.bV,M.bD,M.dH,M.bW,eX,eY,fA,dL,Int.reduceBEq,reduceLE,reduceLT,reduceSub,reduceAdd,jh,aj];generalize (abE d)=a0;cases a0<;>exact⟨_,rfl,rfl⟩
def aQD(op:Int)(t o:aK)(kids:ak)(j d:Int)(h0:0<=j)(h1:j<kids.length)(hk:kids.length<=400)(hc:Cons 11 op kids.length):ET 11 op t o kids j d:=by simp only[ET,M.dD,M.bV,M.bD,M.dH,M.bW,eX,eY,fA,dL,Int.reduceBEq,reduceLE,reduceLT,reduceSub,reduceAdd,jh,aj];generalize (EJ d)=a0;cases a0<;>exact⟨_,rfl,rfl⟩
def aQE(op:Int)(t o:aK)(kids:ak)(j d:Int)(h0:0<=j)(h1:j<kids.length)(hk:kids.length<=400)(hc:Cons 12 op kids.length):ET 12 op t o kids j d:=by simp only[ET,M.dD,M.bV,M.bD,M.dH,M.bW,eX,eY,fA,dL,Int.reduceBEq,reduceLE,reduceLT,reduceSub,reduceAdd,jh,aj];generalize (EJ d)=a0;cases a0<;>exact⟨_,rfl,rfl⟩
def aQF(op:Int)(t o:aK)(kids:ak)(j d:Int)(h0:0<=j)(h1:j<kids.length)(hk:kids.length<=400)(hc:Cons 13 op kids.length):ET 13 op t o kids j d:=by simp only[ET,M.dD,M.bV,M.bD,M.dH,M.bW,eX,eY,fA,dL,Int.reduceBEq,reduceLE,reduceLT,reduceSub,reduceAdd,jh,aj];generalize (EJ d)=a0;cases a0<;>exact⟨_,rfl,rfl⟩
def aQG(op:Int)(t o:aK)(kids:ak)(j d:Int)(h0:0<=j)(h1:j<kids.length)(hk:kids.length<=400)(hc:Cons 14 op kids.length):ET 14 op t o kids j d:=by simp only[ET,M.dD,M.bV,M.bD,M.dH,M.bW,eX,eY,fA,dL,Int.reduceBEq,reduceLE,reduceLT,reduceSub,reduceAdd,jh,aj];generalize (EJ d)=a0;cases a0<;>exact⟨_,rfl,rfl⟩
def aQH(op:Int)(t o:aK)(kids:ak)(j d:Int)(h0:0<=j)(h1:j<kids.length)(hk:kids.length<=400)(hc:Cons 15 op kids.length):ET 15 op t o kids j d:=by
 by_cases hj:j=0
 ·subst hj;have hl:=aQB d;simp only[ET,M.dD,M.bV,M.bD,M.dH,M.bW,eX,eY,fA,dL,Int.reduceBEq,reduceLE,reduceLT,reduceSub,reduceAdd,jh,aj];revert hl;cases EJ d<;>cases abE d<;>intro hl<;>first|exact⟨_,rfl,rfl⟩|cases hl
 have e0:(j==0)=false:=by simpa using hj
 have e1:decide (0<j)=true:=zdt aC;simp only[ET,M.dD,M.bV,M.bD,M.dH,M.bW,eX,eY,fA,dL,e0,e1,Int.reduceBEq,reduceLE,reduceLT,reduceSub,reduceAdd,jh,aj];generalize (EJ d)=a0;cases a0<;>exact⟨_,rfl,rfl⟩
def aQI(op:Int)(t o:aK)(kids:ak)(j d:Int)(h0:0<=j)(h1:j<kids.length)(hk:kids.length<=400)(hc:Cons 16 op kids.length):ET 16 op t o kids j d:=by simp only[ET,M.dD,M.bV,M.bD,M.dH,M.bW,eX,eY,fA,dL,Int.reduceBEq,reduceLE,reduceLT,reduceSub,reduceAdd,jh,aj];generalize (EJ d)=a0;cases a0<;>exact⟨_,rfl,rfl⟩
def aQJ(op:Int)(t o:aK)(kids:ak)(j d:Int)(h0:0<=j)(h1:j<kids.length)(hk:kids.length<=400)(hc:Cons 20 op kids.length):ET 20 op t o kids j d:=by simp only[ET,M.dD,M.bV,M.bD,M.dH,M.bW,eX,eY,fA,dL,Int.reduceBEq,reduceLE,reduceLT,reduceSub,reduceAdd,jh,aj];generalize (EJ d)=a0;cases a0<;>exact⟨_,rfl,rfl⟩
def aQK(op:Int)(t o:aK)(kids:ak)(j d:Int)(h0:0<=j)(h1:j<kids.length)(hk:kids.length<=400)(hc:Cons 21 op kids.length):ET 21 op t o kids j d:=by simp only[ET,M.dD,M.bV,M.bD,M.dH,M.bW,eX,eY,fA,dL,Int.reduceBEq,reduceLE,reduceLT,reduceSub,reduceAdd,jh,aj];generalize (EJ d)=a0;cases a0<;>exact⟨_,rfl,rfl⟩
def aQL(op:Int)(t o:aK)(kids:ak)(j d:Int)(h0:0<=j)(h1:j<kids.length)(hk:kids.length<=400)(hc:Cons 22 op kids.length):ET 22 op t o kids j d:=by simp only[ET,M.dD,M.bV,M.bD,M.dH,M.bW,eX,eY,fA,dL,Int.reduceBEq,reduceLE,reduceLT,reduceSub,reduceAdd,jh,aj];generalize (EJ d)=a0;cases a0<;>exact⟨_,rfl,rfl⟩
def aQM(op:Int)(t o:aK)(kids:ak)(j d:Int)(h0:0<=j)(h1:j<kids.length)(hk:kids.length<=400)(hc:Cons 23 op kids.length):ET 23 op t o kids j d:=by simp only[ET,M.dD,M.bV,M.bD,M.dH,M.bW,eX,eY,fA,dL,Int.reduceBEq,reduceLE,reduceLT,reduceSub,reduceAdd,jh,aj];generalize (EJ d)=a0;cases a0<;>exact⟨_,rfl,rfl⟩
def aQN(op:Int)(t o:aK)(kids:ak)(j d:Int)(h0:0<=j)(h1:j<kids.length)(hk:kids.length<=400)(hc:Cons 24 op kids.length):ET 24 op t o kids j d:=by simp only[ET,M.dD,M.bV,M.bD,M.dH,M.bW,eX,eY,fA,dL,Int.reduceBEq,reduceLE,reduceLT,reduceSub,reduceAdd,jh,aj];generalize (EJ d)=a0;cases a0<;>exact⟨_,rfl,rfl⟩
def aQO(op:Int)(t o:aK)(kids:ak)(j d:Int)(h0:0<=j)(h1:j<kids.length)(hk:kids.length<=400)(hc:Cons 25 op kids.length):ET 25 op t o kids j d:=by simp only[ET,M.dD,M.bV,M.bD,M.dH,M.bW,eX,eY,fA,dL,Int.reduceBEq,reduceLE,reduceLT,reduceSub,reduceAdd,jh,aj];generalize (EJ d)=a0;cases a0<;>exact⟨_,rfl,rfl⟩
def aQP(op:Int)(t o:aK)(kids:ak)(j d:Int)(h0:0<=j)(h1:j<kids.length)(hk:kids.length<=400)(hc:Cons 26 op kids.length):ET 26 op t o kids j d:=by simp only[ET,M.dD,M.bV,M.bD,M.dH,M.bW,eX,eY,fA,dL,Int.reduceBEq,reduceLE,reduceLT,reduceSub,reduceAdd,jh,aj];generalize (EJ d)=a0;cases a0<;>exact⟨_,rfl,rfl⟩
def aQQ(op:Int)(t o:aK)(kids:ak)(j d:Int)(h0:0<=j)(h1:j<kids.length)(hk:kids.length<=400)(hc:Cons 27 op kids.length):ET 27 op t o kids j d:=by simp only[ET,M.dD,M.bV,M.bD,M.dH,M.bW,eX,eY,fA,dL,Int.reduceBEq,reduceLE,reduceLT,reduceSub,reduceAdd,jh,aj];generalize (EJ d)=a0;cases a0<;>exact⟨_,rfl,rfl⟩
def aQR(op:Int)(t o:aK)(kids:ak)(j d:Int)(h0:0<=j)(h1:j<kids.length)(hk:kids.length<=400)(hc:Cons 28 op kids.length):ET 28 op t o kids j d:=by
 by_cases hj:j=0
 ·subst hj;simp only[ET,M.dD,M.bV,M.bD,M.dH,M.bW,eX,eY,fA,dL,Int.reduceBEq,reduceLE,reduceLT,reduceSub,reduceAdd,jh,aj];generalize (EJ d)=a0;generalize (d==33)=a1;cases a0<;>cases a1<;>exact⟨_,rfl,rfl⟩
 have e0:(j==0)=false:=by simpa using hj
 have e1:decide (0<j)=true:=zdt aC;simp only[ET,M.dD,M.bV,M.bD,M.dH,M.bW,eX,eY,fA,dL,e0,e1,Int.reduceBEq,reduceLE,reduceLT,reduceSub,reduceAdd,jh,aj];generalize (d==33)=a0;cases a0<;>exact⟨_,rfl,rfl⟩
def aQS(op:Int)(t o:aK)(kids:ak)(j d:Int)(h0:0<=j)(h1:j<kids.length)(hk:kids.length<=400)(hc:Cons 29 op kids.length):ET 29 op t o kids j d:=by
 have hl:=hc.two aC;obtain rfl|rfl:j=0\/j=1:=aC
 ·simp only[ET,M.dD,M.bV,M.bD,M.dH,M.bW,eX,eY,fA,dL,Int.reduceBEq,reduceLE,reduceLT,reduceSub,reduceAdd,jh,aj];generalize (EJ d)=a0;generalize (d==33)=a1;cases a0<;>cases a1<;>exact⟨_,rfl,rfl⟩
 ·simp only[ET,M.dD,M.bV,M.bD,M.dH,M.bW,eX,eY,fA,dL,Int.reduceBEq,reduceLE,reduceLT,reduceSub,reduceAdd,jh,aj];generalize (EJ d)=a0;generalize (d==33)=a1;cases a0<;>cases a1<;>exact⟨_,rfl,rfl⟩
def aQT(op:Int)(t o:aK)(kids:ak)(j d:Int)(h0:0<=j)(h1:j<kids.length)(hk:kids.length<=400)(hc:Cons 30 op kids.length):ET 30 op t o kids j d:=by
 have hl:=hc.two aC;obtain rfl|rfl:j=0\/j=1:=aC
 ·simp only[ET,M.dD,M.bV,M.bD,M.dH,M.bW,eX,eY,fA,dL,Int.reduceBEq,reduceLE,reduceLT,reduceSub,reduceAdd,jh,aj];generalize (EJ d)=a0;generalize (d==33)=a1;cases a0<;>cases a1<;>exact⟨_,rfl,rfl⟩
 ·simp only[ET,M.dD,M.bV,M.bD,M.dH,M.bW,eX,eY,fA,dL,Int.reduceBEq,reduceLE,reduceLT,reduceSub,reduceAdd,jh,aj];generalize (EJ d)=a0;generalize (d==33)=a1;cases a0<;>cases a1<;>exact⟨_,rfl,rfl⟩
def aQU(op:Int)(t o:aK)(kids:ak)(j d:Int)(h0:0<=j)(h1:j<kids.length)(hk:kids.length<=400)(hc:Cons 31 op kids.length):ET 31 op t o kids j d:=by
 have hl:=hc.four rfl;have hw:i64.wrap ((kids.length:Int) - 1)=3:=by rw[hl];rfl
 obtain rfl|rfl|rfl|rfl:j=0\/j=1\/j=2\/j=3:=aC
 ·simp only[ET,M.dD,M.bV,M.bD,M.dH,M.bW,eX,eY,fA,dL,hw,Int.reduceBEq,reduceLE,reduceLT,reduceSub,reduceAdd,jh,aj];generalize (EJ d)=a0;generalize (d==16)=a1;generalize (d==33)=a2;cases a0<;>cases a1<;>cases a2<;>exact⟨_,rfl,rfl⟩
 ·simp only[ET,M.dD,M.bV,M.bD,M.dH,M.bW,eX,eY,fA,dL,hw,Int.reduceBEq,reduceLE,reduceLT,reduceSub,reduceAdd,jh,aj];generalize (EJ d)=a0;generalize (d==16)=a1;generalize (d==33)=a2;cases a0<;>cases a1<;>cases a2<;>exact⟨_,rfl,rfl⟩
 ·simp only[ET,M.dD,M.bV,M.bD,M.dH,M.bW,eX,eY,fA,dL,hw,Int.reduceBEq,reduceLE,reduceLT,reduceSub,reduceAdd,jh,aj];generalize (EJ d)=a0;generalize (d==16)=a1;generalize (d==33)=a2;cases a0<;>cases a1<;>cases a2<;>exact⟨_,rfl,rfl⟩
 ·simp only[ET,M.dD,M.bV,M.bD,M.dH,M.bW,eX,eY,fA,dL,hw,Int.reduceBEq,reduceLE,reduceLT,reduceSub,reduceAdd,jh,aj];generalize (EJ d)=a0;generalize (d==16)=a1;generalize (d==33)=a2;cases a0<;>cases a1<;>cases a2<;>exact⟨_,rfl,rfl⟩
def aQV(op:Int)(t o:aK)(kids:ak)(j d:Int)(h0:0<=j)(h1:j<kids.length)(hk:kids.length<=400)(hc:Cons 32 op kids.length):ET 32 op t o kids j d:=by simp only[ET,M.dD,M.bV,M.bD,M.dH,M.bW,eX,eY,fA,dL,Int.reduceBEq,reduceLE,reduceLT,reduceSub,reduceAdd,jh,aj];generalize (d==33)=a0;cases a0<;>exact⟨_,rfl,rfl⟩
def aQW(op:Int)(t o:aK)(kids:ak)(j d:Int)(h0:0<=j)(h1:j<kids.length)(hk:kids.length<=400)(hc:Cons 33 op kids.length):ET 33 op t o kids j d:=by simp only[ET,M.dD,M.bV,M.bD,M.dH,M.bW,eX,eY,fA,dL,Int.reduceBEq,reduceLE,reduceLT,reduceSub,reduceAdd,jh,aj];generalize (aCP d)=a0;cases a0<;>exact⟨_,rfl,rfl⟩
def aQX(op:Int)(t o:aK)(kids:ak)(j d:Int)(h0:0<=j)(h1:j<kids.length)(hk:kids.length<=400)(hc:Cons 34 op kids.length):ET 34 op t o kids j d:=by simp only[ET,M.dD,M.bV,M.bD,M.dH,M.bW,eX,eY,fA,dL,Int.reduceBEq,reduceLE,reduceLT,reduceSub,reduceAdd,jh,aj];generalize (EJ d)=a0;cases a0<;>exact⟨_,rfl,rfl⟩
def aQY(op:Int)(t o:aK)(kids:ak)(j d:Int)(h0:0<=j)(h1:j<kids.length)(hk:kids.length<=400)(hc:Cons 40 op kids.length):ET 40 op t o kids j d:=by simp only[ET,M.dD,M.bV,M.bD,M.dH,M.bW,eX,eY,fA,dL,Int.reduceBEq,reduceLE,reduceLT,reduceSub,reduceAdd,jh,aj];generalize (d==33)=a0;cases a0<;>exact⟨_,rfl,rfl⟩
def aQZ(op:Int)(t o:aK)(kids:ak)(j d:Int)(h0:0<=j)(h1:j<kids.length)(hk:kids.length<=400)(hc:Cons 41 op kids.length):ET 41 op t o kids j d:=by simp only[ET,M.dD,M.bV,M.bD,M.dH,M.bW,eX,eY,fA,dL,Int.reduceBEq,reduceLE,reduceLT,reduceSub,reduceAdd,jh,aj];generalize (d==33)=a0;cases a0<;>exact⟨_,rfl,rfl⟩
def aQ0(op:Int)(t o:aK)(kids:ak)(j d:Int)(h0:0<=j)(h1:j<kids.length)(hk:kids.length<=400)(hc:Cons 42 op kids.length):ET 42 op t o kids j d:=by
 rcases hc.rule rfl with⟨rfl,hl⟩|⟨rfl,hl⟩|⟨rfl,hl⟩
 ·have hw:i64.wrap ((kids.length:Int) - 1)=0:=by rw[hl];rfl
  obtain rfl:j=0:=aC;simp only[ET,M.dD,M.bV,M.bD,M.dH,M.bW,eX,eY,fA,dL,hw,Int.reduceBEq,reduceLE,reduceLT,reduceSub,reduceAdd,jh,aj];generalize (EJ d)=a0;generalize (d==33)=a1;cases a0<;>cases a1<;>exact⟨_,rfl,rfl⟩
 ·have hw:i64.wrap ((kids.length:Int) - 1)=0:=by rw[hl];rfl
  obtain rfl:j=0:=aC;simp only[ET,M.dD,M.bV,M.bD,M.dH,M.bW,eX,eY,fA,dL,hw,Int.reduceBEq,reduceLE,reduceLT,reduceSub,reduceAdd,jh,aj];generalize (EJ d)=a0;generalize (d==33)=a1;cases a0<;>cases a1<;>exact⟨_,rfl,rfl⟩
 ·have hw:i64.wrap ((kids.length:Int) - 1)=1:=by rw[hl];rfl
  obtain rfl|rfl:j=0\/j=1:=aC
  ·simp only[ET,M.dD,M.bV,M.bD,M.dH,M.bW,eX,eY,fA,dL,hw,Int.reduceBEq,reduceLE,reduceLT,reduceSub,reduceAdd,jh,aj];generalize (EJ d)=a0;generalize (d==33)=a1;cases a0<;>cases a1<;>exact⟨_,rfl,rfl⟩
  ·simp only[ET,M.dD,M.bV,M.bD,M.dH,M.bW,eX,eY,fA,dL,hw,Int.reduceBEq,reduceLE,reduceLT,reduceSub,reduceAdd,jh,aj];generalize (EJ d)=a0;generalize (d==33)=a1;cases a0<;>cases a1<;>exact⟨_,rfl,rfl⟩
def aQ1(op:Int)(t o:aK)(kids:ak)(j d:Int)(h0:0<=j)(h1:j<kids.length)(hk:kids.length<=400)(hc:Cons 43 op kids.length):ET 43 op t o kids j d:=by
 rcases hc.range rfl with⟨rfl,hl⟩|⟨rfl,hl⟩
 ·have hw:i64.wrap ((kids.length:Int) - 1)=1:=by rw[hl];rfl
  obtain rfl|rfl:j=0\/j=1:=aC
  ·simp only[ET,M.dD,M.bV,M.bD,M.dH,M.bW,eX,eY,fA,dL,hw,Int.reduceBEq,reduceLE,reduceLT,reduceSub,reduceAdd,jh,aj];generalize (EJ d)=a0;generalize (d==33)=a1;cases a0<;>cases a1<;>exact⟨_,rfl,rfl⟩
  ·simp only[ET,M.dD,M.bV,M.bD,M.dH,M.bW,eX,eY,fA,dL,hw,Int.reduceBEq,reduceLE,reduceLT,reduceSub,reduceAdd,jh,aj];generalize (EJ d)=a0;generalize (d==33)=a1;cases a0<;>cases a1<;>exact⟨_,rfl,rfl⟩
 ·have hw:i64.wrap ((kids.length:Int) - 1)=2:=by rw[hl];rfl
  obtain rfl|rfl|rfl:j=0\/j=1\/j=2:=aC
  ·simp only[ET,M.dD,M.bV,M.bD,M.dH,M.bW,eX,eY,fA,dL,hw,Int.reduceBEq,reduceLE,reduceLT,reduceSub,reduceAdd,jh,aj];generalize (EJ d)=a0;generalize (d==33)=a1;cases a0<;>cases a1<;>exact⟨_,rfl,rfl⟩
  ·simp only[ET,M.dD,M.bV,M.bD,M.dH,M.bW,eX,eY,fA,dL,hw,Int.reduceBEq,reduceLE,reduceLT,reduceSub,reduceAdd,jh,aj];generalize (EJ d)=a0;generalize (d==33)=a1;cases a0<;>cases a1<;>exact⟨_,rfl,rfl⟩
  ·simp only[ET,M.dD,M.bV,M.bD,M.dH,M.bW,eX,eY,fA,dL,hw,Int.reduceBEq,reduceLE,reduceLT,reduceSub,reduceAdd,jh,aj];generalize (EJ d)=a0;generalize (d==33)=a1;cases a0<;>cases a1<;>exact⟨_,rfl,rfl⟩
def aQ2(op:Int)(t o:aK)(kids:ak)(j d:Int)(h0:0<=j)(h1:j<kids.length)(hk:kids.length<=400)(hc:Cons 44 op kids.length):ET 44 op t o kids j d:=by simp only[ET,M.dD,M.bV,M.bD,M.dH,M.bW,eX,eY,fA,dL,Int.reduceBEq,reduceLE,reduceLT,reduceSub,reduceAdd,jh,aj];generalize (j==i64.wrap ((kids.length:Int) - 1))=a0;generalize (d==33)=a1;generalize (d==1)=a2;cases a0<;>cases a1<;>cases a2<;>exact⟨_,rfl,rfl⟩
def aQ3(op:Int)(t o:aK)(kids:ak)(j d:Int)(h0:0<=j)(h1:j<kids.length)(hk:kids.length<=400)(hc:Cons 45 op kids.length):ET 45 op t o kids j d:=by simp only[ET,M.dD,M.bV,M.bD,M.dH,M.bW,eX,eY,fA,dL,Int.reduceBEq,reduceLE,reduceLT,reduceSub,reduceAdd,jh,aj];generalize (isIt d)=a0;generalize (d==34)=a1;cases a0<;>cases a1<;>exact⟨_,rfl,rfl⟩
def aGs(k:Int)(op:Int)(t o:aK)(kids:ak)(j d:Int)(hj0:0<=j)(hj1:j<kids.length)(hk:kids.length<=400)(hc:Cons k op kids.length):ET k op t o kids j d:=by
 by_cases h1:k=1
 ·subst h1;exact aXq op t o kids j d hj0 hj1 hk hc
 by_cases h2:k=2
 ·subst h2;exact aXr op t o kids j d hj0 hj1 hk hc
 by_cases h3:k=3
 ·subst h3;exact aXs op t o kids j d hj0 hj1 hk hc
 by_cases h4:k=4
 ·subst h4;exact aXt op t o kids j d hj0 hj1 hk hc
 by_cases h5:k=5
 ·subst h5;exact aXu op t o kids j d hj0 hj1 hk hc
 by_cases h6:k=6
 ·subst h6;exact aXv op t o kids j d hj0 hj1 hk hc
 by_cases h7:k=7
 ·subst h7;exact aXw op t o kids j d hj0 hj1 hk hc
 by_cases h8:k=8
 ·subst h8;exact aXx op t o kids j d hj0 hj1 hk hc
 by_cases h9:k=9
 ·subst h9;exact aXy op t o kids j d hj0 hj1 hk hc
 by_cases h10:k=10
 ·subst h10;exact aQC op t o kids j d hj0 hj1 hk hc
 by_cases h11:k=11
 ·subst h11;exact aQD op t o kids j d hj0 hj1 hk hc
 by_cases h12:k=12
 ·subst h12;exact aQE op t o kids j d hj0 hj1 hk hc
 by_cases h13:k=13
 ·subst h13;exact aQF op t o kids j d hj0 hj1 hk hc
 by_cases h14:k=14
 ·subst h14;exact aQG op t o kids j d hj0 hj1 hk hc
 by_cases h15:k=15
 ·subst h15;exact aQH op t o kids j d hj0 hj1 hk hc
 by_cases h16:k=16
 ·subst h16;exact aQI op t o kids j d hj0 hj1 hk hc
 by_cases h20:k=20
 ·subst h20;exact aQJ op t o kids j d hj0 hj1 hk hc
 by_cases h21:k=21
 ·subst h21;exact aQK op t o kids j d hj0 hj1 hk hc
 by_cases h22:k=22
 ·subst h22;exact aQL op t o kids j d hj0 hj1 hk hc
 by_cases h23:k=23
 ·subst h23;exact aQM op t o kids j d hj0 hj1 hk hc
 by_cases h24:k=24
 ·subst h24;exact aQN op t o kids j d hj0 hj1 hk hc
 by_cases h25:k=25
 ·subst h25;exact aQO op t o kids j d hj0 hj1 hk hc
 by_cases h26:k=26
 ·subst h26;exact aQP op t o kids j d hj0 hj1 hk hc
 by_cases h27:k=27
 ·subst h27;exact aQQ op t o kids j d hj0 hj1 hk hc
 by_cases h28:k=28
 ·subst h28;exact aQR op t o kids j d hj0 hj1 hk hc
 by_cases h29:k=29
 ·subst h29;exact aQS op t o kids j d hj0 hj1 hk hc
 by_cases h30:k=30
 ·subst h30;exact aQT op t o kids j d hj0 hj1 hk hc
 by_cases h31:k=31
 ·subst h31;exact aQU op t o kids j d hj0 hj1 hk hc
 by_cases h32:k=32
 ·subst h32;exact aQV op t o kids j d hj0 hj1 hk hc
 by_cases h33:k=33
 ·subst h33;exact aQW op t o kids j d hj0 hj1 hk hc
 by_cases h34:k=34
 ·subst h34;exact aQX op t o kids j d hj0 hj1 hk hc
 by_cases h40:k=40
 ·subst h40;exact aQY op t o kids j d hj0 hj1 hk hc
 by_cases h41:k=41
 ·subst h41;exact aQZ op t o kids j d hj0 hj1 hk hc
 by_cases h42:k=42
 ·subst h42;exact aQ0 op t o kids j d hj0 hj1 hk hc
 by_cases h43:k=43
 ·subst h43;exact aQ1 op t o kids j d hj0 hj1 hk hc
 by_cases h44:k=44
 ·subst h44;exact aQ2 op t o kids j d hj0 hj1 hk hc
 by_cases h45:k=45
 ·subst h45;exact aQ3 op t o kids j d hj0 hj1 hk hc
 have e1:(k==1)=false:=by simpa using h1
 have e2:(k==2)=false:=by simpa using h2
 have e3:(k==3)=false:=by simpa using h3
 have e4:(k==4)=false:=by simpa using h4
 have e5:(k==5)=false:=by simpa using h5
 have e6:(k==6)=false:=by simpa using h6
 have e7:(k==7)=false:=by simpa using h7
 have e8:(k==8)=false:=by simpa using h8
 have e9:(k==9)=false:=by simpa using h9
 have e10:(k==10)=false:=by simpa using h10
 have e11:(k==11)=false:=by simpa using h11
 have e12:(k==12)=false:=by simpa using h12
 have e13:(k==13)=false:=by simpa using h13
 have e14:(k==14)=false:=by simpa using h14
 have e15:(k==15)=false:=by simpa using h15
 have e16:(k==16)=false:=by simpa using h16
 have e20:(k==20)=false:=by simpa using h20
 have e21:(k==21)=false:=by simpa using h21
 have e22:(k==22)=false:=by simpa using h22
 have e23:(k==23)=false:=by simpa using h23
 have e24:(k==24)=false:=by simpa using h24
 have e25:(k==25)=false:=by simpa using h25
 have e26:(k==26)=false:=by simpa using h26
 have e27:(k==27)=false:=by simpa using h27
 have e28:(k==28)=false:=by simpa using h28
 have e29:(k==29)=false:=by simpa using h29
 have e30:(k==30)=false:=by simpa using h30
 have e31:(k==31)=false:=by simpa using h31
 have e32:(k==32)=false:=by simpa using h32
 have e33:(k==33)=false:=by simpa using h33
 have e34:(k==34)=false:=by simpa using h34
 have e40:(k==40)=false:=by simpa using h40
 have e41:(k==41)=false:=by simpa using h41
 have e42:(k==42)=false:=by simpa using h42
 have e43:(k==43)=false:=by simpa using h43
 have e44:(k==44)=false:=by simpa using h44
 have e45:(k==45)=false:=by simpa using h45
 simp only[ET,M.dD,M.bV,M.bD,M.dH,M.bW,eX,eY,fA,dL,e1,e2,e3,e4,e5,e6,e7,e8,e9,e10,e11,e12,e13,e14,e15,e16,e20,e21,e22,e23,e24,e25,e26,e27,e28,e29,e30,e31,e32,e33,e34,e40,e41,e42,e43,e44,e45,aX,aj];exact⟨_,rfl,rfl⟩
end Go.Proofs.YtoaeipkhadpbiaaGreatDoor
namespace Go.Proofs.YtoaeipkhadpbiaaGreatDoor
set_option linter.unusedVariables false
set_option linter.unusedSimpArgs false
open Go Go.Vm
open Go.IntKind (i64)
open Int (reduceLE reduceLT reduceSub reduceAdd)
def an5(x lo hi:Int):M.gI x lo hi=some (decide (lo<=x) && decide (x<=hi)):=by
 simp only[M.gI,M.Fz]
 by_cases h:lo<=x
 ·rw[zdt (show x>=lo from h)];rfl
 ·rw[Ac (show¬x>=lo from h)];rfl
def aqH:∀k:List Int,anP (encI k)=some k
 |[]=>rfl
 |x::k=>by have:encI (x::k)=[D.int .i64 x]::encI k:=rfl;rw[this];simp only[anP,aqH k,Ir]
def nk(n:Nd):Nk:=⟨n.kind,n.op,⟨⟨n.text⟩⟩,⟨⟨n.other⟩⟩,n.kids⟩
def amZ(o:Bool):∀l:List Nd,(∀n,n∈l->n.kids.length<=1048576)->aad (aU o l)=some (l.map nk)
 |[],_=>rfl
 |n::l,h=>by
  have:aU o (n::l)=afj o n::aU o l:=rfl;rw[this,aad];have hk:ar2 (afj o n)=some (nk n):=by simp only[afj,ar2,aqH,aj];rw[if_pos (h n zmf)];rfl
  rw[hk,aj,amZ o l (λm hm=>h m (zmm _ hm))];rfl
def aQ4(l:List Nd):(l.map nk).map (·.kids)=ks l:=by simp[ks,nk]
def aib(l:List Nd)(o:Bool)(hl:l.length<=1048576)(hk:∀n,n∈l->n.kids.length<=1048576):M.E5 (aU o l)=some (IZ l):=by
 simp only[M.E5,M.Q7,M.mg,amZ o l hk,aj,aQ4,zaV];rw[if_pos hl,IZ];cases uK (ks l) with
 |none=>rfl
 |some st=>rfl
def afI(l:List Nd)(o:Bool){i:Nat}{n:Nd}{st:List Int}(hi:l[i]? =some n)(hl:l.length<=1048576)(hkl:n.kids.length<=1048576)(hst:afm st)(hs:st.length=i):
  ∀(j:Nat) (a:Int),j<=n.kids.length->0<=a->a<=i->M.zB (aU o l) (i:Int) (encI st) (a,(j:Int) - 1)=some (match iJ st (n.kids.take j).reverse (a - 1) with
   |none=> .inl ()
   |some r=> .inr (r+1, -1))
 |0,a,hj,h0,h1=>by rw[M.zB];apply aO;simp only[M.Jh,M.Ec];rw[Ac aC,aX,List.take_zero,List.reverse_nil,iJ];simp
 |j+1,a,hj,h0,h1=>by
  have hlt:i<l.length:=(UN.1 hi).1;obtain⟨k,hk⟩:∃k,n.kids[j]? =some k:=⟨n.kids[j]'aC,by simp⟩
  have ht:(n.kids.take (j+1)).reverse=k::(n.kids.take j).reverse:=by rw[List.take_add_one,hk,Option.toList_some,List.reverse_append];rfl
  rw[ht,iJ];have e1:(((j+1:Nat):Int) - 1)=(j:Int):=aC;rw[e1];have hstep:M.Jh (aU o l) (i:Int) (encI st) (a,(j:Int))=if a - 1<0\/k≠a - 1 then some (.inr (.inl ())) else some (.inl (st[k.toNat]?.getD 0,(j:Int) - 1)):=by
   simp only[M.Jh,M.Ec,dG,oO,hi,Ir,aj,cN4,BP,hk,cI0];rw[zdt aC,aJ,bF (n:=a - 1) aC aC]
   by_cases h2:k=a - 1
   ·have:(k !=a - 1)=false:=by simp[h2]
    rw[this,aX]
    by_cases h3:a=0
    ·have:(a==0)=true:=by simp[h3]
     rw[this,aJ,if_pos (.inl aC)]
    ·have:(a==0)=false:=by simp[h3]
     rw[this,aX,if_neg aC];obtain⟨d,hd⟩:∃d:Nat,a - 1=(d:Int):=⟨(a - 1).toNat,aC⟩
     have hdl:d<st.length:=aC;rw[h2,hd];simp only[ao0,dG,BP,ztn];rw[List.getElem?_eq_getElem hdl];simp only[Ir,aj,cI0,Option.getD_some];rw[bF aC aC]
   ·have:(k !=a - 1)=true:=by simp[h2]
    rw[this,aJ,if_pos (.inr h2)]
  by_cases hc:a - 1<0\/k≠a - 1
  ·rw[if_pos hc];rw[if_pos hc] at hstep;exact aO hstep
  ·rw[if_neg hc];rw[if_neg hc] at hstep;rw[M.zB,aZ hstep];have hz:=X4 hst k.toNat;have:=afI l o hi hl hkl hst hs j (st[k.toNat]?.getD 0) aC hz.1 aC;rw[M.zB] at this;exact this
def adP(l:List Nd)(o:Bool)(hl:l.length<=1048576)(hk:∀n,n∈l->n.kids.length<=1048576):∀(rest:List Nd) (i:Nat) (st:List Int),l.drop i=rest->st.length=i->i<=l.length->afm st->
  M.zC (aU o l) ((i:Int),encI st)=some (match iP st (ks rest) with
   |none=> .inl ()
   |some r=> .inr ((l.length:Int),encI r))
 |[],i,st,hd,hs,hi,hst=>by have:l.length<=i:=List.drop_eq_nil_iff.1 hd;rw[M.zC];apply aO;simp only[EY,M.Ji,M.Ed,gV];rw[Ac aC,aX];have:i=l.length:=aC;subst this;rfl
 |n::rest,i,st,hd,hs,hi,hst=>by
  have hn:l[i]? =some n:=by
   have:(l.drop i)[0]? =some n:=by rw[hd];rfl
   simpa using this
  have hlt:i<l.length:=(UN.1 hn).1;have hd':l.drop (i+1)=rest:=by rw[<-List.drop_drop,hd];rfl
  have hkn:=hk n (zmg hn);have hin:=afI l o hn hl hkn hst hs n.kids.length (i:Int) (zaU _) aC aC;rw[List.take_length] at hin;have hks:ks (n::rest)=n.kids::ks rest:=rfl;rw[hks,iP,hs];have hstep:M.Ji (aU o l) ((i:Int),encI st)=some (match iJ st n.kids.reverse ((i:Int) - 1) with
    |none=> .inr (.inl ())
    |some a=> .inl (((i+1:Nat):Int),encI (st++[a+1]))):=by
   simp only[EY,M.Ji,M.Ed,gV,dG,oO,hn,Ir,aj,cN4,jK];rw[zdt aC,aJ,bF (n:=(n.kids.length:Int) - 1) aC aC,hin];cases hw:iJ st n.kids.reverse ((i:Int) - 1) with
   |none=>rfl
   |some a=>simp only[aj,jg,letE,Bd];rw[bC aC,aJ,bC aC,aJ,bF aC aC];simp[encI]
  cases hw:iJ st n.kids.reverse ((i:Int) - 1) with
  |none=>rw[hw] at hstep;exact aO hstep
  |some a=>rw[hw] at hstep;rw[M.zC,aZ hstep];have hr:=O6 hst _ _ _ aC aC hw;have:=adP l o hl hk rest (i+1) (st++[a+1]) hd' (by simp[hs]) hlt (abV hst hr.1 hr.2);rw[M.zC] at this;exact this
def Zo(l:List Nd)(o:Bool)(hl:l.length<=1048576)(hk:∀n,n∈l->n.kids.length<=1048576):M.zX (aU o l)=some (IZ l):=by
 simp only[M.zX,M.Qx,an5,aj,gV]
 by_cases h1:1<=l.length/\l.length<=400
 ·have hb:(decide ((1:Int)<=(l.length:Int)) && decide ((l.length:Int)<=400))=true:=by simp;omega
  rw[hb,zaT,aX];have h:=adP l o hl hk l 0 [] rfl rfl (Nat.zero_le _) aac;have e0:((0:Nat):Int)=0:=rfl;rw[e0] at h;simp only[M.Gw,M.OC];rw[show([]:ak)=encI [] from rfl,h,IZ,uK,if_pos (by rw[Pq];exact h1)];cases hs:iP [] (ks l) with
  |none=>rfl
  |some r=>
   have hrl:r.length=l.length:=by have:=YK _ _ _ hs;rw[Pq] at this;simpa using this
   simp only[aj,jg,letE,Vu,aJ];rw[bF aC aC,show(l.length:Int) - 1=((l.length - 1:Nat):Int) by omega];simp only[ao0,dG,BP,ztn];rw[List.getElem?_eq_getElem aC];simp only[Ir,aj,cI0,Option.getD_some]
 ·have hb:(decide ((1:Int)<=(l.length:Int)) && decide ((l.length:Int)<=400))=false:=by
   cases hq:(decide ((1:Int)<=(l.length:Int)) && decide ((l.length:Int)<=400)) with
   |false=>rfl
   |true=>simp at hq;omega
  rw[hb,Bool.not_false,aJ,IZ,uK,if_neg (by rw[Pq];exact h1)]
def am0{st:List Int}(h:afm st):∀(l:List Int) (a r:Int),a<st.length->iJ st l a=some r->∀k,k∈l->0<=k/\k<st.length
 |[],a,r,h1,e,k,hk=>absurd hk List.not_mem_nil
 |x::l,a,r,h1,e,k,hk=>by
  rw[iJ] at e;split at e
  ·cases e
  ·rename_i hc;have hz:=X4 h x.toNat;rcases List.mem_cons.1 hk with rfl|hk
   ·omega
   ·exact am0 h l _ r aC e k hk
def ahK:∀(l:List (List Int)) (st r:List Int),afm st->iP st l=some r->∀(i:Nat) n,l[i]? =some n->∀k,k∈n->0<=k/\k<st.length+i
 |[],st,r,h0,h,i,n,hn=>by simp at hn
 |m::l,st,r,h0,h,i,n,hn=>by
  rw[iP] at h;split at h
  ·cases h
  ·rename_i a ha;have hr:=O6 h0 _ _ _ aC aC ha;cases i with
   |zero=>simp only[List.getElem?_cons_zero,oL] at hn;subst hn;intro k hk;have:=am0 h0 _ _ _ aC ha k (List.mem_reverse.2 hk);omega
   |succ i=>simp only[List.getElem?_cons_succ] at hn;intro k hk;have:=ahK l _ r (abV h0 hr.1 hr.2) h i n hn k hk;simp at this;omega
def awf{l:List Nd}(h:IZ l=true):1<=l.length/\l.length<=400:=by
 unfold IZ at h;cases hs:uK (ks l) with
 |none=>rw[hs] at h;cases h
 |some r=>
  unfold uK at hs;split at hs
  ·rename_i hq;rw[Pq] at hq;exact hq
  ·cases hs
def adQ:∀(l:List (List Int)) (st r:List Int),iP st l=some r->∃t,r=st++t
 |[],st,r,h=>by rw[iP] at h;cases h;exact⟨[],by simp⟩
 |n::l,st,r,h=>by
  rw[iP] at h;split at h
  ·cases h
  ·obtain⟨t,ht⟩:=adQ l _ r h;exact⟨_,by rw[ht,XG]⟩
def aqI{st t:List Int}(h:afm st):∀(ks:List Int) (a:Int),a<st.length->iJ (st++t) ks a=iJ st ks a
 |[],a,_=>rfl
 |k::ks,a,ha=>by
  rw[iJ,iJ];split
  ·rfl
  ·rename_i hc;have hk:k.toNat<st.length:=aC;have e:(st++t)[k.toNat]? =st[k.toNat]? :=List.getElem?_append_left hk;rw[e];have hz:=X4 h k.toNat;exact aqI h ks _ aC
def am1:∀(l:List (List Int)) (st r:List Int),afm st->iP st l=some r->∀(i:Nat) n,l[i]? =some n->∃a,iJ r n.reverse ((st.length:Int)+i - 1)=some a/\r[st.length+i]? =some (a+1)
 |[],st,r,h0,h,i,n,hn=>by simp at hn
 |m::l,st,r,h0,h,i,n,hn=>by
  rw[iP] at h;split at h
  ·cases h
  ·rename_i a ha;have hr:=O6 h0 _ _ _ aC aC ha;obtain⟨t,ht⟩:=adQ l _ r h;cases i with
   |zero=>
    simp only[List.getElem?_cons_zero,oL] at hn;subst hn;refine⟨a, ?_, ?_⟩
    ·rw[ht,XG,aqI h0 _ _ (by simp;omega)];simpa using ha
    ·rw[ht];simp
   |succ i=>
    simp only[List.getElem?_cons_succ] at hn;obtain⟨b,h1,h2⟩:=am1 l _ r (abV h0 hr.1 hr.2) h i n hn;refine⟨b, ?_, ?_⟩
    ·rw[<-h1];congr 1;simp;omega
    ·rw[<-h2];congr 1;simp;omega
def abG:List Int->Int
 |[]=>0
 |x::l=>x+abG l
def ahL:∀(a b:List Int),abG (a++b)=abG a+abG b
 |[],b=>by simp[abG]
 |x::a,b=>by rw[zca,abG,abG,ahL a b];omega
def afJ:∀l:List Int,abG l.reverse=abG l
 |[]=>rfl
 |x::l=>by rw[List.reverse_cons,ahL,afJ l];simp[abG];omega
def sz(r:List Int)(k:Int):Int:=k - (r[k.toNat]?.getD 0)+1
def aqJ(r:List Int):∀(ks:List Int) (a b:Int),iJ r ks a=some b->abG (ks.map (sz r))=a - b
 |[],a,b,h=>by rw[iJ] at h;cases h;simp[abG]
 |k::ks,a,b,h=>by
  rw[iJ] at h;split at h
  ·cases h
  ·rename_i hc;have:=aqJ r ks _ b h;rw[zmc,abG,this,sz];omega
structure Val(l:List Nd)(r:List Int):Prop where
 st:iP [] (ks l)=some r
 pos:1<=l.length
 le:l.length<=400
def asB{l:List Nd}(h:IZ l=true):∃r,Val l r:=by
 have hl:=awf h;unfold IZ at h;cases hs:uK (ks l) with
 |none=>rw[hs] at h;cases h
 |some r=>
  unfold uK at hs;split at hs
  ·exact⟨r,hs,hl.1,hl.2⟩
  ·cases hs
section
variable {l:List Nd} {r:List Int}
def Val.len(h:Val l r):r.length=l.length:=by have:=YK _ _ _ h.st;rw[Pq] at this;simpa using this
def Val.ok(h:Val l r):afm r:=agm _ _ _ aac h.st
def Val.kids(h:Val l r){i:Nat}{n:Nd}(hn:l[i]? =some n):∀k,k∈n.kids->0<=k/\k<i:=by have:=ahK _ _ _ aac h.st i n.kids (by simp[ks,hn]);simpa using this
def Val.sum(h:Val l r){i:Nat}{n:Nd}(hn:l[i]? =some n):abG (n.kids.map (sz r))+1=sz r i:=by obtain⟨a,h1,h2⟩:=am1 _ _ _ aac h.st i n.kids (by simp[ks,hn]);have:=aqJ r _ _ _ h1;rw[List.map_reverse,afJ] at this;simp at h2;rw[this,sz,ztn,h2];simp;omega
def Val.azN(h:Val l r){k:Int}(h0:0<=k):1<=sz r k/\sz r k<=k+1:=by have:=X4 h.ok k.toNat;rw[sz];omega
end
def aky(l:List Nd)(i:Nat):List Int:=match l[i]? with|some n=>n.kids|none=>[]
def PI{l:List Nd}{i:Nat}{n:Nd}(h:l[i]? =some n):aky l i=n.kids:=by rw[aky,h]
end Go.Proofs.YtoaeipkhadpbiaaGreatDoor
