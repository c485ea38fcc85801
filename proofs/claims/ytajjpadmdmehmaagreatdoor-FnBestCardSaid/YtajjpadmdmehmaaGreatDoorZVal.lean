import Derived.Test.YtajjpadmdmehmaaGreatDoorPForms4
import Derived.Test.YtajjpadmdmehmaaGreatDoorVm4
import Derived.Lib.IndexLaws
set_option linter.defProp false
namespace Go.Proofs.YtajjpadmdmehmaaGreatDoor
set_option linter.unusedVariables false
set_option linter.unusedSimpArgs false
set_option linter.unusedSectionVars false
open Go Go.Vm
open Go.IntKind (i64)
open Int (reduceLE reduceLT reduceSub reduceAdd)
def dH:(∀a b:Int,(a>=b)=(b<=a))/\(∀a b:Int,(a>b)=(b<a))/\(∀h:Decidable True,@decide True h=true)/\(∀h:Decidable False,@decide False h=false)/\(∀(α:Type) (a b:α),cond true a b=a)/\(∀(α:Type) (a b:α),cond false a b=b)/\(∀b:Bool,(b && true)=b)/\(∀b:Bool,(b && false)=false)/\(∀b:Bool,(true && b)=b)/\(∀b:Bool,(false && b)=false)/\((!true)=false)/\((!false)=true):=
 ⟨λ_ _=>rfl,λ_ _=>rfl,λh=>@decide_eq_true True h trivial,λh=>@decide_eq_false False h id,λ_ _ _=>rfl,λ_ _ _=>rfl,λb=>by cases b<;>rfl,λb=>by cases b<;>rfl,λ_=>rfl,λ_=>rfl,rfl,rfl⟩
def aN{m n:Nat}(h:m<=n):m.ble n=true:=Nat.ble_eq_true_of_le h
def ah{α β:Type}(a:α)(f:α->Option β):(some a).bind f=f a:=rfl
def oQ:((0:Nat):Int)=0:=rfl
def Vz(s:aC)(a:Int):Int:=if 0<=a then(match s[a.toNat]? with|some c=>(c.toNat:Int)|none=> -1) else -1
def isD(b:Int):Bool:=decide (b>=48) && decide (b<=57)
def PX(s:aC)(a:Int):Int:=if 0<=a then a+(((s.drop a.toNat).takeWhile λc=>isD (c.toNat:Int)).length:Nat) else a
def aq5(c:UInt8):c.toNat<256:=c.toNat_lt
def Xg(s:aC)(i:Nat):Vz s (i:Int)=(match s[i]? with|some c=>(c.toNat:Int)|none=> -1):=by rw[Vz,if_pos ak,Xm]
section
variable {s:aC} (h:s.length<=1048576)
include h
theorem Rt(a:Int):M.jR s a=some (Vz s a):=by
 simp only[M.jR,M.TK]
 by_cases h0:a<0
 ·rw[zdt h0,aK,Vz,if_neg ak]
 ·rw[pq h0,bn];obtain⟨i,rfl⟩:∃i:Nat,a=i:=⟨a.toNat,ak⟩
  rw[Xg]
  by_cases h1:(i:Int)>=(s.length:Int)
  ·rw[zdt h1,aK,List.getElem?_eq_none ak]
  ·obtain⟨c,hc⟩:∃c,s[i]? =some c:=⟨s[i]'ak,by simp⟩
   have:=aq5 c;rw[pq h1,bn,bC,hc,ah,aB ak ak]
theorem Ru(a:Int):M.nG s a=some (Vz s a):=by
 simp only[M.nG,M.Ua,M.bJ,M.zn];rw[aB ak ak]
 by_cases h0:a<0
 ·rw[pq ak,bn,ah,Bool.not_false,aK,Vz,if_neg ak]
 ·rw[zdt ak,aK,ah];obtain⟨i,rfl⟩:∃i:Nat,a=i:=⟨a.toNat,ak⟩
  rw[Xg]
  by_cases h1:(i:Int)>=(s.length:Int)
  ·rw[pq ak,Bool.not_false,aK,List.getElem?_eq_none ak]
  ·obtain⟨c,hc⟩:∃c,s[i]? =some c:=⟨s[i]'ak,by simp⟩
   have:=aq5 c;rw[zdt ak,zaO,bn,bC,hc,ah,aB ak ak]
end
def aq6(b:Int):M.vV b=some (isD b):=by simp only[M.vV,M.Qs,M.dA,M.BO,isD];cases decide (b>=48)<;>rfl
def aq7(b:Int):M.wu b=some (isD b):=by simp only[M.wu,M.QU,isD];cases decide (b>=48)<;>rfl
def aFO{s:aC}{b:Int->Option (Int⊕Int)}(hb:∀a,0<=a->a<=2000000->b a=some (bif isD (Vz s a) then .inl (a+1) else .inr a))(h:s.length<=1048576):
  ∀(rest pre:aC),s=pre++rest->dM b (pre.length:Int)=some ((pre.length:Int)+((rest.takeWhile λc=>isD (c.toNat:Int)).length:Nat))
 |[],pre,e=>by
  have hl:pre.length=s.length:=by rw[e];simp
  refine aY ?_;rw[hb _ ak ak,Xg,List.getElem?_eq_none ak];simp[isD]
 |c::rest,pre,e=>by
  have hl:s.length=pre.length+(rest.length+1):=by rw[e];simp
  have hget:s[pre.length]? =some c:=by rw[e,List.getElem?_append_right (zaP _),Nat.sub_self];rfl
  have hs:=hb (pre.length:Int) ak ak;rw[Xg,hget] at hs;simp only at hs;cases hd:isD (c.toNat:Int) with
  |true=>have:=aFO hb h rest (pre++[c]) (by rw[e];simp);rw[qK,IU] at this;rw[hd,aK] at hs;rw[cu hs,List.takeWhile_cons,if_pos hd,show(pre.length:Int)+1=((pre.length+1:Nat):Int) by omega,this];simp;omega
  |false=>rw[hd,bn] at hs;rw[aY hs,List.takeWhile_cons,hd];simp
def azG{s:aC}{b:Int->Option (Int⊕Int)}(hb:∀a,0<=a->a<=2000000->b a=some (bif isD (Vz s a) then .inl (a+1) else .inr a))(h:s.length<=1048576)(a:Int)(h0:0<=a)(h1:a<=2000000):dM b a=some (PX s a):=by
 obtain⟨i,rfl⟩:∃i:Nat,a=i:=⟨a.toNat,ak⟩
 rw[PX,if_pos h0,Xm]
 by_cases hi:i<=s.length
 ·have:=aFO hb h (s.drop i) (s.take i) (List.take_append_drop i s).symm;rw[XE,Nat.min_eq_left hi] at this;exact this
 ·rw[List.drop_eq_nil_of_le ak];refine aY ?_;rw[hb _ h0 h1,Xg,List.getElem?_eq_none ak];simp[isD]
def YP{s:aC}(h:s.length<=1048576){a:Int}(h0:0<=a):a<=PX s a/\(PX s a<=a\/PX s a<=s.length):=by have h1:=(List.takeWhile_sublist (p:=λc:UInt8=>isD (c.toNat:Int)) (l:=s.drop a.toNat)).length_le;rw[List.length_drop] at h1;rw[PX,if_pos h0];omega
section
variable {s:aC} (h:s.length<=1048576)
include h
theorem FK(a:Int)(h0:0<=a)(h1:a<=2000000):M.eY s a=some (PX s a):=by simp only[M.eY,M.Ol,M.Ll];rw[azG (λa h0 h1=>by simp only[M.V3,M.Gx,Rt h,aq6,ah];rw[aB ak ak];cases isD (Vz s a)<;>rfl) h a h0 h1,ah]
theorem Dj(a:Int)(h0:0<=a)(h1:a<=2000000):M.jd s a=some (PX s a):=by simp only[M.jd,M.LY,M.Jz];rw[azG (λa h0 h1=>by simp only[M.U5,M.Ew,Ru h,aq7,ah];rw[aB ak ak];cases isD (Vz s a)<;>rfl) h a h0 h1,ah]
end
def aeM(s:aC)(r:Int):Int:=bif(Vz s r==101)||(Vz s r==69) then
  (bif(Vz s (r+1)==43)||(Vz s (r+1)==45) then(bif decide (PX s (r+1+1)>r+1+1) then PX s (r+1+1) else r) else(bif decide (PX s (r+1)>r+1) then PX s (r+1) else r)) else r
def ajh(s:aC)(a:Int):Int:=if a<0\/(s.length:Int)<=a then -1 else
 bif Vz s (PX s a)==46 then(bif(PX s a==a) &&(PX s (PX s a+1)==PX s a+1) then -1 else aeM s (PX s (PX s a+1))) else(bif PX s a==a then -1 else aeM s (PX s a))
section
variable {s:aC} (h:s.length<=1048576)
include h
set_option maxHeartbeats 2000000 in
theorem aji(a:Int)(ha:a<=1048576):M.F8 s a=some (ajh s a):=by
 simp only[M.F8,M.Ub,M.Fj,M.bJ,M.zn,ajh];rw[aB ak ak]
 by_cases h0:a<0
 ·rw[pq ak,bn,ah,Bool.not_false,aK,if_pos (.inl h0)]
 ·rw[zdt ak,aK,ah]
  by_cases h1:(s.length:Int)<=a
  ·rw[pq ak,Bool.not_false,aK,if_pos (.inr h1)]
  ·rw[zdt ak,zaO,bn,if_neg ak,Dj h a ak ak,ah];have e1:=YP h (a:=a) ak;generalize hE:PX s a=e at e1|-;simp only[Ru h,ah];rw[aB (n:=e+1) ak ak,aB (n:=e - a) ak ak,Dj h (e+1) ak ak,ah];have e2:=YP h (a:=e+1) ak;generalize hK:PX s (e+1)=k at e2|-;have hz:(i64.wrap (e - a+i64.wrap (i64.wrap (k - e) - 1))==0)=((e==a) &&(k==e+1)):=by rw[aB (n:=k - e) ak ak,aB (n:=k - e - 1) ak ak,aB ak ak,Bool.eq_iff_iff];simp only[MS,beq_iff_eq];omega
   have hz2:(e - a==0)=(e==a):=by rw[Bool.eq_iff_iff];simp only[beq_iff_eq];omega
   rw[hz,hz2];have ex:∀r:Int,0<=r->r<=1048578->(bif Vz s r==101 then
      ((some (Vz s (i64.wrap (r+1)))).bind λaXh=>
      (bif aXh==43 then
       ((M.jd s (i64.wrap (i64.wrap (r+1)+1))).bind λaXi=>
       (bif decide (aXi>i64.wrap (i64.wrap (r+1)+1)) then(some aXi) else(some r))) else
       (bif aXh==45 then
       ((M.jd s (i64.wrap (i64.wrap (r+1)+1))).bind λaXj=>(bif decide (aXj>i64.wrap (i64.wrap (r+1)+1)) then(some aXj) else(some r))) else
       ((M.jd s (i64.wrap (r+1))).bind λaXk=>(bif decide (aXk>i64.wrap (r+1)) then(some aXk) else(some r)))))) else
      (bif Vz s r==69 then
      ((some (Vz s (i64.wrap (r+1)))).bind λaXl=>
       (bif aXl==43 then
       ((M.jd s (i64.wrap (i64.wrap (r+1)+1))).bind λaXm=>(bif decide (aXm>i64.wrap (i64.wrap (r+1)+1)) then(some aXm) else(some r))) else
       (bif aXl==45 then
        ((M.jd s (i64.wrap (i64.wrap (r+1)+1))).bind λaXn=>
        (bif decide (aXn>i64.wrap (i64.wrap (r+1)+1)) then(some aXn) else(some r))) else
        ((M.jd s (i64.wrap (r+1))).bind λaCp=>(bif decide (aCp>i64.wrap (r+1)) then(some aCp) else(some r)))))) else(some r)))=some (aeM s r):=by
    intro r h0 h1;rw[aB (n:=r+1) ak ak,aB (n:=r+1+1) ak ak,Dj h (r+1) ak ak,Dj h (r+1+1) ak ak,aeM];simp only[ah];cases Vz s r==101<;>cases Vz s r==69<;>cases Vz s (r+1)==43<;>cases Vz s (r+1)==45<;>cases decide (PX s (r+1+1)>r+1+1)<;>cases decide (PX s (r+1)>r+1)<;>rfl
   simp only[ah] at ex;cases Vz s e==46 with
   |true=>
    simp only[aK];cases(e==a) &&(k==e+1) with
    |true=>rfl
    |false=>simp only[bn];exact ex k ak ak
   |false=>
    simp only[bn];cases e==a with
    |true=>rfl
    |false=>simp only[bn];have h2:=ex e ak ak;rw[aB (n:=e+1) ak ak,Dj h (e+1) ak ak,hK] at h2;simp only[ah] at h2;exact h2
theorem ajj(a:Int)(ha:a<=1048576):M.FY s a=some (ajh s a):=by
 simp only[M.FY,M.TL,M.xu,ajh]
 by_cases h0:a<0
 ·rw[zdt h0,aK,if_pos (.inl h0)]
 ·rw[pq h0,bn];have e1:=YP h (a:=a) ak;rw[FK h a ak ak,ah];simp only[Rt h,ah]
  by_cases h1:(s.length:Int)<=a
  ·have he:PX s a=a:=ak;obtain⟨i,rfl⟩:∃i:Nat,a=i:=⟨a.toNat,ak⟩
   have hb:Vz s (i:Int)= -1:=by rw[Xg,List.getElem?_eq_none ak]
   rw[he,hb,if_pos (.inr h1),show((-1:Int)==46)=false from rfl,bn,beq_self_eq_true,aK]
  ·rw[if_neg ak];generalize hE:PX s a=e at e1|-;have e2:=YP h (a:=e+1) ak;rw[aB (n:=e+1) ak ak,FK h (e+1) ak ak,ah];have ex:∀r:Int,0<=r->r<=1048578->(bif Vz s r==101 then
      (bif Vz s (i64.wrap (r+1))==43 then
       ((M.eY s (i64.wrap (i64.wrap (r+1)+1))).bind λavQ=>
        (bif decide (avQ>i64.wrap (i64.wrap (r+1)+1)) then
        ((M.eY s (i64.wrap (i64.wrap (r+1)+1))).bind λUW=>(some UW)) else(some r))) else
        (bif Vz s (i64.wrap (r+1))==45 then
        ((M.eY s (i64.wrap (i64.wrap (r+1)+1))).bind λavR=>
         (bif decide (avR>i64.wrap (i64.wrap (r+1)+1)) then
         ((M.eY s (i64.wrap (i64.wrap (r+1)+1))).bind λaBN=>(some aBN)) else(some r))) else
        ((M.eY s (i64.wrap (r+1))).bind λavS=>(bif decide (avS>i64.wrap (r+1)) then((M.eY s (i64.wrap (r+1))).bind λavT=>(some avT)) else(some r))))) else
       (bif Vz s r==69 then
        (bif Vz s (i64.wrap (r+1))==43 then
        ((M.eY s (i64.wrap (i64.wrap (r+1)+1))).bind λavU=>
         (bif decide (avU>i64.wrap (i64.wrap (r+1)+1)) then
         ((M.eY s (i64.wrap (i64.wrap (r+1)+1))).bind λavV=>(some avV)) else(some r))) else
         (bif Vz s (i64.wrap (r+1))==45 then
         ((M.eY s (i64.wrap (i64.wrap (r+1)+1))).bind λavW=>
          (bif decide (avW>i64.wrap (i64.wrap (r+1)+1)) then
          ((M.eY s (i64.wrap (i64.wrap (r+1)+1))).bind λavX=>(some avX)) else(some r))) else
         ((M.eY s (i64.wrap (r+1))).bind λaBP=>(bif decide (aBP>i64.wrap (r+1)) then((M.eY s (i64.wrap (r+1))).bind λano=>(some ano)) else(some r))))) else(some r)))=some (aeM s r):=by
    intro r h0 h1;rw[aB (n:=r+1) ak ak,aB (n:=r+1+1) ak ak,FK h (r+1) ak ak,FK h (r+1+1) ak ak,aeM];simp only[ah];cases Vz s r==101<;>cases Vz s r==69<;>cases Vz s (r+1)==43<;>cases Vz s (r+1)==45<;>cases decide (PX s (r+1+1)>r+1+1)<;>cases decide (PX s (r+1)>r+1)<;>rfl
   generalize hK:PX s (e+1)=k at e2|-;have hka:(k==a)=false:=by rw[KL];omega
   rw[hka];cases Vz s e==46 with
   |true=>
    simp only[aK,bn];cases e==a with
    |true=>
     simp only[aK,Bool.true_and];cases k==e+1 with
     |true=>rfl
     |false=>simp only[bn];exact ex k ak ak
    |false=>simp only[bn,Bool.false_and];exact ex k ak ak
   |false=>
    simp only[bn];cases e==a with
    |true=>rfl
    |false=>simp only[bn];have h2:=ex e ak ak;rw[aB (n:=e+1) ak ak,FK h (e+1) ak ak,hK] at h2;simp only[ah] at h2;exact h2
end
def ak0(q:Int):aC->Int->Int
 |[],_=> -1
 |c::l,i=>if(c.toNat:Int)=q then i+1 else if(c.toNat:Int)=10 then -1 else if(c.toNat:Int)=92 then(match l with
   |[]=> -1
   |d::l'=>if(d.toNat:Int)=10 then -1 else ak0 q l' (i+2)) else ak0 q l (i+1)
def alZ(q:Int)(c:UInt8)(l:aC)(i:Int):ak0 q (c::l) i=if(c.toNat:Int)=q then i+1 else if(c.toNat:Int)=10 then -1 else if(c.toNat:Int)=92 then(match l with
   |[]=> -1
   |d::l'=>if(d.toNat:Int)=10 then -1 else ak0 q l' (i+2)) else ak0 q l (i+1):=by
 cases l with
 |nil=>simp[ak0]
 |cons d l=>simp[ak0]
def hdI:aC->Int
 |[]=> -1
 |d::_=>(d.toNat:Int)
def quoted(s:aC)(a q:Int):Int:=if Vz s a=q then ak0 q (s.drop (a+1).toNat) (a+1) else -1
def azH{s:aC}(h:s.length<=1048576)(q:Int)(hq:q≠10):∀(n:Nat) (rest pre:aC),rest.length<=n->s=pre++rest->
  (∃r,M.vI s q (pre.length:Int)=some r/\(pz r some λu=>letE u λ_=>some (-1))=some (ak0 q rest (pre.length:Int)))/\
  (∃r,M.tJ s q (pre.length:Int)=some r/\(pz r some λu=>letE u λ_=>some (-1))=some (ak0 q rest (pre.length:Int)))
 |n,[],pre,hn,e=>by
  have hl:pre.length=s.length:=by rw[e];simp
  constructor
  ·refine⟨.inr (pre.length:Int), ?_,rfl⟩;rw[M.vI];refine aY ?_;simp only[M.zO,M.vH];rw[pq ak,bn]
  ·refine⟨.inr (pre.length:Int), ?_,rfl⟩;rw[M.tJ];refine aY ?_;simp only[M.yD,M.uj];rw[pq ak,bn]
 |0,c::rest,pre,hn,e=>by simp at hn
 |n+1,c::rest,pre,hn,e=>by
  simp only[nS] at hn;have hl:s.length=pre.length+(rest.length+1):=by rw[e];simp
  have hget:s[pre.length]? =some c:=by rw[e,List.getElem?_append_right (zaP _),Nat.sub_self];rfl
  have hc:=aq5 c;have hw:i64.wrap ((c.toNat:Nat):Int)=(c.toNat:Int):=aB ak ak;have hw1:i64.wrap ((pre.length:Int)+1)=((pre.length+1:Nat):Int):=by rw[aB ak ak];omega
  have hw2:i64.wrap (((pre.length+1:Nat):Int)+1)=((pre.length+2:Nat):Int):=by rw[aB ak ak];omega
  have hnext:Vz s ((pre.length+1:Nat):Int)=hdI rest:=by rw[Xg,e,List.getElem?_append_right ak,show pre.length+1 - pre.length=1 by omega];cases rest<;>rfl
  have hS:M.zO s q (pre.length:Int)=some (if(c.toNat:Int)=q then .inr (.inl ((pre.length+1:Nat):Int)) else if(c.toNat:Int)=10 then .inr (.inl (-1)) else if(c.toNat:Int)=92 then
    (if Vz s ((pre.length+1:Nat):Int)=10 then .inr (.inl (-1)) else .inl ((pre.length+2:Nat):Int)) else .inl ((pre.length+1:Nat):Int)):=by
   simp only[M.zO,M.vH,bC,hget,ah,hw,hw1,hw2,Rt h];rw[zdt ak,aK]
   by_cases c1:(c.toNat:Int)=q
   ·rw[if_pos c1,show((c.toNat:Int)==q)=true by simpa using c1,aK]
   ·rw[if_neg c1,show((c.toNat:Int)==q)=false by simpa using c1,bn]
    by_cases c2:(c.toNat:Int)=10
    ·rw[if_pos c2,show((c.toNat:Int)==10)=true by simpa using c2,aK]
    ·rw[if_neg c2,show((c.toNat:Int)==10)=false by simpa using c2,bn]
     by_cases c3:(c.toNat:Int)=92
     ·rw[if_pos c3,show((c.toNat:Int)==92)=true by simpa using c3,aK]
      by_cases c4:Vz s ((pre.length+1:Nat):Int)=10
      ·rw[if_pos c4,c4];rfl
      ·rw[if_neg c4,show(Vz s ((pre.length+1:Nat):Int)==10)=false by simpa using c4,bn]
     ·rw[if_neg c3,show((c.toNat:Int)==92)=false by simpa using c3,bn]
  have hI:M.yD s q (pre.length:Int)=some (if(c.toNat:Int)=10 then .inr (.inr (pre.length:Int)) else if(c.toNat:Int)=q then .inr (.inl ((pre.length+1:Nat):Int)) else if(c.toNat:Int)=92 then
    (if Vz s ((pre.length+1:Nat):Int)=10 then .inl ((pre.length+1:Nat):Int) else .inl ((pre.length+2:Nat):Int)) else .inl ((pre.length+1:Nat):Int)):=by
   simp only[M.yD,M.uj,bC,hget,ah,hw,hw1,hw2,Ru h];rw[zdt ak,aK]
   by_cases c2:(c.toNat:Int)=10
   ·rw[if_pos c2,show((c.toNat:Int) !=10)=false by simpa using c2,bn]
   ·rw[if_neg c2,show((c.toNat:Int) !=10)=true by simpa using c2,aK]
    by_cases c1:(c.toNat:Int)=q
    ·rw[if_pos c1,show((c.toNat:Int)==q)=true by simpa using c1,aK]
    ·rw[if_neg c1,show((c.toNat:Int)==q)=false by simpa using c1,bn]
     by_cases c3:(c.toNat:Int)=92
     ·rw[if_pos c3,show((c.toNat:Int)==92)=true by simpa using c3,aK]
      by_cases c4:Vz s ((pre.length+1:Nat):Int)=10
      ·rw[if_pos c4,c4];rfl
      ·rw[if_neg c4,show(Vz s ((pre.length+1:Nat):Int) !=10)=true by simpa using c4,aK]
     ·rw[if_neg c3,show((c.toNat:Int)==92)=false by simpa using c3,bn]
  have e1:s=(pre++[c])++rest:=by rw[e];simp
  have ih1:=azH h q hq n rest (pre++[c]) ak e1;rw[qK,IU] at ih1;rw[M.vI,M.tJ] at ih1|-;rw[alZ]
  by_cases c1:(c.toNat:Int)=q
  ·have c2:¬(c.toNat:Int)=10:=ak;rw[if_pos c1];rw[if_pos c1] at hS;rw[if_neg c2,if_pos c1] at hI;refine⟨⟨_,aY hS, ?_⟩,⟨_,aY hI, ?_⟩⟩<;>simp[pz]
  ·rw[if_neg c1];rw[if_neg c1] at hS
   by_cases c2:(c.toNat:Int)=10
   ·rw[if_pos c2];rw[if_pos c2] at hS hI;exact⟨⟨_,aY hS,rfl⟩,⟨_,aY hI,rfl⟩⟩
   ·rw[if_neg c2];rw[if_neg c2] at hS hI;rw[if_neg c1] at hI
    by_cases c3:(c.toNat:Int)=92
    ·rw[if_pos c3];rw[if_pos c3] at hS hI;cases rest with
     |nil=>
      rw[hnext,hdI] at hS hI;simp only[show¬((-1:Int)=10) by omega,if_false] at hS hI;have hend:∀(b:Int->Option (Int⊕(Int⊕Int))),True:=λ_=>trivial
      simp only[uM] at hl;refine⟨⟨.inr ((pre.length+2:Nat):Int), ?_,rfl⟩,⟨.inr ((pre.length+2:Nat):Int), ?_,rfl⟩⟩
      ·rw[cu hS];refine aY ?_;simp only[M.zO,M.vH];rw[pq ak,bn]
      ·rw[cu hI];refine aY ?_;simp only[M.yD,M.uj];rw[pq ak,bn]
     |cons d rest'=>
      simp only[hdI] at hnext|-;rw[hnext] at hS hI
      by_cases c4:(d.toNat:Int)=10
      ·rw[if_pos c4];rw[if_pos c4] at hS hI;refine⟨⟨_,aY hS,rfl⟩, ?_⟩;obtain⟨r,h1,h2⟩:=ih1.2;refine⟨r,by rw[cu hI];exact h1, ?_⟩;rw[h2,alZ,if_neg ak,if_pos c4]
      ·rw[if_neg c4];rw[if_neg c4] at hS hI;have e2:s=(pre++[c,d])++rest':=by rw[e];simp
       simp only[nS] at hn;have ih2:=azH h q hq n rest' (pre++[c,d]) ak e2;rw[qK,show[c,d].length=2 from rfl,M.vI,M.tJ] at ih2;rw[cu hS,cu hI,show(pre.length:Int)+2=((pre.length+2:Nat):Int) by omega];exact ih2
    ·rw[if_neg c3];rw[if_neg c3] at hS hI;rw[cu hS,cu hI,show(pre.length:Int)+1=((pre.length+1:Nat):Int) by omega];exact ih1
section
variable {s:aC} (h:s.length<=1048576)
include h
theorem al0(a q:Int)(h0:0<=a)(h1:a<=1048576)(hq:0<=q)(hq2:q≠10):M.rU s a q=some (quoted s a q)/\M.qw s a q=some (quoted s a q):=by
 simp only[M.rU,M.Om,M.qw,M.LZ,Rt h,Ru h,ah,quoted]
 by_cases hb:Vz s a=q
 ·rw[if_pos hb,show(Vz s a !=q)=false by simpa using hb,bn,bn,aB ak ak];obtain⟨i,rfl⟩:∃i:Nat,a=i:=⟨a.toNat,ak⟩
  have hi:i<s.length:=by
   rcases Nat.lt_or_ge i s.length with hlt|hge
   ·exact hlt
   ·rw[Xg,List.getElem?_eq_none hge] at hb;simp only at hb;omega
  obtain⟨⟨r,k1,k2⟩,⟨r',k3,k4⟩⟩:=azH h q hq2 _ (s.drop (i+1)) (s.take (i+1)) (zaP _) (List.take_append_drop _ s).symm;rw[XE,Nat.min_eq_left ak] at k1 k2 k3 k4;rw[show(i:Int)+1=((i+1:Nat):Int) by omega,Xm,k1,k3,ah,ah];exact⟨k2,k4⟩
 ·rw[if_neg hb,show(Vz s a !=q)=true by simpa using hb,aK,aK];exact⟨rfl,rfl⟩
theorem av7(a:Int)(h0:0<=a)(h1:a<=1048576):M.FZ s a=some (quoted s a 34)/\M.F9 s a=some (quoted s a 34):=by have:=al0 h a 34 h0 h1 ak ak;simp only[M.FZ,M.TM,M.F9,M.Uc,this.1,this.2,ah];constructor<;>first|rfl|trivial
def ajk(s:aC)(a:Int):Int:=bif quoted s a 47==a+2 then -1 else quoted s a 47
theorem av8(a:Int)(h0:0<=a)(h1:a<=1048576):M.F5 s a=some (ajk s a)/\M.Gf s a=some (ajk s a):=by have:=al0 h a 47 h0 h1 ak ak;simp only[M.F5,M.TN,M.Gf,M.Ud,this.1,this.2,ah,ajk];rw[aB ak ak];cases quoted s a 47==a+2<;>simp
end
end Go.Proofs.YtajjpadmdmehmaaGreatDoor
namespace Go.Proofs.YtajjpadmdmehmaaGreatDoor
set_option linter.unusedVariables false
set_option linter.unusedSimpArgs false
set_option linter.unusedSectionVars false
open Go Go.Vm
open Go.IntKind (i64)
open Int (reduceLE reduceLT reduceSub reduceAdd)
@[simp] theorem rG(l:List (aC)):(encS l).length=l.length:=by simp[encS]
@[simp] theorem Yc(l:List (aC))(i:Nat):(encS l)[i]? =(l[i]?).map λs=>[D.str s]:=by simp[encS]
def cS0(s:aC):cStr [D.str s] 0=some s:=rfl
def strsOf:Row->List (aC)
 |[]=>[]
 | .str s::r=>s::strsOf r
 |_::r=>strsOf r
def aaj:List (aC):=strsOf FV
def Yd:List (aC):=strsOf VX
def aq8:List (aC):=strsOf PK
def UE(s:aC):List (aC)->Int->Int
 |[],_=> -1
 |x::l,i=>if x==s then i else UE s l (i+1)
def afL(s:aC):∀(l:List (aC)) (i:Int),0<=i-> -1<=UE s l i/\UE s l i<i+l.length
 |[],i,h=>by simp[UE];omega
 |x::l,i,h=>by
  rw[UE];split
  ·simp;omega
  ·have:=afL s l (i+1) ak;simp only[nS];omega
def al1(s:aC)(l:List (aC))(hl:l.length<=1048576){b:Int->Option (Int⊕(Int⊕Int))}
  (hb:∀(i:Nat) x,l[i]? =some x->b (i:Int)=some (if x==s then .inr (.inl (i:Int)) else .inl ((i:Int)+1))) (he:b (l.length:Int)=some (.inr (.inr (l.length:Int)))):
  ∃r,dM b 0=some r/\(pz r some λu=>letE u λ_=>some (-1))=some (UE s l 0):=by
 have key:∀(t:List (aC)) (i:Nat),l.drop i=t->i<=l.length->∃r,dM b (i:Int)=some r/\(pz r some λu=>letE u λ_=>some (-1))=some (UE s t (i:Int)):=by
  intro t;induction t with
  |nil=>
   intro i hd hi;have:i=l.length:=by have:=congrArg List.length hd;simp at this;omega
   subst this;exact⟨_,aY he,rfl⟩
  |cons x t ih=>
   intro i hd hi;have hx:l[i]? =some x:=by
    have:(l.drop i)[0]? =some x:=by rw[hd];rfl
    simpa using this
   have hlt:i<l.length:=(PU.1 hx).1;have hd':l.drop (i+1)=t:=by rw[<-List.drop_drop,hd];rfl
   have hs:=hb i x hx;rw[UE];cases hxs:x==s with
   |true=>rw[hxs] at hs;exact⟨_,aY hs,rfl⟩
   |false=>
    rw[hxs] at hs;obtain⟨r,h1,h2⟩:=ih (i+1) hd' hlt;refine⟨r, ?_, ?_⟩
    ·rw[cu hs,show(i:Int)+1=((i+1:Nat):Int) by omega];exact h1
    ·rw[h2];simp
 exact key l 0 rfl (Nat.zero_le _)
def al2(s:aC)(l:List (aC))(hl:l.length<=1048576):M.yY (encS l) s=some (UE s l 0):=by
 obtain⟨r,h1,h2⟩:=al1 s l hl (b:=M.Le (encS l) s)
  (λi x hx=>by have hi:=(PU.1 hx).1;simp only[M.Le,M.ER,rG,bC,Yc,hx,O9,ah,cS0];rw[zdt ak,aK,aB ak ak];cases x==s<;>rfl)
  (by simp only[M.Le,M.ER,rG];rw[pq ak,bn])
 simp only[M.yY,M.TI,M.Qu];rw[h1,ah];exact h2
def ajl(s:aC)(l:List (aC))(hl:l.length<=1048576):M.slices_Index (encS l) s=some (UE s l 0):=by
 obtain⟨r,h1,h2⟩:=al1 s l hl (b:=M.Jy (encS l) s (l.length:Int))
  (λi x hx=>by have hi:=(PU.1 hx).1;simp only[M.Jy,M.CJ,bC,Yc,hx,O9,ah,cS0];rw[zdt ak,aK,aB ak ak,show(s==x)=(x==s) by rw[Bool.eq_iff_iff,beq_iff_eq,beq_iff_eq];exact⟨Eq.symm,Eq.symm⟩];cases x==s<;>rfl)
  (by simp only[M.Jy,M.CJ];rw[pq ak,bn])
 simp only[M.slices_Index,M.QV,M.OL,rG];rw[h1,ah];exact h2
def azI(s:aC):Int:=if UE s aaj 0<0 then 0 else 10+UE s aaj 0
def afM(s:aC):Bool:=decide (UE s aq8 0>=0)
def aq9:M.yK=some (encS aaj):=rfl
def ara:M.oM=some (encS aq8):=rfl
def arb:M.yL=some (encS Yd):=rfl
def aIp:List.map (λx=>[x]) FV=encS aaj:=rfl
def aDV:List.map (λx=>[x]) PK=encS aq8:=rfl
def anC(s:aC):M.wR s=some (azI s)/\M.wW s=some (azI s):=by
 have hr:=afL s aaj 0 ak;have hl:aaj.length=17:=rfl;simp only[M.wR,M.Lh,M.wW,M.LW,aq9,aIp,ah,al2 s aaj (by rw[hl];omega),ajl s aaj (by rw[hl];omega),azI]
 by_cases h:UE s aaj 0<0
 ·rw[zdt h,aK,if_pos h];exact⟨rfl,rfl⟩
 ·rw[pq h,bn,if_neg h,aB ak ak];exact⟨rfl,rfl⟩
def YQ(s:aC):M.mP s=some (afM s)/\M.nT s=some (afM s):=by have hl:aq8.length=21:=rfl;simp only[M.mP,M.Lj,M.nT,M.LX,M.slices_Contains,M.CO,ara,aDV,ah,al2 s aq8 (by rw[hl];omega),ajl s aq8 (by rw[hl];omega),afM];constructor<;>first|rfl|trivial
def isL(b:Int):Bool:=(decide (b>=97) && decide (b<=122))||((decide (b>=65) && decide (b<=90))||(b==95))
def isW(b:Int):Bool:=isL b||isD b
def afN(b:Int):M.rQ b=some (isL b)/\M.rX b=some (isL b):=by simp only[M.rQ,M.Oi,M.dA,M.BO,M.rX,M.OJ,isL];cases decide (b>=97)<;>cases decide (b<=122)<;>cases decide (b>=65)<;>cases decide (b<=90)<;>cases(b==95)<;>exact⟨rfl,rfl⟩
def Um(b:Int):M.lF b=some (isW b)/\M.lG b=some (isW b):=by simp only[M.lF,M.Jj,M.lG,M.Jv,afN,aq6,aq7,ah,isW];cases isL b<;>cases isD b<;>exact⟨rfl,rfl⟩
def azJ(s:aC):Bool:=s.all λc=>isW (c.toNat:Int)
def a6l:aC->Bool
 |[]=>false
 |c::_=>isL (c.toNat:Int)
def Ye(s:aC):Bool:=azJ s &&((decide ((s.length:Int)>=1) && decide ((s.length:Int)<=12)) && a6l s)
def ajm(s:aC){b:Int->Option (Int⊕(Unit⊕Int))}
  (hb:∀(i:Nat) c,s[i]? =some c->b (i:Int)=some (bif isW (c.toNat:Int) then .inl ((i:Int)+1) else .inr (.inl ()))) (he:b (s.length:Int)=some (.inr (.inr (s.length:Int)))):
  dM b 0=some (bif azJ s then .inr (s.length:Int) else .inl ()):=by
 have key:∀(t:aC) (i:Nat),s.drop i=t->i<=s.length->dM b (i:Int)=some (bif azJ t then .inr (s.length:Int) else .inl ()):=by
  intro t;induction t with
  |nil=>
   intro i hd hi;have:i=s.length:=by have:=congrArg List.length hd;simp at this;omega
   subst this;exact aY he
  |cons x t ih=>
   intro i hd hi;have hx:s[i]? =some x:=by
    have:(s.drop i)[0]? =some x:=by rw[hd];rfl
    simpa using this
   have hlt:i<s.length:=(PU.1 hx).1;have hd':s.drop (i+1)=t:=by rw[<-List.drop_drop,hd];rfl
   have hs:=hb i x hx;rw[azJ,List.all_cons];cases hw:isW (x.toNat:Int) with
   |true=>rw[hw,aK] at hs;rw[cu hs,show(i:Int)+1=((i+1:Nat):Int) by omega,ih (i+1) hd' hlt,Bool.true_and];rfl
   |false=>rw[hw,bn] at hs;rw[aY hs];rfl
 exact key s 0 rfl (Nat.zero_le _)
def anD(s:aC)(h:s.length<=1048576):M.wQ s=some (Ye s)/\M.wV s=some (Ye s):=by
 have hw:∀c:UInt8,i64.wrap ((c.toNat:Nat):Int)=(c.toNat:Int):=λc=>by have:=aq5 c;exact aB ak ak
 have h1:=ajm s (b:=M.Ep s)
  (λi c hc=>by have hi:=(PU.1 hc).1;simp only[M.Ep,M.yu,bC,hc,ah,hw,Um];rw[zdt ak,aK,aB ak ak];cases isW (c.toNat:Int)<;>rfl)
  (by simp only[M.Ep,M.yu];rw[pq ak,bn])
 have h2:=ajm s (b:=M.Eu s (s.length:Int))
  (λi c hc=>by have hi:=(PU.1 hc).1;simp only[M.Eu,M.yC,bC,hc,ah,hw,Um];rw[zdt ak,aK,aB ak ak];cases isW (c.toNat:Int)<;>rfl)
  (by simp only[M.Eu,M.yC];rw[pq ak,bn])
 simp only[M.wQ,M.Ld,M.wV,M.LV,M.Jk,M.Jw,M.dA,M.BO,M.bJ,M.zn];rw[h1,h2,ah,ah,Ye];cases azJ s with
 |false=>exact⟨rfl,rfl⟩
 |true=>
  simp only[aK,pz,letE,Bool.true_and];cases s with
  |nil=>exact⟨rfl,rfl⟩
  |cons c l=>have hi:idx (c::l) 0=some c:=rfl;simp only[hi,ah,hw,afN];cases decide (((c::l).length:Int)>=1)<;>cases decide (((c::l).length:Int)<=12)<;>exact⟨rfl,rfl⟩
def Rw(s:aC):Bool:=Ye s &&((azI s==0) && !(afM s))
def aeN(s:aC)(h:s.length<=1048576):M.jW s=some (Rw s)/\M.kY s=some (Rw s):=by have h1:=anD s h;simp only[M.jW,M.TJ,M.kY,M.TY,h1.1,h1.2,anC,YQ,ah,Rw];cases Ye s<;>cases azI s==0<;>cases afM s<;>exact⟨rfl,rfl⟩
end Go.Proofs.YtajjpadmdmehmaaGreatDoor
namespace Go.Proofs.YtajjpadmdmehmaaGreatDoor
set_option linter.unusedVariables false
set_option linter.unusedSimpArgs false
set_option linter.unusedSectionVars false
open Go Go.Vm
open Go.IntKind (i64)
open Int (reduceLE reduceLT reduceSub reduceAdd)
def aXo(c:UInt8)(n:Nat)(h:n<256):(((c.toNat:Nat):Int)==(n:Int))=(c==UInt8.ofNat n):=by
 rw[Bool.eq_iff_iff,beq_iff_eq,beq_iff_eq];constructor
 ·intro e;apply UInt8.toNat_inj.1;rw[UInt8.toNat_ofNat',Nat.mod_eq_of_lt h];omega
 ·rintro rfl;rw[UInt8.toNat_ofNat',Nat.mod_eq_of_lt h]
def hasB(c:UInt8)(s:aC):Bool:=s.any (· ==c)
def al3(s:aC)(c:UInt8):decide (0<=Lib.indexByte s c)=hasB c s:=by
 have hge:=Lib.indexByte_ge s c;rw[Bool.eq_iff_iff,decide_eq_true_eq,hasB,List.any_eq_true];constructor
 ·intro h;obtain⟨i,hi⟩:∃i:Nat,Lib.indexByte s c=i:=⟨(Lib.indexByte s c).toNat,ak⟩
  exact⟨c,En (Lib.indexByte_some hi).1,by simp⟩
 ·rintro⟨x,hx,hc⟩;have:=beq_iff_eq.1 hc;subst this;rcases Int.lt_or_le (Lib.indexByte s x) 0 with h|h
  ·obtain⟨i,hi⟩:=List.mem_iff_getElem?.1 hx;exact absurd hi (Lib.indexByte_none ak i)
  ·exact h
def ard(s:aC)(h:s.length<=1000000000):M.vW s=some (!(hasB 10 s)):=by
 have key:∀(t:aC) (i:Nat),s.drop i=t->i<=s.length->dM (M.BU s) (i:Int)=some (bif hasB 10 t then .inl () else .inr (s.length:Int)):=by
  intro t;induction t with
  |nil=>
   intro i hd hi;have:i=s.length:=by have:=congrArg List.length hd;simp at this;omega
   subst this;refine aY ?_;simp only[M.BU,M.BR];rw[pq ak,bn];rfl
  |cons x t ih=>
   intro i hd hi;have hx:s[i]? =some x:=by
    have:(s.drop i)[0]? =some x:=by rw[hd];rfl
    simpa using this
   have hlt:i<s.length:=(PU.1 hx).1;have hd':s.drop (i+1)=t:=by rw[<-List.drop_drop,hd];rfl
   have hs:M.BU s (i:Int)=some (bif x==10 then .inr (.inl ()) else .inl ((i:Int)+1)):=by simp only[M.BU,M.BR,bC,hx,ah];rw[zdt ak,aK,show(10:Int)=((10:Nat):Int) from rfl,aXo _ _ ak,aB ak ak,show(x==UInt8.ofNat 10)=(x==10) from rfl];cases x==10<;>rfl
   rw[hasB,List.any_cons];cases hc:x==10 with
   |true=>rw[hc,aK] at hs;rw[aY hs];rfl
   |false=>rw[hc,bn] at hs;rw[cu hs,show(i:Int)+1=((i+1:Nat):Int) by omega,ih (i+1) hd' hlt,Bool.false_or];rfl
 have:=key s 0 rfl (Nat.zero_le _);rw[oQ] at this;simp only[M.vW,M.Qv,M.Oj];rw[this,ah];cases hasB 10 s<;>rfl
def aDW:∀i,i<17->cStr FV i=aaj[i]? :=by decide+kernel
def auA:∀i,i<39->cStr VX i=Yd[i]? :=by decide+kernel
def spell(k:Int):aC:=if k=1 then[10] else if 10<=k/\k<=26 then aaj[(k - 10).toNat]?.getD [] else if 30<=k/\k<=68 then Yd[(k - 30).toNat]?.getD [] else[]
def nM(k:Int)(hk:I64 k):M.jr k=some (spell k)/\M.jJ k=some (spell k):=by
 have l1:aaj.length=17:=rfl;have l2:Yd.length=39:=rfl;simp only[M.jr,M.Qw,M.jJ,M.QW,M.qQ,M.CP,M.nU,M.CQ,M.bJ,M.zn,M.dA,M.BO,aq9,arb,ah,spell]
 by_cases h1:k=1
 ·subst h1;exact⟨rfl,rfl⟩
 ·rw[show(k==1)=false by simpa using h1,bn,bn,if_neg h1]
  by_cases h2:10<=k/\k<=26
  ·obtain⟨i,hi⟩:∃i:Nat,k=10+i:=⟨(k - 10).toNat,ak⟩
   have hw:i64.wrap (k - 10)=(i:Int):=by rw[aB ak ak];omega
   obtain⟨x,hx⟩:∃x,aaj[i]? =some x:=⟨aaj[i]'ak,by simp⟩
   rw[if_pos h2,zdt (show k>=10 by omega),aK,zdt (show k<=26 by omega),hw,zdt (show(0:Int)<=(i:Int) by omega),zdt (show(i:Int)<17 by omega)];simp only[ah,aK,bC,Xm,Yc,hx,O9,cS0,Bool.and_self,Nat.zero_add,Nat.mul_one,aDW i ak];rw[show(k - 10).toNat=i by omega,hx];exact⟨rfl,rfl⟩
  ·have hf:(bif decide (k>=10) then some (decide (k<=26)) else some false)=some false:=by
    by_cases h3:k>=10
    ·rw[zdt h3,aK,pq ak]
    ·rw[pq h3,bn]
   rw[if_neg h2,hf];simp only[ah,bn]
   by_cases h4:30<=k/\k<=68
   ·obtain⟨i,hi⟩:∃i:Nat,k=30+i:=⟨(k - 30).toNat,ak⟩
    have hw:i64.wrap (k - 30)=(i:Int):=by rw[aB ak ak];omega
    obtain⟨x,hx⟩:∃x,Yd[i]? =some x:=⟨Yd[i]'ak,by simp⟩
    rw[if_pos h4,zdt (show k>=30 by omega),aK,zdt (show k<=68 by omega),hw,zdt (show(0:Int)<=(i:Int) by omega),zdt (show(i:Int)<39 by omega)];simp only[ah,aK,bC,Xm,Yc,hx,O9,cS0,Bool.and_self,Nat.zero_add,Nat.mul_one,auA i ak];rw[show(k - 30).toNat=i by omega,hx];exact⟨rfl,rfl⟩
   ·have hf:(bif decide (k>=30) then some (decide (k<=68)) else some false)=some false:=by
     by_cases h3:k>=30
     ·rw[zdt h3,aK,pq ak]
     ·rw[pq h3,bn]
    rw[if_neg h4,hf];exact⟨rfl,rfl⟩
def YR(k:Int)(s:aC):Bool:=bif s==[] then false else
 bif k==2 then(Vz s 0==35) && !(hasB 10 s) else bif k==3 then ajh s 0==(s.length:Int) else bif k==4 then quoted s 0 34==(s.length:Int) else bif k==5 then ajk s 0==(s.length:Int) else
 bif k==6 then Rw s else bif k==7 then Rw s else bif k==8 then afM s else s==spell k
def ata(k:Int)(s:aC)(a:Int)(h:s.length<=1048576)(hk:I64 k):M.nI k s a=some (YR k s)/\M.wz k s a=some (YR k s):=by
 have hn:=aeN s h;have hb:=YQ s;have hst:=av7 h 0 ak ak;have her:=av8 h 0 ak ak;have hsp:=nM k hk;have hct:M.strings_Contains s [10]=some (hasB 10 s):=by rw[M.strings_Contains,al3]
 simp only[M.nI,M.Qx,M.wz,M.QX,hn.1,hn.2,hb.1,hb.2,hst.1,hst.2,her.1,her.2,hsp.1,hsp.2,hct,ard s ak,ajj h 0 ak,aji h 0 ak,ah,YR];cases s with
 |nil=>refine⟨?_,rfl⟩;have q1:Rw []=false:=rfl;have q2:afM []=false:=rfl;have q3:(quoted [] 0 34==(([]:aC).length:Int))=false:=rfl;have q4:(ajk [] 0==(([]:aC).length:Int))=false:=rfl;rw[q1,q2,q3,q4];cases k==2<;>cases k==3<;>cases k==4<;>cases k==5<;>cases k==6<;>cases k==7<;>cases k==8<;>rfl
 |cons c l=>
  have hi:idx (c::l) 0=some c:=rfl;have hb0:Vz (c::l) 0=(c.toNat:Int):=rfl;have hne:((c::l:aC)==[])=false:=rfl;have hgt:decide (((c::l).length:Int)>0)=true:=by simp
  have hsw:(spell k==c::l)=(c::l==spell k):=by rw[Bool.eq_iff_iff,beq_iff_eq,beq_iff_eq];exact⟨Eq.symm,Eq.symm⟩
  rw[hi,hb0,hne,hgt,hsw];simp only[ah,aK,bn,Bool.not_false];cases k==2<;>cases k==3<;>cases k==4<;>cases k==5<;>cases k==6<;>cases k==7<;>cases k==8<;>cases(c.toNat:Int)==35<;>exact⟨rfl,rfl⟩
end Go.Proofs.YtajjpadmdmehmaaGreatDoor
namespace Go.Proofs.YtajjpadmdmehmaaGreatDoor
set_option linter.unusedVariables false
set_option linter.unusedSimpArgs false
set_option linter.unusedSectionVars false
open Go Go.Vm
open Go.IntKind (i64)
open Int (reduceLE reduceLT reduceSub reduceAdd)
def gV(x a b:Int):M.dA x a b=some (decide (x>=a) && decide (x<=b)):=by simp only[M.dA,M.BO];cases decide (x>=a)<;>rfl
def dL(x a b:Int):M.bJ x a b=some (decide (x>=a) && decide (x<=b)):=gV x a b
def ajn(op:Int):Bool:=op==60||op==57||op==58||op==59||op==55||op==56||op==99||op==63||op==48||op==47||op==50||op==62||op==49||op==67||op==46||op==45||op==44
def Dk(op:Int):M.Bq op=some (ajn op)/\∃lv,M.ou op=some lv/\(lv !=0)=ajn op:=by
 by_cases h44:op=44
 ·subst h44;exact⟨rfl,_,rfl,rfl⟩
 have e44:(op==44)=false:=by simpa using h44
 by_cases h45:op=45
 ·subst h45;exact⟨rfl,_,rfl,rfl⟩
 have e45:(op==45)=false:=by simpa using h45
 by_cases h67:op=67
 ·subst h67;exact⟨rfl,_,rfl,rfl⟩
 have e67:(op==67)=false:=by simpa using h67
 by_cases h46:op=46
 ·subst h46;exact⟨rfl,_,rfl,rfl⟩
 have e46:(op==46)=false:=by simpa using h46
 by_cases h63:op=63
 ·subst h63;exact⟨rfl,_,rfl,rfl⟩
 have e63:(op==63)=false:=by simpa using h63
 by_cases h48:op=48
 ·subst h48;exact⟨rfl,_,rfl,rfl⟩
 have e48:(op==48)=false:=by simpa using h48
 by_cases h47:op=47
 ·subst h47;exact⟨rfl,_,rfl,rfl⟩
 have e47:(op==47)=false:=by simpa using h47
 by_cases h50:op=50
 ·subst h50;exact⟨rfl,_,rfl,rfl⟩
 have e50:(op==50)=false:=by simpa using h50
 by_cases h62:op=62
 ·subst h62;exact⟨rfl,_,rfl,rfl⟩
 have e62:(op==62)=false:=by simpa using h62
 by_cases h49:op=49
 ·subst h49;exact⟨rfl,_,rfl,rfl⟩
 have e49:(op==49)=false:=by simpa using h49
 by_cases h99:op=99
 ·subst h99;exact⟨rfl,_,rfl,rfl⟩
 have e99:(op==99)=false:=by simpa using h99
 by_cases h55:op=55
 ·subst h55;exact⟨rfl,_,rfl,rfl⟩
 have e55:(op==55)=false:=by simpa using h55
 by_cases h56:op=56
 ·subst h56;exact⟨rfl,_,rfl,rfl⟩
 have e56:(op==56)=false:=by simpa using h56
 by_cases h57:op=57
 ·subst h57;exact⟨rfl,_,rfl,rfl⟩
 have e57:(op==57)=false:=by simpa using h57
 by_cases h58:op=58
 ·subst h58;exact⟨rfl,_,rfl,rfl⟩
 have e58:(op==58)=false:=by simpa using h58
 by_cases h59:op=59
 ·subst h59;exact⟨rfl,_,rfl,rfl⟩
 have e59:(op==59)=false:=by simpa using h59
 by_cases h60:op=60
 ·subst h60;exact⟨rfl,_,rfl,rfl⟩
 have e60:(op==60)=false:=by simpa using h60
 simp only[M.Bq,M.Qr,M.ou,M.Kt,ajn,e44,e45,e67,e46,e63,e48,e47,e50,e62,e49,e99,e55,e56,e57,e58,e59,e60,bn,Bool.or_self];exact⟨trivial,0,rfl,rfl⟩
def ajo(op:Int):Bool:=op==54||(decide (op>=38) && decide (op<=43))
def qh(op:Int):M.uI op=some (ajo op)/\M.y8 op=some (ajo op):=by simp only[M.uI,M.Ji,M.y8,M.OM,gV,dL,ah,ajo];cases op==54<;>exact⟨rfl,rfl⟩
def aak(s:aC)(l:List (aC))(hl:l.length<=1048576):M.slices_Contains (encS l) s=some (decide (UE s l 0>=0)):=by simp only[M.slices_Contains,M.CO,ajl s l hl,ah]
def IQ:([[D.str []],[D.str [62]],[D.str [62,62]],[D.str [124]]]:au)=encS [[],[62],[62,62],[124]]:=rfl
def acy(s:aC):decide (UE s [[],[62],[62,62],[124]] 0>=0)=(s==[]||(s==[62]||(s==[62,62]||s==[124]))):=by
 have sw:∀a b:aC,(a==b)=(b==a):=λa b=>by rw[Bool.eq_iff_iff,beq_iff_eq,beq_iff_eq];exact⟨Eq.symm,Eq.symm⟩
 simp only[UE,sw _ s];cases s==[]<;>cases s==[62]<;>cases s==[62,62]<;>cases s==[124]<;>rfl
def FOk(k op:Int)(t o:aC)(kids:au):Prop:=∃b,M.aI k op t o kids=some b/\M.iZ k op t o kids=some b
def aDX(k:Int)(op:Int)(t o:aC)(kids:au)(ht:t.length<=1048576)(ho:o.length<=1048576)(hk:kids.length<=400)(hkk:k=1\/k=2\/k=3\/k=4\/k=5\/k=6\/k=7\/k=8\/k=9\/k=10\/k=11\/k=12\/k=13\/k=14\/k=15\/k=16\/k=20\/k=22\/k=23\/k=24\/k=25\/k=26\/k=27\/k=28\/k=29\/k=30\/k=31\/k=32\/k=33\/k=34\/k=40\/k=41\/k=44\/k=45):FOk k op t o kids:=by
 have hn:=aeN t ht;have hn2:=aeN o ho;have hb:=YQ t;have ha:=qh op;obtain⟨hi,lv,hlv,hi2⟩:=Dk op;have tk:=λk hk=>ata k t 0 ht hk
 have tk2:=tk 2 ⟨ak,ak⟩;have tk3:=tk 3 ⟨ak,ak⟩;have tk4:=tk 4 ⟨ak,ak⟩;have tk5:=tk 5 ⟨ak,ak⟩;have hc2:bK IntKind.i64 [D.int IntKind.i64 3,D.int IntKind.i64 4,D.int IntKind.i64 5] (i64.wrap 0).toNat=some 3:=rfl;have d12:decide ((0:Int)<=i64.wrap 0)=true:=rfl;have d22:decide (i64.wrap 0<3)=true:=rfl;have hc3:bK IntKind.i64 [D.int IntKind.i64 3,D.int IntKind.i64 4,D.int IntKind.i64 5] (i64.wrap 1).toNat=some 4:=rfl;have d13:decide ((0:Int)<=i64.wrap 1)=true:=rfl;have d23:decide (i64.wrap 1<3)=true:=rfl;have hc4:bK IntKind.i64 [D.int IntKind.i64 3,D.int IntKind.i64 4,D.int IntKind.i64 5] (i64.wrap 2).toNat=some 5:=rfl;have d14:decide ((0:Int)<=i64.wrap 2)=true:=rfl;have d24:decide (i64.wrap 2<3)=true:=rfl;have z1:decide ((kids.length:Int)<=400)=true:=zdt ak;have z2:decide ((0:Int)<=(kids.length:Int))=true:=zdt ak;have z3:decide ((kids.length:Int)<=(kids.length:Int))=true:=zdt ak;rcases hkk with rfl|rfl|rfl|rfl|rfl|rfl|rfl|rfl|rfl|rfl|rfl|rfl|rfl|rfl|rfl|rfl|rfl|rfl|rfl|rfl|rfl|rfl|rfl|rfl|rfl|rfl|rfl|rfl|rfl|rfl|rfl|rfl|rfl|rfl<;>simp only[FOk,M.aI,M.bf,M.dI,M.bZ,M.fE,M.dW,M.dJ,M.dh,M.iZ,M.jP,M.fC,M.lq,M.jS,M.lu,M.jX,M.kK,M.ji,M.jY,M.kL,M.jZ,M.kM,M.l9,M.nC,gV,dL,hn.1,hn.2,hn2.1,hn2.2,hb.1,hb.2,ha.1,ha.2,hi,hlv,hi2,tk2.1,tk2.2,tk3.1,tk3.2,tk4.1,tk4.2,tk5.1,tk5.2,hc2,d12,d22,hc3,d13,d23,hc4,d14,d24,z1,z2,z3,ge_iff_le,Int.reduceBEq,reduceLE,reduceSub,decide_true,decide_false,aK,bn,Bool.and_true,Bool.and_false,Bool.true_and,Bool.false_and,ah]
 ·cases(op==0)<;>cases(Rw t)<;>cases(o==[])<;>exact⟨_,rfl,rfl⟩
 ·cases(op==0)<;>cases(YR 3 t)<;>cases(o==[])<;>exact⟨_,rfl,rfl⟩
 ·cases(op==0)<;>cases(YR 4 t)<;>cases(o==[])<;>exact⟨_,rfl,rfl⟩
 ·cases(op==0)<;>cases(YR 5 t)<;>cases(o==[])<;>exact⟨_,rfl,rfl⟩
 ·cases(op==0)<;>cases(Rw t)<;>cases(o==[])<;>exact⟨_,rfl,rfl⟩
 ·cases(op==0)<;>cases(t==[])<;>cases(o==[])<;>exact⟨_,rfl,rfl⟩
 ·cases(op==0)<;>cases(Rw t)<;>cases(o==[])<;>exact⟨_,rfl,rfl⟩
 ·cases(op==0)<;>cases(afM t)<;>cases(o==[])<;>exact⟨_,rfl,rfl⟩
 ·cases(op==51)<;>cases(op==52)<;>cases(t==[])<;>cases(o==[])<;>exact⟨_,rfl,rfl⟩
 ·cases(op==51)<;>cases(op==52)<;>cases(t==[])<;>cases(o==[])<;>exact⟨_,rfl,rfl⟩
 ·cases(op==55)<;>cases(op==56)<;>cases(op==61)<;>cases(t==[])<;>cases(o==[])<;>exact⟨_,rfl,rfl⟩
 ·cases(ajn op)<;>cases(t==[])<;>cases(o==[])<;>exact⟨_,rfl,rfl⟩
 ·cases(op==0)<;>cases(Rw t)<;>cases(o==[])<;>exact⟨_,rfl,rfl⟩
 ·cases(op==0)<;>cases(t==[])<;>cases(o==[])<;>exact⟨_,rfl,rfl⟩
 ·cases(ajo op)<;>cases(t==[])<;>cases(o==[])<;>exact⟨_,rfl,rfl⟩
 ·cases(op==0)<;>cases(t==[])<;>cases(o==[])<;>exact⟨_,rfl,rfl⟩
 ·cases(op==0)<;>cases(t==[])<;>cases(o==[])<;>exact⟨_,rfl,rfl⟩
 ·cases(op==0)<;>cases(t==[])<;>cases(o==[])<;>exact⟨_,rfl,rfl⟩
 ·cases(op==0)<;>cases(t==[])<;>cases(o==[])<;>exact⟨_,rfl,rfl⟩
 ·cases(op==0)<;>cases(t==[])<;>cases(o==[])<;>exact⟨_,rfl,rfl⟩
 ·cases(op==0)<;>cases(t==[])<;>cases(o==[])<;>exact⟨_,rfl,rfl⟩
 ·cases(op==0)<;>cases(t==[])<;>cases(o==[])<;>exact⟨_,rfl,rfl⟩
 ·cases(op==0)<;>cases(Rw t)<;>cases(o==[])<;>exact⟨_,rfl,rfl⟩
 ·cases(op==0)<;>cases(t==[])<;>cases(o==[])<;>exact⟨_,rfl,rfl⟩
 ·cases(op==0)<;>cases(t==[])<;>cases(o==[])<;>exact⟨_,rfl,rfl⟩
 ·cases(op==0)<;>cases(t==[])<;>cases(o==[])<;>exact⟨_,rfl,rfl⟩
 ·cases(op==0)<;>cases(t==[])<;>cases(o==[])<;>exact⟨_,rfl,rfl⟩
 ·cases(op==0)<;>cases(Rw t)<;>cases(Rw o)<;>exact⟨_,rfl,rfl⟩
 ·cases(op==0)<;>cases(t==[])<;>cases(o==[])<;>exact⟨_,rfl,rfl⟩
 ·cases(op==0)<;>cases(YR 2 t)<;>cases(o==[])<;>exact⟨_,rfl,rfl⟩
 ·cases(op==0)<;>cases(t==[])<;>cases(o==[])<;>exact⟨_,rfl,rfl⟩
 ·cases(op==0)<;>cases(t==[])<;>cases(o==[])<;>exact⟨_,rfl,rfl⟩
 ·cases(op==0)<;>cases(Rw t)<;>cases(o==[])<;>exact⟨_,rfl,rfl⟩
 ·cases(op==0)<;>cases(t==[])<;>cases(o==[])<;>exact⟨_,rfl,rfl⟩
def aXp(op:Int)(t o:aC)(kids:au)(ht:t.length<=1048576)(ho:o.length<=1048576)(hk:kids.length<=400):FOk 21 op t o kids:=by
 have hp:=aak o [[],[62],[62,62],[124]] (by decide);rw[acy] at hp
 by_cases h0:op=0
 ·subst h0;simp only[FOk,M.aI,M.bf,M.dI,M.bZ,M.fE,M.dW,M.dJ,M.dh,M.iZ,M.jP,M.fC,M.lq,M.jS,M.lu,M.jX,M.kK,M.ji,M.jY,M.kL,M.jZ,M.kM,M.l9,M.nC,gV,dL,IQ,hp,show i64.wrap (0+1)=1 from rfl,show i64.wrap (1+1)=2 from rfl,show i64.wrap (1+i64.wrap (Int.tdiv 1 3))=1 from rfl,show i64.wrap (1+i64.wrap (Int.tdiv 2 3))=1 from rfl,show i64.wrap (1+i64.wrap (Int.tdiv 3 3))=2 from rfl,show i64.wrap (2+i64.wrap (Int.tdiv 1 3))=2 from rfl,show i64.wrap (2+i64.wrap (Int.tdiv 3 3))=3 from rfl,ge_iff_le,Int.reduceBEq,reduceLE,reduceSub,decide_true,decide_false,aK,bn,Bool.and_true,Bool.and_false,Bool.true_and,Bool.false_and,ah];generalize (t==[])=a0;generalize (o==[])=a1;generalize (o==[62])=a2;generalize (o==[62,62])=a3;generalize (o==[124])=a4;cases a0<;>cases a1<;>cases a2<;>cases a3<;>cases a4<;>exact⟨_,rfl,rfl⟩
 by_cases h1:op=1
 ·subst h1;simp only[FOk,M.aI,M.bf,M.dI,M.bZ,M.fE,M.dW,M.dJ,M.dh,M.iZ,M.jP,M.fC,M.lq,M.jS,M.lu,M.jX,M.kK,M.ji,M.jY,M.kL,M.jZ,M.kM,M.l9,M.nC,gV,dL,IQ,hp,show i64.wrap (0+1)=1 from rfl,show i64.wrap (1+1)=2 from rfl,show i64.wrap (1+i64.wrap (Int.tdiv 1 3))=1 from rfl,show i64.wrap (1+i64.wrap (Int.tdiv 2 3))=1 from rfl,show i64.wrap (1+i64.wrap (Int.tdiv 3 3))=2 from rfl,show i64.wrap (2+i64.wrap (Int.tdiv 1 3))=2 from rfl,show i64.wrap (2+i64.wrap (Int.tdiv 3 3))=3 from rfl,ge_iff_le,Int.reduceBEq,reduceLE,reduceSub,decide_true,decide_false,aK,bn,Bool.and_true,Bool.and_false,Bool.true_and,Bool.false_and,ah];generalize (t==[])=a0;generalize (o==[])=a1;generalize (o==[62])=a2;generalize (o==[62,62])=a3;generalize (o==[124])=a4;cases a0<;>cases a1<;>cases a2<;>cases a3<;>cases a4<;>exact⟨_,rfl,rfl⟩
 have e0:(op==0)=false:=by simpa using h0
 have e1:(op==1)=false:=by simpa using h1
 have hf:(decide ((0:Int)<=op) && decide (op<=1))=false:=by rw[Bool.and_eq_false_iff,decide_eq_false_iff_not,decide_eq_false_iff_not];omega
 simp only[FOk,M.aI,M.bf,M.dI,M.bZ,M.fE,M.dW,M.dJ,M.dh,M.iZ,M.jP,M.fC,M.lq,M.jS,M.lu,M.jX,M.kK,M.ji,M.jY,M.kL,M.jZ,M.kM,M.l9,M.nC,gV,dL,IQ,hp,e0,e1,hf,ge_iff_le,Int.reduceBEq,reduceLE,reduceSub,decide_true,decide_false,aK,bn,Bool.and_true,Bool.and_false,Bool.true_and,Bool.false_and,ah];generalize (t==[])=a0;generalize (o==[])=a1;generalize (o==[62])=a2;generalize (o==[62,62])=a3;generalize (o==[124])=a4;cases a0<;>cases a1<;>cases a2<;>cases a3<;>cases a4<;>exact⟨_,rfl,rfl⟩
def aXq(op:Int)(t o:aC)(kids:au)(ht:t.length<=1048576)(ho:o.length<=1048576)(hk:kids.length<=400):FOk 42 op t o kids:=by
 have hp:=aak o [[],[62],[62,62],[124]] (by decide);rw[acy] at hp
 by_cases h1:op=1
 ·subst h1;simp only[FOk,M.aI,M.bf,M.dI,M.bZ,M.fE,M.dW,M.dJ,M.dh,M.iZ,M.jP,M.fC,M.lq,M.jS,M.lu,M.jX,M.kK,M.ji,M.jY,M.kL,M.jZ,M.kM,M.l9,M.nC,gV,dL,IQ,hp,show i64.wrap (0+1)=1 from rfl,show i64.wrap (1+1)=2 from rfl,show i64.wrap (1+i64.wrap (Int.tdiv 1 3))=1 from rfl,show i64.wrap (1+i64.wrap (Int.tdiv 2 3))=1 from rfl,show i64.wrap (1+i64.wrap (Int.tdiv 3 3))=2 from rfl,show i64.wrap (2+i64.wrap (Int.tdiv 1 3))=2 from rfl,show i64.wrap (2+i64.wrap (Int.tdiv 3 3))=3 from rfl,ge_iff_le,Int.reduceBEq,reduceLE,reduceSub,decide_true,decide_false,aK,bn,Bool.and_true,Bool.and_false,Bool.true_and,Bool.false_and,ah];generalize (t==[])=a0;generalize (o==[])=a1;cases a0<;>cases a1<;>exact⟨_,rfl,rfl⟩
 by_cases h2:op=2
 ·subst h2;simp only[FOk,M.aI,M.bf,M.dI,M.bZ,M.fE,M.dW,M.dJ,M.dh,M.iZ,M.jP,M.fC,M.lq,M.jS,M.lu,M.jX,M.kK,M.ji,M.jY,M.kL,M.jZ,M.kM,M.l9,M.nC,gV,dL,IQ,hp,show i64.wrap (0+1)=1 from rfl,show i64.wrap (1+1)=2 from rfl,show i64.wrap (1+i64.wrap (Int.tdiv 1 3))=1 from rfl,show i64.wrap (1+i64.wrap (Int.tdiv 2 3))=1 from rfl,show i64.wrap (1+i64.wrap (Int.tdiv 3 3))=2 from rfl,show i64.wrap (2+i64.wrap (Int.tdiv 1 3))=2 from rfl,show i64.wrap (2+i64.wrap (Int.tdiv 3 3))=3 from rfl,ge_iff_le,Int.reduceBEq,reduceLE,reduceSub,decide_true,decide_false,aK,bn,Bool.and_true,Bool.and_false,Bool.true_and,Bool.false_and,ah];generalize (t==[])=a0;generalize (o==[])=a1;cases a0<;>cases a1<;>exact⟨_,rfl,rfl⟩
 by_cases h3:op=3
 ·subst h3;simp only[FOk,M.aI,M.bf,M.dI,M.bZ,M.fE,M.dW,M.dJ,M.dh,M.iZ,M.jP,M.fC,M.lq,M.jS,M.lu,M.jX,M.kK,M.ji,M.jY,M.kL,M.jZ,M.kM,M.l9,M.nC,gV,dL,IQ,hp,show i64.wrap (0+1)=1 from rfl,show i64.wrap (1+1)=2 from rfl,show i64.wrap (1+i64.wrap (Int.tdiv 1 3))=1 from rfl,show i64.wrap (1+i64.wrap (Int.tdiv 2 3))=1 from rfl,show i64.wrap (1+i64.wrap (Int.tdiv 3 3))=2 from rfl,show i64.wrap (2+i64.wrap (Int.tdiv 1 3))=2 from rfl,show i64.wrap (2+i64.wrap (Int.tdiv 3 3))=3 from rfl,ge_iff_le,Int.reduceBEq,reduceLE,reduceSub,decide_true,decide_false,aK,bn,Bool.and_true,Bool.and_false,Bool.true_and,Bool.false_and,ah];generalize (t==[])=a0;generalize (o==[])=a1;cases a0<;>cases a1<;>exact⟨_,rfl,rfl⟩
 have e1:(op==1)=false:=by simpa using h1
 have e2:(op==2)=false:=by simpa using h2
 have e3:(op==3)=false:=by simpa using h3
 have hf:(decide ((1:Int)<=op) && decide (op<=3))=false:=by rw[Bool.and_eq_false_iff,decide_eq_false_iff_not,decide_eq_false_iff_not];omega
 simp only[FOk,M.aI,M.bf,M.dI,M.bZ,M.fE,M.dW,M.dJ,M.dh,M.iZ,M.jP,M.fC,M.lq,M.jS,M.lu,M.jX,M.kK,M.ji,M.jY,M.kL,M.jZ,M.kM,M.l9,M.nC,gV,dL,IQ,hp,e1,e2,e3,hf,ge_iff_le,Int.reduceBEq,reduceLE,reduceSub,decide_true,decide_false,aK,bn,Bool.and_true,Bool.and_false,Bool.true_and,Bool.false_and,ah];generalize (t==[])=a0;generalize (o==[])=a1;cases a0<;>cases a1<;>exact⟨_,rfl,rfl⟩
def aXr(op:Int)(t o:aC)(kids:au)(ht:t.length<=1048576)(ho:o.length<=1048576)(hk:kids.length<=400):FOk 43 op t o kids:=by
 have hp:=aak o [[],[62],[62,62],[124]] (by decide);rw[acy] at hp
 by_cases h1:op=1
 ·subst h1;simp only[FOk,M.aI,M.bf,M.dI,M.bZ,M.fE,M.dW,M.dJ,M.dh,M.iZ,M.jP,M.fC,M.lq,M.jS,M.lu,M.jX,M.kK,M.ji,M.jY,M.kL,M.jZ,M.kM,M.l9,M.nC,gV,dL,IQ,hp,show i64.wrap (0+1)=1 from rfl,show i64.wrap (1+1)=2 from rfl,show i64.wrap (1+i64.wrap (Int.tdiv 1 3))=1 from rfl,show i64.wrap (1+i64.wrap (Int.tdiv 2 3))=1 from rfl,show i64.wrap (1+i64.wrap (Int.tdiv 3 3))=2 from rfl,show i64.wrap (2+i64.wrap (Int.tdiv 1 3))=2 from rfl,show i64.wrap (2+i64.wrap (Int.tdiv 3 3))=3 from rfl,ge_iff_le,Int.reduceBEq,reduceLE,reduceSub,decide_true,decide_false,aK,bn,Bool.and_true,Bool.and_false,Bool.true_and,Bool.false_and,ah];generalize (t==[])=a0;generalize (o==[])=a1;cases a0<;>cases a1<;>exact⟨_,rfl,rfl⟩
 by_cases h3:op=3
 ·subst h3;simp only[FOk,M.aI,M.bf,M.dI,M.bZ,M.fE,M.dW,M.dJ,M.dh,M.iZ,M.jP,M.fC,M.lq,M.jS,M.lu,M.jX,M.kK,M.ji,M.jY,M.kL,M.jZ,M.kM,M.l9,M.nC,gV,dL,IQ,hp,show i64.wrap (0+1)=1 from rfl,show i64.wrap (1+1)=2 from rfl,show i64.wrap (1+i64.wrap (Int.tdiv 1 3))=1 from rfl,show i64.wrap (1+i64.wrap (Int.tdiv 2 3))=1 from rfl,show i64.wrap (1+i64.wrap (Int.tdiv 3 3))=2 from rfl,show i64.wrap (2+i64.wrap (Int.tdiv 1 3))=2 from rfl,show i64.wrap (2+i64.wrap (Int.tdiv 3 3))=3 from rfl,ge_iff_le,Int.reduceBEq,reduceLE,reduceSub,decide_true,decide_false,aK,bn,Bool.and_true,Bool.and_false,Bool.true_and,Bool.false_and,ah];generalize (t==[])=a0;generalize (o==[])=a1;cases a0<;>cases a1<;>exact⟨_,rfl,rfl⟩
 have e1:(op==1)=false:=by simpa using h1
 have e3:(op==3)=false:=by simpa using h3
 have hf:True:=trivial;simp only[FOk,M.aI,M.bf,M.dI,M.bZ,M.fE,M.dW,M.dJ,M.dh,M.iZ,M.jP,M.fC,M.lq,M.jS,M.lu,M.jX,M.kK,M.ji,M.jY,M.kL,M.jZ,M.kM,M.l9,M.nC,gV,dL,IQ,hp,e1,e3,hf,ge_iff_le,Int.reduceBEq,reduceLE,reduceSub,decide_true,decide_false,aK,bn,Bool.and_true,Bool.and_false,Bool.true_and,Bool.false_and,ah];generalize (t==[])=a0;generalize (o==[])=a1;cases a0<;>cases a1<;>exact⟨_,rfl,rfl⟩
def arf(k:Int)(op:Int)(t o:aC)(kids:au)(ht:t.length<=1048576)(ho:o.length<=1048576)(hk:kids.length<=400):FOk k op t o kids:=by
 by_cases hkk:k=1\/k=2\/k=3\/k=4\/k=5\/k=6\/k=7\/k=8\/k=9\/k=10\/k=11\/k=12\/k=13\/k=14\/k=15\/k=16\/k=20\/k=22\/k=23\/k=24\/k=25\/k=26\/k=27\/k=28\/k=29\/k=30\/k=31\/k=32\/k=33\/k=34\/k=40\/k=41\/k=44\/k=45
 ·exact aDX k op t o kids ht ho hk hkk
 by_cases h21:k=21
 ·subst h21;exact aXp op t o kids ht ho hk
 by_cases h42:k=42
 ·subst h42;exact aXq op t o kids ht ho hk
 by_cases h43:k=43
 ·subst h43;exact aXr op t o kids ht ho hk
 have h1:k≠1:=ak;have h2:k≠2:=ak;have h3:k≠3:=ak;have h4:k≠4:=ak;have h5:k≠5:=ak;have h6:k≠6:=ak;have h7:k≠7:=ak;have h8:k≠8:=ak;have h9:k≠9:=ak;have h10:k≠10:=ak;have h11:k≠11:=ak;have h12:k≠12:=ak;have h13:k≠13:=ak;have h14:k≠14:=ak;have h15:k≠15:=ak;have h16:k≠16:=ak;have h20:k≠20:=ak;have h22:k≠22:=ak;have h23:k≠23:=ak;have h24:k≠24:=ak;have h25:k≠25:=ak;have h26:k≠26:=ak;have h27:k≠27:=ak;have h28:k≠28:=ak;have h29:k≠29:=ak;have h30:k≠30:=ak;have h31:k≠31:=ak;have h32:k≠32:=ak;have h33:k≠33:=ak;have h34:k≠34:=ak;have h40:k≠40:=ak;have h41:k≠41:=ak;have h44:k≠44:=ak;have h45:k≠45:=ak;have f1:(decide (k>=1) && decide (k<=16))=false:=by rw[Bool.and_eq_false_iff,decide_eq_false_iff_not,decide_eq_false_iff_not];omega
 have f2:(decide (k>=20) && decide (k<=34))=false:=by rw[Bool.and_eq_false_iff,decide_eq_false_iff_not,decide_eq_false_iff_not];omega
 have f3:(decide (k>=40) && decide (k<=45))=false:=by rw[Bool.and_eq_false_iff,decide_eq_false_iff_not,decide_eq_false_iff_not];omega
 have f4:(decide (k>=1) && decide (k<=15))=false:=by rw[Bool.and_eq_false_iff,decide_eq_false_iff_not,decide_eq_false_iff_not];omega
 have g:(k==16)=false:=by simpa using h16
 have e1:(k==1)=false:=by simpa using h1
 have e2:(k==2)=false:=by simpa using h2
 have e3:(k==3)=false:=by simpa using h3
 have e4:(k==4)=false:=by simpa using h4
 have e5:(k==5)=false:=by simpa using h5
 have e6:(k==6)=false:=by simpa using h6
 have e7:(k==7)=false:=by simpa using h7
 have e8:(k==8)=false:=by simpa using h8
 have e9:(k==9)=false:=by simpa using h9
 have e10:(k==10)=false:=by simpa using h10
 have e11:(k==11)=false:=by simpa using h11
 have e12:(k==12)=false:=by simpa using h12
 have e13:(k==13)=false:=by simpa using h13
 have e14:(k==14)=false:=by simpa using h14
 have e15:(k==15)=false:=by simpa using h15
 have e16:(k==16)=false:=by simpa using h16
 have e20:(k==20)=false:=by simpa using h20
 have e21:(k==21)=false:=by simpa using h21
 have e22:(k==22)=false:=by simpa using h22
 have e23:(k==23)=false:=by simpa using h23
 have e24:(k==24)=false:=by simpa using h24
 have e25:(k==25)=false:=by simpa using h25
 have e26:(k==26)=false:=by simpa using h26
 have e27:(k==27)=false:=by simpa using h27
 have e28:(k==28)=false:=by simpa using h28
 have e29:(k==29)=false:=by simpa using h29
 have e30:(k==30)=false:=by simpa using h30
 have e31:(k==31)=false:=by simpa using h31
 have e32:(k==32)=false:=by simpa using h32
 have e33:(k==33)=false:=by simpa using h33
 have e34:(k==34)=false:=by simpa using h34
 have e40:(k==40)=false:=by simpa using h40
 have e41:(k==41)=false:=by simpa using h41
 have e42:(k==42)=false:=by simpa using h42
 have e43:(k==43)=false:=by simpa using h43
 have e44:(k==44)=false:=by simpa using h44
 have e45:(k==45)=false:=by simpa using h45
 simp only[FOk,M.aI,M.bf,M.dI,M.bZ,M.iZ,M.jP,M.fC,M.lq,M.jS,M.lu,gV,dL,f1,f2,f3,f4,e1,e2,e3,e4,e5,e6,e7,e8,e9,e10,e11,e12,e13,e14,e15,e16,e20,e21,e22,e23,e24,e25,e26,e27,e28,e29,e30,e31,e32,e33,e34,e40,e41,e42,e43,e44,e45,bn,ah];exact⟨false,rfl,rfl⟩
end Go.Proofs.YtajjpadmdmehmaaGreatDoor
namespace Go.Proofs.YtajjpadmdmehmaaGreatDoor
set_option linter.unusedVariables false
set_option linter.unusedSimpArgs false
set_option linter.unusedSectionVars false
open Go Go.Vm
open Go.IntKind (i64)
open Int (reduceLE reduceLT reduceSub reduceAdd)
structure Cons(k op:Int)(n:Nat):Prop where
 two:k=29\/k=30->n=2
 four:k=31->n=4
 rule:k=42->(op=1/\n=1)\/(op=2/\n=1)\/(op=3/\n=2)
 range:k=43->(op=1/\n=2)\/(op=3/\n=3)
def a6m(op:Int)(t o:aC)(kids:au)(h:M.aI 29 op t o kids=some true):kids.length=2:=by simp only[M.aI,M.bf,M.dI,M.bZ,M.fE,M.dW,M.dJ,M.dh,gV,dL,Int.reduceBEq,reduceLE,reduceLT,reduceSub,reduceAdd,dH,ah] at h;revert h;cases op==0<;>cases t==[]<;>cases o==[]<;>simp<;>omega
def a6n(op:Int)(t o:aC)(kids:au)(h:M.aI 30 op t o kids=some true):kids.length=2:=by simp only[M.aI,M.bf,M.dI,M.bZ,M.fE,M.dW,M.dJ,M.dh,gV,dL,Int.reduceBEq,reduceLE,reduceLT,reduceSub,reduceAdd,dH,ah] at h;revert h;cases op==0<;>cases t==[]<;>cases o==[]<;>simp<;>omega
def a6o(op:Int)(t o:aC)(kids:au)(h:M.aI 31 op t o kids=some true):kids.length=4:=by simp only[M.aI,M.bf,M.dI,M.bZ,M.fE,M.dW,M.dJ,M.dh,gV,dL,Int.reduceBEq,reduceLE,reduceLT,reduceSub,reduceAdd,dH,ah] at h;revert h;cases op==0<;>cases t==[]<;>cases o==[]<;>simp<;>omega
def a6p(op:Int)(t o:aC)(kids:au)(h:M.aI 42 op t o kids=some true):(op=1/\kids.length=1)\/(op=2/\kids.length=1)\/(op=3/\kids.length=2):=by
 by_cases h1:op=1
 ·subst h1;simp only[M.aI,M.bf,M.dI,M.bZ,M.fE,M.dW,M.dJ,M.dh,gV,dL,show i64.wrap (1+i64.wrap (Int.tdiv 1 3))=1 from rfl,show i64.wrap (1+i64.wrap (Int.tdiv 2 3))=1 from rfl,show i64.wrap (1+i64.wrap (Int.tdiv 3 3))=2 from rfl,show i64.wrap (2+i64.wrap (Int.tdiv 1 3))=2 from rfl,show i64.wrap (2+i64.wrap (Int.tdiv 3 3))=3 from rfl,Int.reduceBEq,reduceLE,reduceLT,reduceSub,reduceAdd,dH,ah] at h;revert h;cases t==[]<;>cases o==[]<;>simp<;>omega
 have e1:(op==1)=false:=by simpa using h1
 by_cases h2:op=2
 ·subst h2;simp only[M.aI,M.bf,M.dI,M.bZ,M.fE,M.dW,M.dJ,M.dh,gV,dL,show i64.wrap (1+i64.wrap (Int.tdiv 1 3))=1 from rfl,show i64.wrap (1+i64.wrap (Int.tdiv 2 3))=1 from rfl,show i64.wrap (1+i64.wrap (Int.tdiv 3 3))=2 from rfl,show i64.wrap (2+i64.wrap (Int.tdiv 1 3))=2 from rfl,show i64.wrap (2+i64.wrap (Int.tdiv 3 3))=3 from rfl,Int.reduceBEq,reduceLE,reduceLT,reduceSub,reduceAdd,dH,ah] at h;revert h;cases t==[]<;>cases o==[]<;>simp<;>omega
 have e2:(op==2)=false:=by simpa using h2
 by_cases h3:op=3
 ·subst h3;simp only[M.aI,M.bf,M.dI,M.bZ,M.fE,M.dW,M.dJ,M.dh,gV,dL,show i64.wrap (1+i64.wrap (Int.tdiv 1 3))=1 from rfl,show i64.wrap (1+i64.wrap (Int.tdiv 2 3))=1 from rfl,show i64.wrap (1+i64.wrap (Int.tdiv 3 3))=2 from rfl,show i64.wrap (2+i64.wrap (Int.tdiv 1 3))=2 from rfl,show i64.wrap (2+i64.wrap (Int.tdiv 3 3))=3 from rfl,Int.reduceBEq,reduceLE,reduceLT,reduceSub,reduceAdd,dH,ah] at h;revert h;cases t==[]<;>cases o==[]<;>simp<;>omega
 have e3:(op==3)=false:=by simpa using h3
 have hf:(decide ((1:Int)<=op) && decide (op<=3))=false:=by rw[Bool.and_eq_false_iff,decide_eq_false_iff_not,decide_eq_false_iff_not];omega
 simp only[M.aI,M.bf,M.dI,M.bZ,M.fE,M.dW,M.dJ,M.dh,gV,dL,e1,e2,e3,hf,Int.reduceBEq,reduceLE,reduceLT,reduceSub,reduceAdd,dH,ah] at h;cases h
def a6q(op:Int)(t o:aC)(kids:au)(h:M.aI 43 op t o kids=some true):(op=1/\kids.length=2)\/(op=3/\kids.length=3):=by
 by_cases h1:op=1
 ·subst h1;simp only[M.aI,M.bf,M.dI,M.bZ,M.fE,M.dW,M.dJ,M.dh,gV,dL,show i64.wrap (1+i64.wrap (Int.tdiv 1 3))=1 from rfl,show i64.wrap (1+i64.wrap (Int.tdiv 2 3))=1 from rfl,show i64.wrap (1+i64.wrap (Int.tdiv 3 3))=2 from rfl,show i64.wrap (2+i64.wrap (Int.tdiv 1 3))=2 from rfl,show i64.wrap (2+i64.wrap (Int.tdiv 3 3))=3 from rfl,Int.reduceBEq,reduceLE,reduceLT,reduceSub,reduceAdd,dH,ah] at h;revert h;cases t==[]<;>cases o==[]<;>simp<;>omega
 have e1:(op==1)=false:=by simpa using h1
 by_cases h3:op=3
 ·subst h3;simp only[M.aI,M.bf,M.dI,M.bZ,M.fE,M.dW,M.dJ,M.dh,gV,dL,show i64.wrap (1+i64.wrap (Int.tdiv 1 3))=1 from rfl,show i64.wrap (1+i64.wrap (Int.tdiv 2 3))=1 from rfl,show i64.wrap (1+i64.wrap (Int.tdiv 3 3))=2 from rfl,show i64.wrap (2+i64.wrap (Int.tdiv 1 3))=2 from rfl,show i64.wrap (2+i64.wrap (Int.tdiv 3 3))=3 from rfl,Int.reduceBEq,reduceLE,reduceLT,reduceSub,reduceAdd,dH,ah] at h;revert h;cases t==[]<;>cases o==[]<;>simp<;>omega
 have e3:(op==3)=false:=by simpa using h3
 have hf:True:=trivial;simp only[M.aI,M.bf,M.dI,M.bZ,M.fE,M.dW,M.dJ,M.dh,gV,dL,e1,e3,hf,Int.reduceBEq,reduceLE,reduceLT,reduceSub,reduceAdd,dH,ah] at h;cases h
def anE{k op:Int}{t o:aC}{kids:au}(h:M.aI k op t o kids=some true):Cons k op kids.length:=
 ⟨λe=>(by rcases e with rfl|rfl;exact a6m op t o kids h;exact a6n op t o kids h),λe=>(by subst e;exact a6o op t o kids h),λe=>(by subst e;exact a6p op t o kids h),λe=>(by subst e;exact a6q op t o kids h)⟩
def uX(k:Int):Bool:=decide (1<=k) && decide (k<=15)
def Yf(k:Int):Bool:=k==1||(k==5||k==6)
def adI(k:Int):Bool:=decide (20<=k) && decide (k<=34)
def isIt(k:Int):Bool:=decide (40<=k) && decide (k<=44)
def bU(k:Int):M.lZ k=some (uX k)/\M.fC k=some (uX k):=by simp only[M.lZ,M.TP,M.fC,M.lq,gV,dL,ah,uX,ge_iff_le];constructor<;>first|rfl|trivial
def bV(k:Int):M.F6 k=some (adI k)/\M.jS k=some (adI k):=by simp only[M.F6,M.TQ,M.jS,M.lu,gV,dL,ah,adI,ge_iff_le];constructor<;>first|rfl|trivial
def bW(k:Int):M.dA k 40 44=some (isIt k)/\M.Gg k=some (isIt k):=by simp only[M.Gg,M.Ue,gV,dL,ah,isIt,ge_iff_le];constructor<;>first|rfl|trivial
def aX(k:Int):M.rV k=some (Yf k)/\M.rY k=some (Yf k):=by simp only[M.rV,M.Oo,M.rY,M.OO,Yf];cases k==1<;>cases k==5<;>exact⟨rfl,rfl⟩
def aXs(k:Int):Yf k=(uX k && Yf k):=by
 by_cases h1:k=1
 ·subst h1;rfl
 by_cases h5:k=5
 ·subst h5;rfl
 by_cases h6:k=6
 ·subst h6;rfl
 have e:Yf k=false:=by simp[Yf,h1,h5,h6]
 rw[e,Bool.and_false]
def Bg(k op:Int)(t o:aC)(kids:au)(j d:Int):Prop:=∃b,M.aQ k op t o kids j d=some b/\M.bG k op t o kids j d=some b
def a6r(op:Int)(t o:aC)(kids:au)(j d:Int)(h0:0<=j)(h1:j<kids.length)(hk:kids.length<=400)(hc:Cons 1 op kids.length):Bg 1 op t o kids j d:=by simp only[Bg,M.aQ,M.aP,M.aJ,M.bG,M.aW,bU,bV,bW,aX,Int.reduceBEq,reduceLE,reduceLT,reduceSub,reduceAdd,dH,ah];generalize (uX d)=a0;cases a0<;>exact⟨_,rfl,rfl⟩
def a6s(op:Int)(t o:aC)(kids:au)(j d:Int)(h0:0<=j)(h1:j<kids.length)(hk:kids.length<=400)(hc:Cons 2 op kids.length):Bg 2 op t o kids j d:=by simp only[Bg,M.aQ,M.aP,M.aJ,M.bG,M.aW,bU,bV,bW,aX,Int.reduceBEq,reduceLE,reduceLT,reduceSub,reduceAdd,dH,ah];generalize (uX d)=a0;cases a0<;>exact⟨_,rfl,rfl⟩
def a6t(op:Int)(t o:aC)(kids:au)(j d:Int)(h0:0<=j)(h1:j<kids.length)(hk:kids.length<=400)(hc:Cons 3 op kids.length):Bg 3 op t o kids j d:=by simp only[Bg,M.aQ,M.aP,M.aJ,M.bG,M.aW,bU,bV,bW,aX,Int.reduceBEq,reduceLE,reduceLT,reduceSub,reduceAdd,dH,ah];generalize (uX d)=a0;cases a0<;>exact⟨_,rfl,rfl⟩
def a6u(op:Int)(t o:aC)(kids:au)(j d:Int)(h0:0<=j)(h1:j<kids.length)(hk:kids.length<=400)(hc:Cons 4 op kids.length):Bg 4 op t o kids j d:=by simp only[Bg,M.aQ,M.aP,M.aJ,M.bG,M.aW,bU,bV,bW,aX,Int.reduceBEq,reduceLE,reduceLT,reduceSub,reduceAdd,dH,ah];generalize (uX d)=a0;cases a0<;>exact⟨_,rfl,rfl⟩
def a6v(op:Int)(t o:aC)(kids:au)(j d:Int)(h0:0<=j)(h1:j<kids.length)(hk:kids.length<=400)(hc:Cons 5 op kids.length):Bg 5 op t o kids j d:=by simp only[Bg,M.aQ,M.aP,M.aJ,M.bG,M.aW,bU,bV,bW,aX,Int.reduceBEq,reduceLE,reduceLT,reduceSub,reduceAdd,dH,ah];generalize (uX d)=a0;cases a0<;>exact⟨_,rfl,rfl⟩
def a6w(op:Int)(t o:aC)(kids:au)(j d:Int)(h0:0<=j)(h1:j<kids.length)(hk:kids.length<=400)(hc:Cons 6 op kids.length):Bg 6 op t o kids j d:=by simp only[Bg,M.aQ,M.aP,M.aJ,M.bG,M.aW,bU,bV,bW,aX,Int.reduceBEq,reduceLE,reduceLT,reduceSub,reduceAdd,dH,ah];generalize (uX d)=a0;cases a0<;>exact⟨_,rfl,rfl⟩
def a6x(op:Int)(t o:aC)(kids:au)(j d:Int)(h0:0<=j)(h1:j<kids.length)(hk:kids.length<=400)(hc:Cons 7 op kids.length):Bg 7 op t o kids j d:=by simp only[Bg,M.aQ,M.aP,M.aJ,M.bG,M.aW,bU,bV,bW,aX,Int.reduceBEq,reduceLE,reduceLT,reduceSub,reduceAdd,dH,ah];generalize (uX d)=a0;cases a0<;>exact⟨_,rfl,rfl⟩
def a6y(op:Int)(t o:aC)(kids:au)(j d:Int)(h0:0<=j)(h1:j<kids.length)(hk:kids.length<=400)(hc:Cons 8 op kids.length):Bg 8 op t o kids j d:=by simp only[Bg,M.aQ,M.aP,M.aJ,M.bG,M.aW,bU,bV,bW,aX,Int.reduceBEq,reduceLE,reduceLT,reduceSub,reduceAdd,dH,ah];generalize (uX d)=a0;cases a0<;>exact⟨_,rfl,rfl⟩
def a6z(op:Int)(t o:aC)(kids:au)(j d:Int)(h0:0<=j)(h1:j<kids.length)(hk:kids.length<=400)(hc:Cons 9 op kids.length):Bg 9 op t o kids j d:=by simp only[Bg,M.aQ,M.aP,M.aJ,M.bG,M.aW,bU,bV,bW,aX,Int.reduceBEq,reduceLE,reduceLT,reduceSub,reduceAdd,dH,ah];generalize (Yf d)=a0;cases a0<;>exact⟨_,rfl,rfl⟩
def aXt(op:Int)(t o:aC)(kids:au)(j d:Int)(h0:0<=j)(h1:j<kids.length)(hk:kids.length<=400)(hc:Cons 10 op kids.length):Bg 10 op t o kids j d:=by simp only[Bg,M.aQ,M.aP,M.aJ,M.bG,M.aW,bU,bV,bW,aX,Int.reduceBEq,reduceLE,reduceLT,reduceSub,reduceAdd,dH,ah];generalize (Yf d)=a0;cases a0<;>exact⟨_,rfl,rfl⟩
def aXu(op:Int)(t o:aC)(kids:au)(j d:Int)(h0:0<=j)(h1:j<kids.length)(hk:kids.length<=400)(hc:Cons 11 op kids.length):Bg 11 op t o kids j d:=by simp only[Bg,M.aQ,M.aP,M.aJ,M.bG,M.aW,bU,bV,bW,aX,Int.reduceBEq,reduceLE,reduceLT,reduceSub,reduceAdd,dH,ah];generalize (uX d)=a0;cases a0<;>exact⟨_,rfl,rfl⟩
def aXv(op:Int)(t o:aC)(kids:au)(j d:Int)(h0:0<=j)(h1:j<kids.length)(hk:kids.length<=400)(hc:Cons 12 op kids.length):Bg 12 op t o kids j d:=by simp only[Bg,M.aQ,M.aP,M.aJ,M.bG,M.aW,bU,bV,bW,aX,Int.reduceBEq,reduceLE,reduceLT,reduceSub,reduceAdd,dH,ah];generalize (uX d)=a0;cases a0<;>exact⟨_,rfl,rfl⟩
def aXw(op:Int)(t o:aC)(kids:au)(j d:Int)(h0:0<=j)(h1:j<kids.length)(hk:kids.length<=400)(hc:Cons 13 op kids.length):Bg 13 op t o kids j d:=by simp only[Bg,M.aQ,M.aP,M.aJ,M.bG,M.aW,bU,bV,bW,aX,Int.reduceBEq,reduceLE,reduceLT,reduceSub,reduceAdd,dH,ah];generalize (uX d)=a0;cases a0<;>exact⟨_,rfl,rfl⟩
def aXx(op:Int)(t o:aC)(kids:au)(j d:Int)(h0:0<=j)(h1:j<kids.length)(hk:kids.length<=400)(hc:Cons 14 op kids.length):Bg 14 op t o kids j d:=by simp only[Bg,M.aQ,M.aP,M.aJ,M.bG,M.aW,bU,bV,bW,aX,Int.reduceBEq,reduceLE,reduceLT,reduceSub,reduceAdd,dH,ah];generalize (uX d)=a0;cases a0<;>exact⟨_,rfl,rfl⟩
def aXy(op:Int)(t o:aC)(kids:au)(j d:Int)(h0:0<=j)(h1:j<kids.length)(hk:kids.length<=400)(hc:Cons 15 op kids.length):Bg 15 op t o kids j d:=by
 by_cases hj:j=0
 ·subst hj;have hl:=aXs d;simp only[Bg,M.aQ,M.aP,M.aJ,M.bG,M.aW,bU,bV,bW,aX,Int.reduceBEq,reduceLE,reduceLT,reduceSub,reduceAdd,dH,ah];revert hl;cases uX d<;>cases Yf d<;>intro hl<;>first|exact⟨_,rfl,rfl⟩|cases hl
 have e0:(j==0)=false:=by simpa using hj
 have e1:decide (0<j)=true:=zdt ak;simp only[Bg,M.aQ,M.aP,M.aJ,M.bG,M.aW,bU,bV,bW,aX,e0,e1,Int.reduceBEq,reduceLE,reduceLT,reduceSub,reduceAdd,dH,ah];generalize (uX d)=a0;cases a0<;>exact⟨_,rfl,rfl⟩
def aXz(op:Int)(t o:aC)(kids:au)(j d:Int)(h0:0<=j)(h1:j<kids.length)(hk:kids.length<=400)(hc:Cons 16 op kids.length):Bg 16 op t o kids j d:=by simp only[Bg,M.aQ,M.aP,M.aJ,M.bG,M.aW,bU,bV,bW,aX,Int.reduceBEq,reduceLE,reduceLT,reduceSub,reduceAdd,dH,ah];generalize (uX d)=a0;cases a0<;>exact⟨_,rfl,rfl⟩
def aXA(op:Int)(t o:aC)(kids:au)(j d:Int)(h0:0<=j)(h1:j<kids.length)(hk:kids.length<=400)(hc:Cons 20 op kids.length):Bg 20 op t o kids j d:=by simp only[Bg,M.aQ,M.aP,M.aJ,M.bG,M.aW,bU,bV,bW,aX,Int.reduceBEq,reduceLE,reduceLT,reduceSub,reduceAdd,dH,ah];generalize (uX d)=a0;cases a0<;>exact⟨_,rfl,rfl⟩
def aXB(op:Int)(t o:aC)(kids:au)(j d:Int)(h0:0<=j)(h1:j<kids.length)(hk:kids.length<=400)(hc:Cons 21 op kids.length):Bg 21 op t o kids j d:=by simp only[Bg,M.aQ,M.aP,M.aJ,M.bG,M.aW,bU,bV,bW,aX,Int.reduceBEq,reduceLE,reduceLT,reduceSub,reduceAdd,dH,ah];generalize (uX d)=a0;cases a0<;>exact⟨_,rfl,rfl⟩
def aXC(op:Int)(t o:aC)(kids:au)(j d:Int)(h0:0<=j)(h1:j<kids.length)(hk:kids.length<=400)(hc:Cons 22 op kids.length):Bg 22 op t o kids j d:=by simp only[Bg,M.aQ,M.aP,M.aJ,M.bG,M.aW,bU,bV,bW,aX,Int.reduceBEq,reduceLE,reduceLT,reduceSub,reduceAdd,dH,ah];generalize (uX d)=a0;cases a0<;>exact⟨_,rfl,rfl⟩
def aXD(op:Int)(t o:aC)(kids:au)(j d:Int)(h0:0<=j)(h1:j<kids.length)(hk:kids.length<=400)(hc:Cons 23 op kids.length):Bg 23 op t o kids j d:=by simp only[Bg,M.aQ,M.aP,M.aJ,M.bG,M.aW,bU,bV,bW,aX,Int.reduceBEq,reduceLE,reduceLT,reduceSub,reduceAdd,dH,ah];generalize (uX d)=a0;cases a0<;>exact⟨_,rfl,rfl⟩
def aXE(op:Int)(t o:aC)(kids:au)(j d:Int)(h0:0<=j)(h1:j<kids.length)(hk:kids.length<=400)(hc:Cons 24 op kids.length):Bg 24 op t o kids j d:=by simp only[Bg,M.aQ,M.aP,M.aJ,M.bG,M.aW,bU,bV,bW,aX,Int.reduceBEq,reduceLE,reduceLT,reduceSub,reduceAdd,dH,ah];generalize (uX d)=a0;cases a0<;>exact⟨_,rfl,rfl⟩
def aXF(op:Int)(t o:aC)(kids:au)(j d:Int)(h0:0<=j)(h1:j<kids.length)(hk:kids.length<=400)(hc:Cons 25 op kids.length):Bg 25 op t o kids j d:=by simp only[Bg,M.aQ,M.aP,M.aJ,M.bG,M.aW,bU,bV,bW,aX,Int.reduceBEq,reduceLE,reduceLT,reduceSub,reduceAdd,dH,ah];generalize (uX d)=a0;cases a0<;>exact⟨_,rfl,rfl⟩
def aXG(op:Int)(t o:aC)(kids:au)(j d:Int)(h0:0<=j)(h1:j<kids.length)(hk:kids.length<=400)(hc:Cons 26 op kids.length):Bg 26 op t o kids j d:=by simp only[Bg,M.aQ,M.aP,M.aJ,M.bG,M.aW,bU,bV,bW,aX,Int.reduceBEq,reduceLE,reduceLT,reduceSub,reduceAdd,dH,ah];generalize (uX d)=a0;cases a0<;>exact⟨_,rfl,rfl⟩
def aXH(op:Int)(t o:aC)(kids:au)(j d:Int)(h0:0<=j)(h1:j<kids.length)(hk:kids.length<=400)(hc:Cons 27 op kids.length):Bg 27 op t o kids j d:=by simp only[Bg,M.aQ,M.aP,M.aJ,M.bG,M.aW,bU,bV,bW,aX,Int.reduceBEq,reduceLE,reduceLT,reduceSub,reduceAdd,dH,ah];generalize (uX d)=a0;cases a0<;>exact⟨_,rfl,rfl⟩
def aXI(op:Int)(t o:aC)(kids:au)(j d:Int)(h0:0<=j)(h1:j<kids.length)(hk:kids.length<=400)(hc:Cons 28 op kids.length):Bg 28 op t o kids j d:=by
 by_cases hj:j=0
 ·subst hj;simp only[Bg,M.aQ,M.aP,M.aJ,M.bG,M.aW,bU,bV,bW,aX,Int.reduceBEq,reduceLE,reduceLT,reduceSub,reduceAdd,dH,ah];generalize (uX d)=a0;generalize (d==33)=a1;cases a0<;>cases a1<;>exact⟨_,rfl,rfl⟩
 have e0:(j==0)=false:=by simpa using hj
 have e1:decide (0<j)=true:=zdt ak;simp only[Bg,M.aQ,M.aP,M.aJ,M.bG,M.aW,bU,bV,bW,aX,e0,e1,Int.reduceBEq,reduceLE,reduceLT,reduceSub,reduceAdd,dH,ah];generalize (d==33)=a0;cases a0<;>exact⟨_,rfl,rfl⟩
def aXJ(op:Int)(t o:aC)(kids:au)(j d:Int)(h0:0<=j)(h1:j<kids.length)(hk:kids.length<=400)(hc:Cons 29 op kids.length):Bg 29 op t o kids j d:=by
 have hl:=hc.two ak;obtain rfl|rfl:j=0\/j=1:=ak
 ·simp only[Bg,M.aQ,M.aP,M.aJ,M.bG,M.aW,bU,bV,bW,aX,Int.reduceBEq,reduceLE,reduceLT,reduceSub,reduceAdd,dH,ah];generalize (uX d)=a0;generalize (d==33)=a1;cases a0<;>cases a1<;>exact⟨_,rfl,rfl⟩
 ·simp only[Bg,M.aQ,M.aP,M.aJ,M.bG,M.aW,bU,bV,bW,aX,Int.reduceBEq,reduceLE,reduceLT,reduceSub,reduceAdd,dH,ah];generalize (uX d)=a0;generalize (d==33)=a1;cases a0<;>cases a1<;>exact⟨_,rfl,rfl⟩
def aXK(op:Int)(t o:aC)(kids:au)(j d:Int)(h0:0<=j)(h1:j<kids.length)(hk:kids.length<=400)(hc:Cons 30 op kids.length):Bg 30 op t o kids j d:=by
 have hl:=hc.two ak;obtain rfl|rfl:j=0\/j=1:=ak
 ·simp only[Bg,M.aQ,M.aP,M.aJ,M.bG,M.aW,bU,bV,bW,aX,Int.reduceBEq,reduceLE,reduceLT,reduceSub,reduceAdd,dH,ah];generalize (uX d)=a0;generalize (d==33)=a1;cases a0<;>cases a1<;>exact⟨_,rfl,rfl⟩
 ·simp only[Bg,M.aQ,M.aP,M.aJ,M.bG,M.aW,bU,bV,bW,aX,Int.reduceBEq,reduceLE,reduceLT,reduceSub,reduceAdd,dH,ah];generalize (uX d)=a0;generalize (d==33)=a1;cases a0<;>cases a1<;>exact⟨_,rfl,rfl⟩
def aXL(op:Int)(t o:aC)(kids:au)(j d:Int)(h0:0<=j)(h1:j<kids.length)(hk:kids.length<=400)(hc:Cons 31 op kids.length):Bg 31 op t o kids j d:=by
 have hl:=hc.four rfl;have hw:i64.wrap ((kids.length:Int) - 1)=3:=by rw[hl];rfl
 obtain rfl|rfl|rfl|rfl:j=0\/j=1\/j=2\/j=3:=ak
 ·simp only[Bg,M.aQ,M.aP,M.aJ,M.bG,M.aW,bU,bV,bW,aX,hw,Int.reduceBEq,reduceLE,reduceLT,reduceSub,reduceAdd,dH,ah];generalize (uX d)=a0;generalize (d==16)=a1;generalize (d==33)=a2;cases a0<;>cases a1<;>cases a2<;>exact⟨_,rfl,rfl⟩
 ·simp only[Bg,M.aQ,M.aP,M.aJ,M.bG,M.aW,bU,bV,bW,aX,hw,Int.reduceBEq,reduceLE,reduceLT,reduceSub,reduceAdd,dH,ah];generalize (uX d)=a0;generalize (d==16)=a1;generalize (d==33)=a2;cases a0<;>cases a1<;>cases a2<;>exact⟨_,rfl,rfl⟩
 ·simp only[Bg,M.aQ,M.aP,M.aJ,M.bG,M.aW,bU,bV,bW,aX,hw,Int.reduceBEq,reduceLE,reduceLT,reduceSub,reduceAdd,dH,ah];generalize (uX d)=a0;generalize (d==16)=a1;generalize (d==33)=a2;cases a0<;>cases a1<;>cases a2<;>exact⟨_,rfl,rfl⟩
 ·simp only[Bg,M.aQ,M.aP,M.aJ,M.bG,M.aW,bU,bV,bW,aX,hw,Int.reduceBEq,reduceLE,reduceLT,reduceSub,reduceAdd,dH,ah];generalize (uX d)=a0;generalize (d==16)=a1;generalize (d==33)=a2;cases a0<;>cases a1<;>cases a2<;>exact⟨_,rfl,rfl⟩
def aXM(op:Int)(t o:aC)(kids:au)(j d:Int)(h0:0<=j)(h1:j<kids.length)(hk:kids.length<=400)(hc:Cons 32 op kids.length):Bg 32 op t o kids j d:=by simp only[Bg,M.aQ,M.aP,M.aJ,M.bG,M.aW,bU,bV,bW,aX,Int.reduceBEq,reduceLE,reduceLT,reduceSub,reduceAdd,dH,ah];generalize (d==33)=a0;cases a0<;>exact⟨_,rfl,rfl⟩
def aXN(op:Int)(t o:aC)(kids:au)(j d:Int)(h0:0<=j)(h1:j<kids.length)(hk:kids.length<=400)(hc:Cons 33 op kids.length):Bg 33 op t o kids j d:=by simp only[Bg,M.aQ,M.aP,M.aJ,M.bG,M.aW,bU,bV,bW,aX,Int.reduceBEq,reduceLE,reduceLT,reduceSub,reduceAdd,dH,ah];generalize (adI d)=a0;cases a0<;>exact⟨_,rfl,rfl⟩
def aXO(op:Int)(t o:aC)(kids:au)(j d:Int)(h0:0<=j)(h1:j<kids.length)(hk:kids.length<=400)(hc:Cons 34 op kids.length):Bg 34 op t o kids j d:=by simp only[Bg,M.aQ,M.aP,M.aJ,M.bG,M.aW,bU,bV,bW,aX,Int.reduceBEq,reduceLE,reduceLT,reduceSub,reduceAdd,dH,ah];generalize (uX d)=a0;cases a0<;>exact⟨_,rfl,rfl⟩
def aXP(op:Int)(t o:aC)(kids:au)(j d:Int)(h0:0<=j)(h1:j<kids.length)(hk:kids.length<=400)(hc:Cons 40 op kids.length):Bg 40 op t o kids j d:=by simp only[Bg,M.aQ,M.aP,M.aJ,M.bG,M.aW,bU,bV,bW,aX,Int.reduceBEq,reduceLE,reduceLT,reduceSub,reduceAdd,dH,ah];generalize (d==33)=a0;cases a0<;>exact⟨_,rfl,rfl⟩
def aXQ(op:Int)(t o:aC)(kids:au)(j d:Int)(h0:0<=j)(h1:j<kids.length)(hk:kids.length<=400)(hc:Cons 41 op kids.length):Bg 41 op t o kids j d:=by simp only[Bg,M.aQ,M.aP,M.aJ,M.bG,M.aW,bU,bV,bW,aX,Int.reduceBEq,reduceLE,reduceLT,reduceSub,reduceAdd,dH,ah];generalize (d==33)=a0;cases a0<;>exact⟨_,rfl,rfl⟩
def aXR(op:Int)(t o:aC)(kids:au)(j d:Int)(h0:0<=j)(h1:j<kids.length)(hk:kids.length<=400)(hc:Cons 42 op kids.length):Bg 42 op t o kids j d:=by
 rcases hc.rule rfl with⟨rfl,hl⟩|⟨rfl,hl⟩|⟨rfl,hl⟩
 ·have hw:i64.wrap ((kids.length:Int) - 1)=0:=by rw[hl];rfl
  obtain rfl:j=0:=ak;simp only[Bg,M.aQ,M.aP,M.aJ,M.bG,M.aW,bU,bV,bW,aX,hw,Int.reduceBEq,reduceLE,reduceLT,reduceSub,reduceAdd,dH,ah];generalize (uX d)=a0;generalize (d==33)=a1;cases a0<;>cases a1<;>exact⟨_,rfl,rfl⟩
 ·have hw:i64.wrap ((kids.length:Int) - 1)=0:=by rw[hl];rfl
  obtain rfl:j=0:=ak;simp only[Bg,M.aQ,M.aP,M.aJ,M.bG,M.aW,bU,bV,bW,aX,hw,Int.reduceBEq,reduceLE,reduceLT,reduceSub,reduceAdd,dH,ah];generalize (uX d)=a0;generalize (d==33)=a1;cases a0<;>cases a1<;>exact⟨_,rfl,rfl⟩
 ·have hw:i64.wrap ((kids.length:Int) - 1)=1:=by rw[hl];rfl
  obtain rfl|rfl:j=0\/j=1:=ak
  ·simp only[Bg,M.aQ,M.aP,M.aJ,M.bG,M.aW,bU,bV,bW,aX,hw,Int.reduceBEq,reduceLE,reduceLT,reduceSub,reduceAdd,dH,ah];generalize (uX d)=a0;generalize (d==33)=a1;cases a0<;>cases a1<;>exact⟨_,rfl,rfl⟩
  ·simp only[Bg,M.aQ,M.aP,M.aJ,M.bG,M.aW,bU,bV,bW,aX,hw,Int.reduceBEq,reduceLE,reduceLT,reduceSub,reduceAdd,dH,ah];generalize (uX d)=a0;generalize (d==33)=a1;cases a0<;>cases a1<;>exact⟨_,rfl,rfl⟩
def aXS(op:Int)(t o:aC)(kids:au)(j d:Int)(h0:0<=j)(h1:j<kids.length)(hk:kids.length<=400)(hc:Cons 43 op kids.length):Bg 43 op t o kids j d:=by
 rcases hc.range rfl with⟨rfl,hl⟩|⟨rfl,hl⟩
 ·have hw:i64.wrap ((kids.length:Int) - 1)=1:=by rw[hl];rfl
  obtain rfl|rfl:j=0\/j=1:=ak
  ·simp only[Bg,M.aQ,M.aP,M.aJ,M.bG,M.aW,bU,bV,bW,aX,hw,Int.reduceBEq,reduceLE,reduceLT,reduceSub,reduceAdd,dH,ah];generalize (uX d)=a0;generalize (d==33)=a1;cases a0<;>cases a1<;>exact⟨_,rfl,rfl⟩
  ·simp only[Bg,M.aQ,M.aP,M.aJ,M.bG,M.aW,bU,bV,bW,aX,hw,Int.reduceBEq,reduceLE,reduceLT,reduceSub,reduceAdd,dH,ah];generalize (uX d)=a0;generalize (d==33)=a1;cases a0<;>cases a1<;>exact⟨_,rfl,rfl⟩
 ·have hw:i64.wrap ((kids.length:Int) - 1)=2:=by rw[hl];rfl
  obtain rfl|rfl|rfl:j=0\/j=1\/j=2:=ak
  ·simp only[Bg,M.aQ,M.aP,M.aJ,M.bG,M.aW,bU,bV,bW,aX,hw,Int.reduceBEq,reduceLE,reduceLT,reduceSub,reduceAdd,dH,ah];generalize (uX d)=a0;generalize (d==33)=a1;cases a0<;>cases a1<;>exact⟨_,rfl,rfl⟩
  ·simp only[Bg,M.aQ,M.aP,M.aJ,M.bG,M.aW,bU,bV,bW,aX,hw,Int.reduceBEq,reduceLE,reduceLT,reduceSub,reduceAdd,dH,ah];generalize (uX d)=a0;generalize (d==33)=a1;cases a0<;>cases a1<;>exact⟨_,rfl,rfl⟩
  ·simp only[Bg,M.aQ,M.aP,M.aJ,M.bG,M.aW,bU,bV,bW,aX,hw,Int.reduceBEq,reduceLE,reduceLT,reduceSub,reduceAdd,dH,ah];generalize (uX d)=a0;generalize (d==33)=a1;cases a0<;>cases a1<;>exact⟨_,rfl,rfl⟩
def aXT(op:Int)(t o:aC)(kids:au)(j d:Int)(h0:0<=j)(h1:j<kids.length)(hk:kids.length<=400)(hc:Cons 44 op kids.length):Bg 44 op t o kids j d:=by simp only[Bg,M.aQ,M.aP,M.aJ,M.bG,M.aW,bU,bV,bW,aX,Int.reduceBEq,reduceLE,reduceLT,reduceSub,reduceAdd,dH,ah];generalize (j==i64.wrap ((kids.length:Int) - 1))=a0;generalize (d==33)=a1;generalize (d==1)=a2;cases a0<;>cases a1<;>cases a2<;>exact⟨_,rfl,rfl⟩
def aXU(op:Int)(t o:aC)(kids:au)(j d:Int)(h0:0<=j)(h1:j<kids.length)(hk:kids.length<=400)(hc:Cons 45 op kids.length):Bg 45 op t o kids j d:=by simp only[Bg,M.aQ,M.aP,M.aJ,M.bG,M.aW,bU,bV,bW,aX,Int.reduceBEq,reduceLE,reduceLT,reduceSub,reduceAdd,dH,ah];generalize (isIt d)=a0;generalize (d==34)=a1;cases a0<;>cases a1<;>exact⟨_,rfl,rfl⟩
def aIq(k:Int)(op:Int)(t o:aC)(kids:au)(j d:Int)(hj0:0<=j)(hj1:j<kids.length)(hk:kids.length<=400)(hc:Cons k op kids.length):Bg k op t o kids j d:=by
 by_cases h1:k=1
 ·subst h1;exact a6r op t o kids j d hj0 hj1 hk hc
 by_cases h2:k=2
 ·subst h2;exact a6s op t o kids j d hj0 hj1 hk hc
 by_cases h3:k=3
 ·subst h3;exact a6t op t o kids j d hj0 hj1 hk hc
 by_cases h4:k=4
 ·subst h4;exact a6u op t o kids j d hj0 hj1 hk hc
 by_cases h5:k=5
 ·subst h5;exact a6v op t o kids j d hj0 hj1 hk hc
 by_cases h6:k=6
 ·subst h6;exact a6w op t o kids j d hj0 hj1 hk hc
 by_cases h7:k=7
 ·subst h7;exact a6x op t o kids j d hj0 hj1 hk hc
 by_cases h8:k=8
 ·subst h8;exact a6y op t o kids j d hj0 hj1 hk hc
 by_cases h9:k=9
 ·subst h9;exact a6z op t o kids j d hj0 hj1 hk hc
 by_cases h10:k=10
 ·subst h10;exact aXt op t o kids j d hj0 hj1 hk hc
 by_cases h11:k=11
 ·subst h11;exact aXu op t o kids j d hj0 hj1 hk hc
 by_cases h12:k=12
 ·subst h12;exact aXv op t o kids j d hj0 hj1 hk hc
 by_cases h13:k=13
 ·subst h13;exact aXw op t o kids j d hj0 hj1 hk hc
 by_cases h14:k=14
 ·subst h14;exact aXx op t o kids j d hj0 hj1 hk hc
 by_cases h15:k=15
 ·subst h15;exact aXy op t o kids j d hj0 hj1 hk hc
 by_cases h16:k=16
 ·subst h16;exact aXz op t o kids j d hj0 hj1 hk hc
 by_cases h20:k=20
 ·subst h20;exact aXA op t o kids j d hj0 hj1 hk hc
 by_cases h21:k=21
 ·subst h21;exact aXB op t o kids j d hj0 hj1 hk hc
 by_cases h22:k=22
 ·subst h22;exact aXC op t o kids j d hj0 hj1 hk hc
 by_cases h23:k=23
 ·subst h23;exact aXD op t o kids j d hj0 hj1 hk hc
 by_cases h24:k=24
 ·subst h24;exact aXE op t o kids j d hj0 hj1 hk hc
 by_cases h25:k=25
 ·subst h25;exact aXF op t o kids j d hj0 hj1 hk hc
 by_cases h26:k=26
 ·subst h26;exact aXG op t o kids j d hj0 hj1 hk hc
 by_cases h27:k=27
 ·subst h27;exact aXH op t o kids j d hj0 hj1 hk hc
 by_cases h28:k=28
 ·subst h28;exact aXI op t o kids j d hj0 hj1 hk hc
 by_cases h29:k=29
 ·subst h29;exact aXJ op t o kids j d hj0 hj1 hk hc
 by_cases h30:k=30
 ·subst h30;exact aXK op t o kids j d hj0 hj1 hk hc
 by_cases h31:k=31
 ·subst h31;exact aXL op t o kids j d hj0 hj1 hk hc
 by_cases h32:k=32
 ·subst h32;exact aXM op t o kids j d hj0 hj1 hk hc
 by_cases h33:k=33
 ·subst h33;exact aXN op t o kids j d hj0 hj1 hk hc
 by_cases h34:k=34
 ·subst h34;exact aXO op t o kids j d hj0 hj1 hk hc
 by_cases h40:k=40
 ·subst h40;exact aXP op t o kids j d hj0 hj1 hk hc
 by_cases h41:k=41
 ·subst h41;exact aXQ op t o kids j d hj0 hj1 hk hc
 by_cases h42:k=42
 ·subst h42;exact aXR op t o kids j d hj0 hj1 hk hc
 by_cases h43:k=43
 ·subst h43;exact aXS op t o kids j d hj0 hj1 hk hc
 by_cases h44:k=44
 ·subst h44;exact aXT op t o kids j d hj0 hj1 hk hc
 by_cases h45:k=45
 ·subst h45;exact aXU op t o kids j d hj0 hj1 hk hc
 have e1:(k==1)=false:=by simpa using h1
 have e2:(k==2)=false:=by simpa using h2
 have e3:(k==3)=false:=by simpa using h3
 have e4:(k==4)=false:=by simpa using h4
 have e5:(k==5)=false:=by simpa using h5
 have e6:(k==6)=false:=by simpa using h6
 have e7:(k==7)=false:=by simpa using h7
 have e8:(k==8)=false:=by simpa using h8
 have e9:(k==9)=false:=by simpa using h9
 have e10:(k==10)=false:=by simpa using h10
 have e11:(k==11)=false:=by simpa using h11
 have e12:(k==12)=false:=by simpa using h12
 have e13:(k==13)=false:=by simpa using h13
 have e14:(k==14)=false:=by simpa using h14
 have e15:(k==15)=false:=by simpa using h15
 have e16:(k==16)=false:=by simpa using h16
 have e20:(k==20)=false:=by simpa using h20
 have e21:(k==21)=false:=by simpa using h21
 have e22:(k==22)=false:=by simpa using h22
 have e23:(k==23)=false:=by simpa using h23
 have e24:(k==24)=false:=by simpa using h24
 have e25:(k==25)=false:=by simpa using h25
 have e26:(k==26)=false:=by simpa using h26
 have e27:(k==27)=false:=by simpa using h27
 have e28:(k==28)=false:=by simpa using h28
 have e29:(k==29)=false:=by simpa using h29
 have e30:(k==30)=false:=by simpa using h30
 have e31:(k==31)=false:=by simpa using h31
 have e32:(k==32)=false:=by simpa using h32
 have e33:(k==33)=false:=by simpa using h33
 have e34:(k==34)=false:=by simpa using h34
 have e40:(k==40)=false:=by simpa using h40
 have e41:(k==41)=false:=by simpa using h41
 have e42:(k==42)=false:=by simpa using h42
 have e43:(k==43)=false:=by simpa using h43
 have e44:(k==44)=false:=by simpa using h44
 have e45:(k==45)=false:=by simpa using h45
 simp only[Bg,M.aQ,M.aP,M.aJ,M.bG,M.aW,bU,bV,bW,aX,e1,e2,e3,e4,e5,e6,e7,e8,e9,e10,e11,e12,e13,e14,e15,e16,e20,e21,e22,e23,e24,e25,e26,e27,e28,e29,e30,e31,e32,e33,e34,e40,e41,e42,e43,e44,e45,bn,ah];exact⟨_,rfl,rfl⟩
end Go.Proofs.YtajjpadmdmehmaaGreatDoor
namespace Go.Proofs.YtajjpadmdmehmaaGreatDoor
set_option linter.unusedVariables false
set_option linter.unusedSimpArgs false
open Go Go.Vm
open Go.IntKind (i64)
open Int (reduceLE reduceLT reduceSub reduceAdd)
def Rx(x lo hi:Int):M.dA x lo hi=some (decide (lo<=x) && decide (x<=hi)):=by
 simp only[M.dA,M.BO]
 by_cases h:lo<=x
 ·rw[zdt (show x>=lo from h)];rfl
 ·rw[pq (show¬x>=lo from h)];rfl
def Ry(x lo hi:Int):M.bJ x lo hi=some (decide (lo<=x) && decide (x<=hi)):=by
 simp only[M.bJ,M.zn]
 by_cases h:lo<=x
 ·rw[zdt (show x>=lo from h)];rfl
 ·rw[pq (show¬x>=lo from h)];rfl
def arh:∀k:List Int,anm (encI k)=some k
 |[]=>rfl
 |x::k=>by have:encI (x::k)=[D.int .i64 x]::encI k:=rfl;rw[this];simp only[anm,arh k,O9]
def nk(n:Nd):Nk:=⟨n.kind,n.op,⟨⟨n.text⟩⟩,⟨⟨n.other⟩⟩,n.kids⟩
def al4(o:Bool):∀l:List Nd,(∀n,n∈l->n.kids.length<=1048576)->ZV (aZ o l)=some (l.map nk)
 |[],_=>rfl
 |n::l,h=>by
  have:aZ o (n::l)=XY o n::aZ o l:=rfl;rw[this,ZV];have hk:asW (XY o n)=some (nk n):=by simp only[XY,asW,arh,ah];rw[if_pos (h n zmf)];rfl
  rw[hk,ah,al4 o l (λm hm=>h m (zmm _ hm))];rfl
def aXV(l:List Nd):(l.map nk).map (·.kids)=ks l:=by simp[ks,nk]
def agM(l:List Nd)(o:Bool)(hl:l.length<=1048576)(hk:∀n,n∈l->n.kids.length<=1048576):M.BG (aZ o l)=some (JV l):=by
 simp only[M.BG,M.QT,M.kZ,al4 o l hk,ah,aXV,zaQ];rw[if_pos hl,JV];cases qV (ks l) with
 |none=>rfl
 |some st=>rfl
def adJ(l:List Nd)(o:Bool){i:Nat}{n:Nd}{st:List Int}(hi:l[i]? =some n)(hl:l.length<=1048576)(hkl:n.kids.length<=1048576)(hst:Zt st)(hs:st.length=i):
  ∀(j:Nat) (a:Int),j<=n.kids.length->0<=a->a<=i->M.vF (aZ o l) (i:Int) (encI st) (a,(j:Int) - 1)=some (match dV st (n.kids.take j).reverse (a - 1) with
   |none=> .inl ()
   |some r=> .inr (r+1, -1))
 |0,a,hj,h0,h1=>by rw[M.vF];apply aY;simp only[M.Gv,M.zM];rw[pq ak,bn,List.take_zero,List.reverse_nil,dV];simp
 |j+1,a,hj,h0,h1=>by
  have hlt:i<l.length:=(PU.1 hi).1;obtain⟨k,hk⟩:∃k,n.kids[j]? =some k:=⟨n.kids[j]'ak,by simp⟩
  have ht:(n.kids.take (j+1)).reverse=k::(n.kids.take j).reverse:=by rw[List.take_add_one,hk,Option.toList_some,List.reverse_append];rfl
  rw[ht,dV];have e1:(((j+1:Nat):Int) - 1)=(j:Int):=ak;rw[e1];have hstep:M.Gv (aZ o l) (i:Int) (encI st) (a,(j:Int))=if a - 1<0\/k≠a - 1 then some (.inr (.inl ())) else some (.inl (st[k.toNat]?.getD 0,(j:Int) - 1)):=by
   simp only[M.Gv,M.zM,bC,ql,hi,O9,ah,JM,lC,hk,KT];rw[zdt ak,aK,aB (n:=a - 1) ak ak]
   by_cases h2:k=a - 1
   ·have:(k !=a - 1)=false:=by simp[h2]
    rw[this,bn]
    by_cases h3:a=0
    ·have:(a==0)=true:=by simp[h3]
     rw[this,aK,if_pos (.inl ak)]
    ·have:(a==0)=false:=by simp[h3]
     rw[this,bn,if_neg ak];obtain⟨d,hd⟩:∃d:Nat,a - 1=(d:Int):=⟨(a - 1).toNat,ak⟩
     have hdl:d<st.length:=ak;rw[h2,hd];simp only[aie,bC,lC,Xm];rw[List.getElem?_eq_getElem hdl];simp only[O9,ah,KT,Option.getD_some];rw[aB ak ak]
   ·have:(k !=a - 1)=true:=by simp[h2]
    rw[this,aK,if_pos (.inr h2)]
  by_cases hc:a - 1<0\/k≠a - 1
  ·rw[if_pos hc];rw[if_pos hc] at hstep;exact aY hstep
  ·rw[if_neg hc];rw[if_neg hc] at hstep;rw[M.vF,cu hstep];have hz:=Qg hst k.toNat;have:=adJ l o hi hl hkl hst hs j (st[k.toNat]?.getD 0) ak hz.1 ak;rw[M.vF] at this;exact this
def abw(l:List Nd)(o:Bool)(hl:l.length<=1048576)(hk:∀n,n∈l->n.kids.length<=1048576):∀(rest:List Nd) (i:Nat) (st:List Int),l.drop i=rest->st.length=i->i<=l.length->Zt st->
  M.vG (aZ o l) ((i:Int),encI st)=some (match fU st (ks rest) with
   |none=> .inl ()
   |some r=> .inr ((l.length:Int),encI r))
 |[],i,st,hd,hs,hi,hst=>by have:l.length<=i:=List.drop_eq_nil_iff.1 hd;rw[M.vG];apply aY;simp only[jI,M.Gw,M.zN,jH];rw[pq ak,bn];have:i=l.length:=ak;subst this;rfl
 |n::rest,i,st,hd,hs,hi,hst=>by
  have hn:l[i]? =some n:=by
   have:(l.drop i)[0]? =some n:=by rw[hd];rfl
   simpa using this
  have hlt:i<l.length:=(PU.1 hn).1;have hd':l.drop (i+1)=rest:=by rw[<-List.drop_drop,hd];rfl
  have hkn:=hk n (En hn);have hin:=adJ l o hn hl hkn hst hs n.kids.length (i:Int) (zaP _) ak ak;rw[List.take_length] at hin;have hks:ks (n::rest)=n.kids::ks rest:=rfl;rw[hks,fU,hs];have hstep:M.Gw (aZ o l) ((i:Int),encI st)=some (match dV st n.kids.reverse ((i:Int) - 1) with
    |none=> .inr (.inl ())
    |some a=> .inl (((i+1:Nat):Int),encI (st++[a+1]))):=by
   simp only[jI,M.Gw,M.zN,jH,bC,ql,hn,O9,ah,JM,aV];rw[zdt ak,aK,aB (n:=(n.kids.length:Int) - 1) ak ak,hin];cases hw:dV st n.kids.reverse ((i:Int) - 1) with
   |none=>rfl
   |some a=>simp only[ah,pz,letE,IU];rw[aN ak,aK,aN ak,aK,aB ak ak];simp[encI]
  cases hw:dV st n.kids.reverse ((i:Int) - 1) with
  |none=>rw[hw] at hstep;exact aY hstep
  |some a=>rw[hw] at hstep;rw[M.vG,cu hstep];have hr:=Dv hst _ _ _ ak ak hw;have:=abw l o hl hk rest (i+1) (st++[a+1]) hd' (by simp[hs]) hlt (VD hst hr.1 hr.2);rw[M.vG] at this;exact this
def Zl(l:List Nd)(o:Bool)(hl:l.length<=1048576)(hk:∀n,n∈l->n.kids.length<=1048576):M.vU (aZ o l)=some (JV l):=by
 simp only[M.vU,M.Qp,Rx,ah,jH]
 by_cases h1:1<=l.length/\l.length<=400
 ·have hb:(decide ((1:Int)<=(l.length:Int)) && decide ((l.length:Int)<=400))=true:=by simp;omega
  rw[hb,zaO,bn];have h:=abw l o hl hk l 0 [] rfl rfl (Nat.zero_le _) VW;have e0:((0:Nat):Int)=0:=rfl;rw[e0] at h;simp only[M.DJ,M.Og];rw[show([]:au)=encI [] from rfl,h,JV,qV,if_pos (by rw[SC];exact h1)];cases hs:fU [] (ks l) with
  |none=>rfl
  |some r=>
   have hrl:r.length=l.length:=by have:=YH _ _ _ hs;rw[SC] at this;simpa using this
   simp only[ah,pz,letE,Iy,aK];rw[aB ak ak,show(l.length:Int) - 1=((l.length - 1:Nat):Int) by omega];simp only[aie,bC,lC,Xm];rw[List.getElem?_eq_getElem ak];simp only[O9,ah,KT,Option.getD_some]
 ·have hb:(decide ((1:Int)<=(l.length:Int)) && decide ((l.length:Int)<=400))=false:=by
   cases hq:(decide ((1:Int)<=(l.length:Int)) && decide ((l.length:Int)<=400)) with
   |false=>rfl
   |true=>simp at hq;omega
  rw[hb,Bool.not_false,aK,JV,qV,if_neg (by rw[SC];exact h1)]
def al5{st:List Int}(h:Zt st):∀(l:List Int) (a r:Int),a<st.length->dV st l a=some r->∀k,k∈l->0<=k/\k<st.length
 |[],a,r,h1,e,k,hk=>absurd hk List.not_mem_nil
 |x::l,a,r,h1,e,k,hk=>by
  rw[dV] at e;split at e
  ·cases e
  ·rename_i hc;have hz:=Qg h x.toNat;rcases List.mem_cons.1 hk with rfl|hk
   ·omega
   ·exact al5 h l _ r ak e k hk
def afO:∀(l:List (List Int)) (st r:List Int),Zt st->fU st l=some r->∀(i:Nat) n,l[i]? =some n->∀k,k∈n->0<=k/\k<st.length+i
 |[],st,r,h0,h,i,n,hn=>by simp at hn
 |m::l,st,r,h0,h,i,n,hn=>by
  rw[fU] at h;split at h
  ·cases h
  ·rename_i a ha;have hr:=Dv h0 _ _ _ ak ak ha;cases i with
   |zero=>simp only[List.getElem?_cons_zero,je] at hn;subst hn;intro k hk;have:=al5 h0 _ _ _ ak ha k (List.mem_reverse.2 hk);omega
   |succ i=>simp only[List.getElem?_cons_succ] at hn;intro k hk;have:=afO l _ r (VD h0 hr.1 hr.2) h i n hn k hk;simp at this;omega
def av9{l:List Nd}(h:JV l=true):1<=l.length/\l.length<=400:=by
 unfold JV at h;cases hs:qV (ks l) with
 |none=>rw[hs] at h;cases h
 |some r=>
  unfold qV at hs;split at hs
  ·rename_i hq;rw[SC] at hq;exact hq
  ·cases hs
def abx:∀(l:List (List Int)) (st r:List Int),fU st l=some r->∃t,r=st++t
 |[],st,r,h=>by rw[fU] at h;cases h;exact⟨[],by simp⟩
 |n::l,st,r,h=>by
  rw[fU] at h;split at h
  ·cases h
  ·obtain⟨t,ht⟩:=abx l _ r h;exact⟨_,by rw[ht,NI]⟩
def ari{st t:List Int}(h:Zt st):∀(ks:List Int) (a:Int),a<st.length->dV (st++t) ks a=dV st ks a
 |[],a,_=>rfl
 |k::ks,a,ha=>by
  rw[dV,dV];split
  ·rfl
  ·rename_i hc;have hk:k.toNat<st.length:=ak;have e:(st++t)[k.toNat]? =st[k.toNat]? :=List.getElem?_append_left hk;rw[e];have hz:=Qg h k.toNat;exact ari h ks _ ak
def al6:∀(l:List (List Int)) (st r:List Int),Zt st->fU st l=some r->∀(i:Nat) n,l[i]? =some n->∃a,dV r n.reverse ((st.length:Int)+i - 1)=some a/\r[st.length+i]? =some (a+1)
 |[],st,r,h0,h,i,n,hn=>by simp at hn
 |m::l,st,r,h0,h,i,n,hn=>by
  rw[fU] at h;split at h
  ·cases h
  ·rename_i a ha;have hr:=Dv h0 _ _ _ ak ak ha;obtain⟨t,ht⟩:=abx l _ r h;cases i with
   |zero=>
    simp only[List.getElem?_cons_zero,je] at hn;subst hn;refine⟨a, ?_, ?_⟩
    ·rw[ht,NI,ari h0 _ _ (by simp;omega)];simpa using ha
    ·rw[ht];simp
   |succ i=>
    simp only[List.getElem?_cons_succ] at hn;obtain⟨b,h1,h2⟩:=al6 l _ r (VD h0 hr.1 hr.2) h i n hn;refine⟨b, ?_, ?_⟩
    ·rw[<-h1];congr 1;simp;omega
    ·rw[<-h2];congr 1;simp;omega
def aal:List Int->Int
 |[]=>0
 |x::l=>x+aal l
def afP:∀(a b:List Int),aal (a++b)=aal a+aal b
 |[],b=>by simp[aal]
 |x::a,b=>by rw[Yr,aal,aal,afP a b];omega
def adK:∀l:List Int,aal l.reverse=aal l
 |[]=>rfl
 |x::l=>by rw[List.reverse_cons,afP,adK l];simp[aal];omega
def sz(r:List Int)(k:Int):Int:=k - (r[k.toNat]?.getD 0)+1
def arj(r:List Int):∀(ks:List Int) (a b:Int),dV r ks a=some b->aal (ks.map (sz r))=a - b
 |[],a,b,h=>by rw[dV] at h;cases h;simp[aal]
 |k::ks,a,b,h=>by
  rw[dV] at h;split at h
  ·cases h
  ·rename_i hc;have:=arj r ks _ b h;rw[RQ,aal,this,sz];omega
structure Val(l:List Nd)(r:List Int):Prop where
 st:fU [] (ks l)=some r
 pos:1<=l.length
 le:l.length<=400
def anF{l:List Nd}(h:JV l=true):∃r,Val l r:=by
 have hl:=av9 h;unfold JV at h;cases hs:qV (ks l) with
 |none=>rw[hs] at h;cases h
 |some r=>
  unfold qV at hs;split at hs
  ·exact⟨r,hs,hl.1,hl.2⟩
  ·cases hs
section
variable {l:List Nd} {r:List Int}
def Val.len(h:Val l r):r.length=l.length:=by have:=YH _ _ _ h.st;rw[SC] at this;simpa using this
def Val.ok(h:Val l r):Zt r:=aer _ _ _ VW h.st
def Val.kids(h:Val l r){i:Nat}{n:Nd}(hn:l[i]? =some n):∀k,k∈n.kids->0<=k/\k<i:=by have:=afO _ _ _ VW h.st i n.kids (by simp[ks,hn]);simpa using this
def Val.sum(h:Val l r){i:Nat}{n:Nd}(hn:l[i]? =some n):aal (n.kids.map (sz r))+1=sz r i:=by obtain⟨a,h1,h2⟩:=al6 _ _ _ VW h.st i n.kids (by simp[ks,hn]);have:=arj r _ _ _ h1;rw[List.map_reverse,adK] at this;simp at h2;rw[this,sz,Xm,h2];simp;omega
def Val.azK(h:Val l r){k:Int}(h0:0<=k):1<=sz r k/\sz r k<=k+1:=by have:=Qg h.ok k.toNat;rw[sz];omega
end
def ajp(l:List Nd)(i:Nat):List Int:=match l[i]? with|some n=>n.kids|none=>[]
def SN{l:List Nd}{i:Nat}{n:Nd}(h:l[i]? =some n):ajp l i=n.kids:=by rw[ajp,h]
end Go.Proofs.YtajjpadmdmehmaaGreatDoor
