import Derived.Test.YtbkndkcpmnjaeaaGreatDoorZVal
import Derived.Test.YtbkndkcpmnjaeaaGreatDoorVm4
set_option linter.defProp false
namespace Go.Proofs.YtbkndkcpmnjaeaaGreatDoor
set_option linter.unusedVariables false
set_option linter.unusedSimpArgs false
open Go Go.Vm
open Go.IntKind (i64)
open Int (reduceLE reduceLT reduceSub reduceAdd)
def mx:Int->List Int->Int
 |a,[]=>a
 |a,x::l=>mx (bif decide (a<x) then x else a) l
def Y9(B:Int):∀(l:List Int) (a:Int),a<=B->(∀x,x∈l->x<=B)->a<=mx a l∧mx a l<=B
 |[],a,h,_=>⟨Int.le_refl _,h⟩
 |x::l,a,h,hl=>by
  have hx:=hl x zmf;rw[mx]
  by_cases c:a<x
  ·rw[zdt c,aU];have:=Y9 B l x hx λy hy=>hl y (zmm _ hy)
   omega
  ·rw[uq c,bZ];exact Y9 B l a h λy hy=>hl y (zmm _ hy)
def ahR:∀(l:List Int) (a x:Int),mx a (l++[x])=(bif decide (mx a l<x) then x else mx a l)
 |[],a,x=>rfl
 |y::l,a,x=>by rw[Xg,mx,mx,ahR l]
def atN:∀(l:List Int) (a:Int),mx (1+a) (l.map λd=>1+d)=1+mx a l
 |[],a=>rfl
 |x::l,a=>by
  rw[WH,mx,mx,<-atN l]
  by_cases c:a<x
  ·rw[zdt c,aU,zdt au,aU]
  ·rw[uq c,bZ,uq au,bZ]
def dep(l:List Nd):Nat->Nat->Int
 |0,_=>0
 |f+1,i=>mx 0 ((aeu l i).map λk=>dep l f k.toNat)+1
def aao(l:List Nd):∀f i,0<=dep l f i∧dep l f i<=f
 |0,i=>by simp[dep]
 |f+1,i=>by have:=Y9 (f:Int) ((aeu l i).map λk=>dep l f k.toNat) 0 au (λx hx=>by obtain⟨k,_,rfl⟩:=List.mem_map.1 hx;exact(aao l f k.toNat).2);rw[dep];omega
section
variable {l:List Nd} {r:List Int} {o:Bool}
def akD(h:Val l r):∀(f f' i:Nat),i<f->i<f'->i<l.length->dep l f i=dep l f' i
 |0,_,i,h1,_,_=>absurd h1 (Nat.not_lt_zero _)
 |f+1,0,i,_,h2,_=>absurd h2 (Nat.not_lt_zero _)
 |f+1,f'+1,i,h1,h2,h3=>by
  obtain⟨n,hn⟩:∃n,l[i]? =some n:=⟨l[i],by simp⟩
  rw[dep,dep,Jw hn];congr 2;refine List.map_congr_left λk hk=> ?_
  have hkr:=h.kids hn k hk;exact akD h f f' k.toNat au au au
def aev(l:List Nd)(i:Nat):List Int:=(List.range i).map λj=>dep l (j+1) j
def atO(l:List Nd)(i:Nat):(aev l i).length=i:=by simp[aev]
def akE(l:List Nd){i j:Nat}(h:j<i):(aev l i)[j]? =some (dep l (j+1) j):=by simp[aev,List.getElem?_range h]
def apq(l:List Nd)(i:Nat):aev l (i+1)=aev l i++[dep l (i+1) i]:=by simp[aev,List.range_succ]
def akF(h:Val l r){i:Nat}{n:Nd}(hn:l[i]? =some n)(hk:n.kids.length<=1048576):M.Dk (aN o l) (i:Int) (encI (aev l i)) (1,0)=some (dep l (i+1) i,(n.kids.length:Int)):=by
 have hil:=(Jm.1 hn).1;have hle:=h.le;have hdk:∀k,k∈n.kids->dep l i k.toNat=dep l (k.toNat+1) k.toNat:=λk hkm=>by have:=h.kids hn k hkm;exact akD h _ _ _ au au au
 have hval:∀(j:Nat),(1:Int)+mx 0 ((n.kids.take j).map λk=>dep l i k.toNat)=mx 1 ((n.kids.take j).map λk=>1+dep l i k.toNat):=λj=>by have:=atN ((n.kids.take j).map λk=>dep l i k.toNat) 0;rw[List.map_map] at this;exact this.symm
 have hloop:=jl (b:=M.Ep (aN o l) (i:Int) (encI (aev l i))) (t:=(dep l (i+1) i,(n.kids.length:Int))) (λj=>(mx 1 ((n.kids.take j).map λk=>1+dep l i k.toNat),(j:Int))) n.kids.length
  (by
   intro j hj;obtain⟨k,hkj⟩:∃k,n.kids[j]? =some k:=⟨n.kids[j],by simp⟩
   have hkm:=Ib hkj;have hkr:=h.kids hn k hkm;obtain⟨q,hq⟩:∃q:Nat,k=q:=⟨k.toNat,au⟩
   have hd:=hdk k hkm;have hr:=aao l (q+1) q;subst hq;rw[RX] at hd;simp only[M.Ep,M.yM,bW,iF,hn,Ic,ah,Lj,aZ,nD,hkj,Qa,RX,akE l (show q<i by omega)];rw[zdt au,aU,aC (n:=(j:Int)+1) au au,aC (n:=1+dep l (q+1) q) au au,List.take_add_one,hkj,Option.toList_some,List.map_append,WH,List.map_nil,ahR,RX,hd];rfl)
  (by simp only[M.Ep,M.yM,bW,iF,hn,Ic,ah,Lj,aZ];rw[uq au,bZ,<-hval,List.take_length,dep,Jw hn,Int.add_comm]) 0 (Nat.zero_le _)
 rw[M.Dk];exact hloop
def depth(l:List Nd):Int:=if y9 l then dep l l.length (l.length - 1) else 0
def ab1(l:List Nd)(o:Bool)(hl:l.length<=1048576)(hk:∀n,n∈l->n.kids.length<=1048576):M.xZ (aN o l)=some (depth l):=by
 simp only[M.xZ,M.Kz,OT l o hl hk,ah,cZ,depth];cases hs:y9 l with
 |false=>rfl
 |true=>
  obtain⟨r,h⟩:=aes hs;have h1:=h.pos;have h2:=h.le;have hloop:=jl (b:=M.Es (aN o l)) (t:=((l.length:Int),encI (aev l l.length))) (λi=>((i:Int),encI (aev l i))) l.length
   (by
    intro i hi;obtain⟨n,hn⟩:∃n,l[i]? =some n:=⟨l[i],by simp⟩
    have hin:=akF (o:=o) h hn (hk n (Ib hn));simp only[mg,M.Es,M.yN,cZ,hin,ah,aZ,atO,Le];rw[zdt au,aU,aX au,aU,aX au,aU,aC au au,apq];simp[encI])
   (by simp only[mg,M.Es,M.yN,cZ];rw[uq au,bZ]) 0 (Nat.zero_le _)
  have LY:M.II (aN o l) (0,[])=_:=hloop;rw[Bool.not_true,bZ,LY,ah,aC au au,show(l.length:Int) - 1=((l.length - 1:Nat):Int) by omega,if_pos rfl];simp only[bW,RX,nD,akE l (show l.length - 1<l.length by omega),Ic,ah,Qa];rw[show l.length - 1+1=l.length by omega]
def UU(l:List Nd)(i:Nat):Nd:=match l[i]? with|some n=>n|none=>⟨0,0,[],[],[]⟩
def aew(n:Nd)(rows:aA):Row:=[.int .i64 n.kind,.int .i64 n.op,.str n.text,.str n.other,.sl true 5 rows]
def EM(l:List Nd):Nat->Nat->aA
 |0,_=>[]
 |f+1,i=>(aeu l i).map λk=>aew (UU l k.toNat) (EM l f k.toNat)
def agy(h:Val l r)(hk:∀n,n∈l->n.kids.length<=400):∀(f i:Nat) (n:Nd),i<f->l[i]? =some n->M.jk f (aN o l) (i:Int)=some (n.kind,n.op,n.text,n.other,EM l f i)
 |0,i,n,hf,_=>absurd hf (Nat.not_lt_zero _)
 |f+1,i,n,hf,hn=>by
  have hkn:=hk n (Ib hn);have hil:=(Jm.1 hn).1;have hkl:=h.kids hn;simp only[mg,M.jk,M.DC,bW,iF,hn,Ic,ah,Oz,Ru,QU,Rw,Lj,aZ];have hrec:∀(j:Nat) k,n.kids[j]? =some k->M.jk f (aN o l) k=some ((UU l k.toNat).kind,(UU l k.toNat).op,(UU l k.toNat).text,(UU l k.toNat).other,EM l f k.toNat):=by
   intro j k hj;have hkr:=hkl k (Ib hj);obtain⟨q,hq⟩:∃q:Nat,k=q:=⟨k.toNat,au⟩
   subst hq;obtain⟨m,hm⟩:∃m,l[q]? =some m:=⟨l[q]'au,by simp⟩
   have:=agy h hk f q m au hm;rw[this,RX,UU,hm]
  have hloop:=jl (b:=M.kM (M.jk f))
   (t:=if n.kids=[] then .inl (aN o l,encI n.kids,(n.kids.length:Int),0,0,0,[],[],n.kind,n.op,n.text,n.other) else .inr (aN o l,encI n.kids,(n.kids.length:Int),(n.kids.length:Int),0,0,[],[],n.kind,n.op,n.text,n.other,EM l (f+1) i))
   (λj=>if j=0 then .inl (aN o l,encI n.kids,(n.kids.length:Int),0,0,0,[],[],n.kind,n.op,n.text,n.other) else .inr (aN o l,encI n.kids,(n.kids.length:Int),(j:Int),0,0,[],[],n.kind,n.op,n.text,n.other,(n.kids.take j).map λk=>aew (UU l k.toNat) (EM l f k.toNat))) n.kids.length
   (by
    intro j hj;obtain⟨k,hkj⟩:∃k,n.kids[j]? =some k:=⟨n.kids[j],by simp⟩
    have hr:=hrec j k hkj;have htk:(n.kids.take (j+1)).map (λk=>aew (UU l k.toNat) (EM l f k.toNat))=(n.kids.take j).map (λk=>aew (UU l k.toNat) (EM l f k.toNat))++[aew (UU l k.toNat) (EM l f k.toNat)]:=by rw[List.take_add_one,hkj,Option.toList_some,List.map_append];rfl
    rw[if_neg (show¬j+1=0 by omega),htk]
    by_cases h0:j=0
    ·subst h0;rw[if_pos rfl];have aWe:idx (encI n.kids) 0=some [D.int .i64 k]:=by have:=bW (encI n.kids) 0;rw[vM] at this;rw[this,nD,hkj];rfl
     simp only[mg,M.kM,M.kL,aWe,ah,Qa,hr];rw[zdt au,aU];rfl
    ·rw[if_neg h0];simp only[mg,M.kM,M.kL,bW,nD,hkj,Ic,ah,Qa,hr,List.length_map,RZ,Le];rw[zdt au,aU,aX au,aU,aX au,aU,aC au au];rfl)
   (by
    by_cases h0:n.kids.length=0
    ·have he:n.kids=[]:=List.length_eq_zero_iff.1 h0;rw[if_pos h0,if_pos he];simp only[mg,M.kM,M.kL];rw[uq au,bZ]
    ·have he:¬n.kids=[]:=λe=>h0 (by rw[e];rfl)
     rw[if_neg h0,if_neg he,List.take_length];simp only[mg,M.kM,M.kL];rw[uq au,bZ,EM,Jw hn]) 0 (Nat.zero_le _)
  rw[if_pos rfl] at hloop;rw[M.FD,hloop,ah]
  by_cases he:n.kids=[]
  ·rw[if_pos he,EM,Jw hn,he];rfl
  ·rw[if_neg he];rfl
def Ui:∀rows:aA,aJ rows=rows.map vP
 |[]=>rfl
 |x::rows=>by rw[aJ,Ui rows,WH]
def akG(h:Val l r)(hk:∀n,n∈l->n.kids.length<=400):∀(f i:Nat) (n:Nd) (a b:Int) (c d:aF),i<f->f<=1000->l[i]? =some n->M.jy f a b c d (aJ (EM l f i))=some (dep l f i)
 |0,i,n,a,b,c,d,hf,_,_=>absurd hf (Nat.not_lt_zero _)
 |f+1,i,n,a,b,c,d,hf,hf2,hn=>by
  have hkn:=hk n (Ib hn);have hil:=(Jm.1 hn).1;have hkl:=h.kids hn;have hdr:=aao l (f+1) i;have hlen:(aJ (EM l (f+1) i)).length=n.kids.length:=by rw[Ui,EM,Jw hn];simp
  simp only[M.jy,M.yF,hlen];have hloop:=jl (b:=M.yE (M.jy f) (aJ (EM l (f+1) i)) (n.kids.length:Int)) (t:=(mx 0 (n.kids.map λk=>dep l f k.toNat),(n.kids.length:Int)))
   (λj=>(mx 0 ((n.kids.take j).map λk=>dep l f k.toNat),(j:Int))) n.kids.length
   (by
    intro j hj;obtain⟨k,hkj⟩:∃k,n.kids[j]? =some k:=⟨n.kids[j],by simp⟩
    have hkr:=hkl k (Ib hkj);obtain⟨q,hq⟩:∃q:Nat,k=q:=⟨k.toNat,au⟩
    subst hq;obtain⟨m,hm⟩:∃m,l[q]? =some m:=⟨l[q]'au,by simp⟩
    have hrow:(aJ (EM l (f+1) i))[j]? =some (vP (aew m (EM l f q))):=by rw[Ui,EM,Jw hn,List.getElem?_map,List.getElem?_map,hkj];simp only[Ic,RX,UU,hm]
    have hrec:=akG h hk f q m m.kind m.op m.text m.other au au hm;have k0:fZ .i64 (vP (aew m (EM l f q))) 0=some m.kind:=rfl;have k1:fZ .i64 (vP (aew m (EM l f q))) 1=some m.op:=rfl;have k2:cStr (vP (aew m (EM l f q))) 2=some m.text:=rfl;have k3:cStr (vP (aew m (EM l f q))) 3=some m.other:=rfl;have k4:TD 5 (vP (aew m (EM l f q))) 4=some (aJ (EM l f q)):=rfl;simp only[mg,M.yE,M.uj,bW,hrow,ah,k0,k1,k2,k3,k4,hrec];rw[zdt au,aU,aC au au,List.take_add_one,hkj,Option.toList_some,List.map_append,WH,List.map_nil,ahR,RX];rfl)
   (by simp only[mg,M.yE,M.uj];rw[uq au,bZ,List.take_length]) 0 (Nat.zero_le _)
  have LY:M.BZ (M.jy f) (aJ (EM l (f+1) i)) (n.kids.length:Int) (0,0)=_:=hloop;rw[LY,ah];rw[dep,Jw hn] at hdr⊢;rw[aC au au]
end
def OU{α:Type}(p:Nat->α->Bool):List α->Nat->Bool
 |[],_=>true
 |x::l,i=>p i x && OU p l (i+1)
def VF{α:Type}(l:List α)(p:Nat->α->Bool){b:Int->Option (Int⊕(Unit⊕Int))}
  (hb:∀(i:Nat) x,l[i]? =some x->b (i:Int)=some (bif p i x then .inl ((i:Int)+1) else .inr (.inl ()))) (he:b (l.length:Int)=some (.inr (.inr (l.length:Int)))):
  fM b 0=some (bif OU p l 0 then .inr (l.length:Int) else .inl ()):=by
 have key:∀(t:List α) (i:Nat),l.drop i=t->i<=l.length->fM b (i:Int)=some (bif OU p t i then .inr (l.length:Int) else .inl ()):=by
  intro t;induction t with
  |nil=>
   intro i hd hi;have:i=l.length:=by have:=congrArg List.length hd;simp at this;omega
   subst this;exact dZ he
  |cons x t ih=>
   intro i hd hi;have hx:l[i]? =some x:=by
    have:(l.drop i)[0]? =some x:=by rw[hd];rfl
    simpa using this
   have hlt:i<l.length:=(Jm.1 hx).1;have hd':l.drop (i+1)=t:=by rw[<-List.drop_drop,hd];rfl
   have hs:=hb i x hx;rw[OU];cases hw:p i x with
   |true=>rw[hw,aU] at hs;rw[iC hs,show(i:Int)+1=((i+1:Nat):Int) by omega,ih (i+1) hd' hlt,Bool.true_and]
   |false=>rw[hw,bZ] at hs;rw[dZ hs];rfl
 exact key l 0 rfl (Nat.zero_le _)
noncomputable def fOk(n:Nd):Bool:=(M.aB n.kind n.op n.text n.other (encI n.kids)).getD false
noncomputable def kOk(n:Nd)(j:Int)(d:Int):Bool:=(M.aH n.kind n.op n.text n.other (encI n.kids) j d).getD false
structure Small(n:Nd):Prop where
 text:n.text.length<=1048576
 other:n.other.length<=1048576
def aex{n:Nd}(hs:Small n)(hk:n.kids.length<=400):M.aB n.kind n.op n.text n.other (encI n.kids)=some (fOk n)∧M.gZ n.kind n.op n.text n.other (encI n.kids)=some (fOk n):=by obtain⟨b,h1,h2⟩:=akz n.kind n.op n.text n.other (encI n.kids) hs.text hs.other (by rw[aZ];exact hk);rw[fOk,h1];exact⟨rfl,h2⟩
def amC{n:Nd}(hs:Small n)(hk:n.kids.length<=400)(hf:fOk n=true)(j:Nat)(hj:j<n.kids.length)(d:Int):
  M.aH n.kind n.op n.text n.other (encI n.kids) (j:Int) d=some (kOk n j d)∧M.aY n.kind n.op n.text n.other (encI n.kids) (j:Int) d=some (kOk n j d):=by
 have hc:=ahQ (k:=n.kind) (op:=n.op) (t:=n.text) (o:=n.other) (kids:=encI n.kids) (by rw[(aex hs hk).1,hf]);obtain⟨b,h1,h2⟩:=aCj n.kind n.op n.text n.other (encI n.kids) (j:Int) d au (by rw[aZ];omega) (by rw[aZ];exact hk) hc;rw[kOk,h1];exact⟨rfl,h2⟩
def anV:∀(l:List Int),(∀x,x∈l->1<=x)->(l.length:Int)<=VE l
 |[],_=>by simp[VE]
 |x::l,h=>by
  have:=anV l λy hy=>h y (zmm _ hy)
  have:=h x zmf;simp only[oh,VE];omega
section
variable {l:List Nd} {r:List Int} {o:Bool}
def Val.Za(h:Val l r){i:Nat}{n:Nd}(hn:l[i]? =some n):n.kids.length<=400:=by have hil:=(Jm.1 hn).1;have h1:=h.sum hn;have h2:=anV (n.kids.map (sz r)) (λx hx=>by obtain⟨k,hk,rfl⟩:=List.mem_map.1 hx;exact(h.atM (h.kids hn k hk).1).1);rw[List.length_map] at h2;have h3:=(h.atM (k:=(i:Int)) au).2;have:=h.le;omega
def Val.Zb(h:Val l r):∀n,n∈l->n.kids.length<=400:=λn hn=>by obtain⟨i,hi⟩:=List.mem_iff_getElem?.1 hn;exact h.Za hi
noncomputable def kp(l:List Nd)(n:Nd)(j:Nat)(k:Int):Bool:=kOk n j (UU l k.toNat).kind
def aey(h:Val l r)(hsm:∀n,n∈l->Small n){i:Nat}{n:Nd}(hn:l[i]? =some n)(hf:fOk n=true)(v10:aA)(v11 v12:Int):
  M.FP (aN o l) (i:Int) 0=some (bif OU (kp l n) n.kids 0 then .inr (n.kids.length:Int) else .inl ())∧
  M.FH (aN o l) v10 v11 v12 (encI n.kids) (n.kids.length:Int) n.kind n.op n.text n.other (encI n.kids) 0=some (bif OU (kp l n) n.kids 0 then .inr (n.kids.length:Int) else .inl ()):=by
 have hkl:=h.Za hn;have hs:=hsm n (Ib hn);have step:∀(j:Nat) k,n.kids[j]? =some k->∃(q:Nat) (m:Nd),k=(q:Int)∧l[q]? =some m∧(UU l k.toNat).kind=m.kind:=by
  intro j k hj;have hkr:=h.kids hn k (Ib hj);have hil:=(Jm.1 hn).1;obtain⟨q,hq⟩:∃q:Nat,k=q:=⟨k.toNat,au⟩
  obtain⟨m,hm⟩:∃m,l[q]? =some m:=⟨l[q]'au,by simp⟩
  refine⟨q,m,hq,hm, ?_⟩;rw[hq,RX,UU,hm]
 constructor
 ·rw[M.FP];refine VF n.kids (kp l n) (λj k hj=> ?_) ?_
  ·obtain⟨q,m,hq,hm,he⟩:=step j k hj;have hjl:=(Jm.1 hj).1;have hok:=(amC hs hkl hf j hjl m.kind).1;rw[kp,he];subst hq;simp only[mg,M.LV,M.Aw,bW,iF,hn,hm,Ic,ah,Oz,Ru,QU,Rw,Lj,aZ,nD,hj,Qa,hok];rw[zdt au,aU,aC au au];cases kOk n j m.kind<;>rfl
  ·simp only[mg,M.LV,M.Aw,bW,iF,hn,Ic,ah,Lj,aZ];rw[uq au,bZ]
 ·rw[M.FH];refine VF n.kids (kp l n) (λj k hj=> ?_) ?_
  ·obtain⟨q,m,hq,hm,he⟩:=step j k hj;have hjl:=(Jm.1 hj).1;have hok:=(amC hs hkl hf j hjl m.kind).2;rw[kp,he];subst hq;simp only[M.LQ,M.Ai,bW,iF,hm,Ic,ah,Oz,nD,hj,Qa,hok];rw[zdt au,aU,aC au au];cases kOk n j m.kind<;>rfl
  ·simp only[M.LQ,M.Ai];rw[uq au,bZ]
noncomputable def np(l:List Nd)(_:Nat)(n:Nd):Bool:=fOk n && OU (kp l n) n.kids 0
def abm(h:Val l r)(hsm:∀n,n∈l->Small n):
  M.FQ (aN o l) 0=some (bif OU (np l) l 0 then .inr (l.length:Int) else .inl ())∧
  M.FI (aN o l) (aN o l) (l.length:Int) 0=some (bif OU (np l) l 0 then .inr (l.length:Int) else .inl ()):=by
 have hle:=h.le;constructor
 ·rw[M.FQ];refine VF l (np l) (λi n hi=> ?_) ?_
  ·have hil:=(Jm.1 hi).1;have hf:=(aex (hsm n (Ib hi)) (h.Za hi)).1;simp only[mg,M.LW,M.Az,cZ,bW,iF,hi,Ic,ah,Oz,Ru,QU,Rw,Lj,hf,np];rw[zdt au,aU,aC au au];cases hff:fOk n with
   |false=>rfl
   |true=>have:=(aey (o:=o) h hsm hi hff [] 0 0).1;rw[Bool.not_true,bZ,this,ah];cases OU (kp l n) n.kids 0<;>rfl
  ·simp only[mg,M.LW,M.Az,cZ];rw[uq au,bZ]
 ·rw[M.FI];refine VF l (np l) (λi n hi=> ?_) ?_
  ·have hil:=(Jm.1 hi).1;have hf:=(aex (hsm n (Ib hi)) (h.Za hi)).2;simp only[mg,M.LU,M.Aj,bW,iF,hi,Ic,ah,Oz,Ru,QU,Rw,Lj,hf,np,aZ];rw[zdt au,aU,aC au au];cases hff:fOk n with
   |false=>rfl
   |true=>have:=(aey (o:=o) h hsm hi hff (aN o l) (l.length:Int) (i:Int)).2;rw[Bool.not_true,bZ,this,ah];cases OU (kp l n) n.kids 0<;>rfl
  ·simp only[mg,M.LU,M.Aj];rw[uq au,bZ]
end
noncomputable def zC(l:List Nd):Bool:=y9 l &&(decide (depth l<=40) && OU (np l) l 0)
section
variable (l:List Nd) (o:Bool) (hl:l.length<=1048576) (hk:∀n,n∈l->n.kids.length<=1048576) (hsm:∀n,n∈l->Small n)
include hl hk hsm
theorem KX:M.qO (aN o l)=some (zC l):=by
 simp only[M.qO,M.NG,OT l o hl hk,ab1 l o hl hk,ah,zC];cases hs:y9 l with
 |false=>rfl
 |true=>
  obtain⟨r,h⟩:=aes hs;rw[Bool.not_true,bZ,(abm (o:=o) h hsm).1,ah,Bool.true_and]
  by_cases hd:depth l<=40
  ·rw[uq (show¬depth l>40 by omega),bZ,zdt hd,Bool.true_and];cases OU (np l) l 0<;>rfl
  ·rw[zdt (show depth l>40 by omega),aU,uq hd];rfl
theorem Qw:M.vU (aN o l)=some (zC l):=by
 simp only[M.vU,M.Nh,abZ l o hl hk,ah,zC,cZ];cases hs:y9 l with
 |false=>rfl
 |true=>
  obtain⟨r,h⟩:=aes hs;have h1:=h.pos;have h2:=h.le;obtain⟨n,hn⟩:∃n,l[l.length - 1]? =some n:=⟨l[l.length - 1]'au,by simp⟩
  have ht:=agy (o:=o) h h.Zb l.length (l.length - 1) n au hn;have hd:=akG h h.Zb l.length (l.length - 1) n n.kind n.op n.text n.other au au hn;rw[Bool.not_true,bZ,(abm (o:=o) h hsm).2,ah,Bool.true_and];simp only[M.Fq,M.MZ,cZ];rw[aC au au,show(l.length:Int) - 1=((l.length - 1:Nat):Int) by omega,M.Vq ht,ah,ah];simp only;rw[M.XZ hd,ah,depth,if_pos hs];cases OU (np l) l 0<;>simp[uw,letE]
end
@[simp] theorem aDc(l:List Int):xK (encI l)=true:=by
 induction l with
 |nil=>rfl
 |cons x l ih=>simp only[encI,WH] at ih⊢;simp[xK,bG,D.pure,ih]
@[simp] theorem aDd(l:List Int):[[D.sl true 1 (encI l)]].all bG=true:=by simp[bG,D.pure]
def He(o:Bool)(a b:List Nd):aN o (a++b)=aN o a++aN o b:=by simp[aN]
def aCk(w:Bool):∀t:Tn,t.row w=[.int .i64 t.kind,.int .i64 t.op,.str t.text,.str t.other,.sl w 5 (iM w t.kids)]
 | .mk k o x y ks=>rfl
def ahS(w:Bool)(a b:List Tn):iM w (a++b)=iM w a++iM w b:=by simp[PO]
def jC(w:Bool)(a:List Tn):(iM w a).length=a.length:=by simp[PO]
def gq{α:Type}{l:List α}{j:Nat}{t:α}(h:l[j]? =some t):l.take (j+1)=l.take j++[t]:=by rw[List.take_add_one,h];rfl
def aez{α:Type}{l:List α}{j:Nat}{t:α}(h:l[j]? =some t):l=l.take j++t::l.drop (j+1):=by obtain⟨hj,rfl⟩:=Jm.1 h;rw[<-List.drop_eq_getElem_cons hj,List.take_append_drop]
def Jf{ks:List Tn}{j:Nat}{t:Tn}(h:ks[j]? =some t):sizes (ks.take j)+t.size<=sizes ks:=by have:=congrArg sizes (aez h);rw[lU,sizes] at this;omega
section
variable {l:List Nd} {b:Nat} {k op:Int} {x y:aF} {ks:List Tn}
def Lies.Jg(h:Lies l b (.mk k op x y ks)){j:Nat}{t:Tn}(hj:ks[j]? =some t):Lies l (b+sizes (ks.take j)) t:=by have e:=aez hj;rw[e] at h;exact h.kid
def Uj{j:Nat}{t:Tn}(hj:ks[j]? =some t):(ends ks b)[j]? =some ((b+sizes (ks.take j)+sizes t.kids:Nat):Int):=by have hlt:=(Jm.1 hj).1;have hs:=t.mZ;rw[aqN hlt,gq hj,lU,sizes,sizes];congr 1;omega
def Lies.root'{t:Tn}(h:Lies l b t):l[b+sizes t.kids]? =some ⟨t.kind,t.op,t.text,t.other,ends t.kids b⟩:=by cases t;exact h.root
def aap{j:Nat}{t:Tn}(hj:ks[j]? =some t):ends (ks.take (j+1)) b=ends (ks.take j) b++[((b+sizes (ks.take j)+t.size:Nat):Int) - 1]:=by rw[gq hj,QV,ends,ends];congr 2<;>omega
def X9{j:Nat}{t:Tn}(hj:ks[j]? =some t):gX (ks.take (j+1)) b=gX (ks.take j) b++t.flat (b+sizes (ks.take j)):=by rw[gq hj,JU,gX,gX,List.append_nil]
def amD{w:Bool}{j:Nat}{t:Tn}(hj:ks[j]? =some t):iM w (ks.take (j+1))=iM w (ks.take j)++[t.row w]:=by rw[gq hj,ahS];rfl
def ends_range:∀(ks:List Tn) (b:Nat),∀e,e∈ends ks b->(b:Int)<=e∧e<b+sizes ks
 |[],b,e,h=>by simp[ends] at h
 |t::ts,b,e,h=>by
  have hp:=t.size_pos;rw[ends] at h;have hs:(sizes (t::ts):Int)=t.size+sizes ts:=by rw[sizes];omega
  rcases List.mem_cons.1 h with rfl|h
  ·omega
  ·have:=ends_range ts _ e h;omega
end
mutual
def Hf:∀(t:Tn) (b:Nat),∀n,n∈t.flat b->n.kids.length<=t.size∧∀e,e∈n.kids->(0:Int)<=e∧e<b+t.size
 | .mk k o x y ks,b,n,h=>by
  rw[Tn.flat] at h;rw[Tn.size];rcases List.mem_append.1 h with h|h
  ·have:=aeA ks b n h;exact⟨au,λe he=>by have:=this.2 e he;omega⟩
  ·simp only[List.mem_singleton] at h;subst h;refine⟨by simp only[dP];have:=lV ks;omega,λe he=> ?_⟩;have:=ends_range ks b e he;omega
def aeA:∀(ks:List Tn) (b:Nat),∀n,n∈gX ks b->n.kids.length<=sizes ks∧∀e,e∈n.kids->(0:Int)<=e∧e<b+sizes ks
 |[],b,n,h=>by simp[gX] at h
 |t::ts,b,n,h=>by
  rw[gX] at h;rw[sizes];rcases List.mem_append.1 h with h|h
  ·have:=Hf t b n h;exact⟨au,λe he=>by have:=this.2 e he;omega⟩
  ·have:=aeA ts _ n h;exact⟨au,λe he=>by have:=this.2 e he;omega⟩
end
structure Ps where
 level:Int
 lJ:Bool
 qK:Bool
 qL:Bool
 kT:Bool
 deriving DecidableEq,Inhabited
def Ps.top:Ps:=⟨1,false,false,false,false⟩
def Ps.zero:Ps:=⟨0,false,false,false,false⟩
def wZ(op:Int):Int:=bif op==44 then 3 else bif op==45 then 4 else bif op==67||op==46 then 6 else
 bif op==63||(op==48||(op==47||(op==50||(op==62||op==49)))) then 7 else bif op==99 then 8 else bif op==55||op==56 then 9 else
 bif op==57||(op==58||op==59) then 10 else bif op==60 then 12 else 0
def lvl(k op:Int):Int:=bif k==15 then 1 else bif k==14 then 2 else bif k==13 then 5 else bif k==12 then wZ op else bif k==11 then 11 else
 bif k==9||k==10 then 13 else bif k==6 then 14 else bif k==1||(k==2||(k==3||(k==4||(k==5||(k==7||k==8))))) then 15 else 0
def kX(p:Ps):Bool:=(decide (1<=p.level) && decide (p.level<=15)) &&(!p.lJ||p.level==14)
def fits(k op:Int)(p:Ps):Bool:=bif !(kX p)||lvl k op==0 then false else bif p.qK && k==13 then false else bif p.qL &&(k==12 && op==62) then false else
 bif p.kT &&(k==11||(k==9||k==4)) then false else(p.lJ && k==9)||decide (p.level<=lvl k op)
def sides(op:Int):Int×Int:=bif wZ op==3 then(3,4) else bif wZ op==4 then(4,5) else bif wZ op==6 then(7,7) else bif wZ op==7 then(8,8) else
 bif wZ op==8 then(8,9) else bif wZ op==9 then(9,10) else bif wZ op==10 then(10,11) else(13,11)
def Uk(k op:Int)(j:Nat):Int:=bif k==15 then(bif Nat.beq j 0 then 14 else 1) else bif k==14 then(bif Nat.beq j 0 then 3 else 2) else bif k==13 then 5 else bif k==11 then 11 else
 bif k==12 then(bif Nat.beq j 0 then(sides op).1 else(sides op).2) else 14
def dG(k op:Int)(n j:Nat)(p:Ps):Ps:=bif !(kX p)||(!(Nat.blt j n)||lvl k op==0) then .zero else bif lvl k op==15||(k==13 && Nat.blt 1 n) then .top else
 ⟨Uk k op j,k==6,p.qK,p.qL,bif k==11||(k==9||(k==10||k==6)) then false else(Nat.beq j 0 && p.kT)||(Nat.beq j 1 &&(k==12 && op==99))⟩
def oH(k:Int)(j:Nat):Bool:=Nat.beq j 0 &&(k==9||(k==10||k==15))
def tok(k:Int):Tk:=⟨k,spell k,0⟩
def DW:Bool->List (List Tk)->List Tk
 |_,[]=>[]
 |b,x::l=>(bif b then x else tok 36::x)++DW false l
def yY{α:Type}(L:List (List α))(j:Nat):List α:=(L[j]?).getD []
def EY(k op:Int)(n:Nat)(x:aF)(L:List (List Tk)):List Tk:=
 bif k==1 then[⟨6,x,0⟩] else bif k==2 then[⟨3,x,0⟩] else bif k==3 then[⟨4,x,0⟩] else bif k==4 then[⟨5,x,0⟩] else
 bif k==5 then⟨6,x,0⟩::tok 34::(DW true L++[tok 35]) else bif k==7 then⟨7,x,0⟩::tok 32::(DW true L++[tok 33]) else bif k==8 then⟨8,x,0⟩::tok 32::(DW true L++[tok 33]) else
 bif k==9||k==11 then tok op::yY L 0 else bif k==6 then tok 68::yY L 0 else bif k==10 then yY L 0++[tok op] else
 bif k==13 then(bif Nat.blt 1 n then tok 32::(DW true L++[tok 33]) else yY L 0)++[tok 24,⟨6,x,0⟩] else
 bif k==14 then yY L 0++(tok 65::(yY L 1++(tok 66::yY L 2))) else yY L 0++((bif op==99 then[] else[tok op])++yY L 1)
mutual
def uF:Tn->Ps->List Tk
 | .mk k op x _ ks,p=>EY k op ks.length x (iJ k op ks.length p ks 0)
def iJ(k op:Int)(n:Nat)(p:Ps):List Tn->Nat->List (List Tk)
 |[],_=>[]
 |t::ts,j=>(bif oH k j||fits t.kind t.op (dG k op n j p) then uF t (dG k op n j p) else tok 32::(uF t .top++[tok 33]))::iJ k op n p ts (j+1)
end
def Xc(t:Tn)(p:Ps):List Tk:=bif fits t.kind t.op p then uF t p else tok 32::(uF t .top++[tok 33])
def uG(s:aF):Tn:=.mk 1 0 s [] []
def Qx:Tn:=.mk 2 0 [] [] []
def anW:Tn:=.mk 3 0 [] [] []
def Td(d:Tn):Tn:=.mk 4 4 [] [] [d]
def afz(d:Tn):Tn:=.mk 5 0 [] [] [d]
def sW(l:List Tn):Tn:=.mk 6 0 [] [] l
def Ll:Bool->List Tn->List Tn
 |_,[]=>[]
 |b,x::l=>(bif b then[x] else[uG [44],Qx,x])++Ll false l
def OZ(L:List Tn):Tn:=afz (Td (sW (Ll true L)))
def wC(L:List Tn)(j:Nat):Tn:=(L[j]?).getD (uG [])
def aeB(s:aF):List (aF)->Nat->Nat
 |[],m=>m
 |g::l,m=>aeB s l (bif Nat.blt m g.length && g.isPrefixOf s then g.length else m)
def lastB(s:aF):Int:=match s.getLast? with|some c=>(c.toNat:Int)|none=> -1
def amE(s:aF):Int:=match s with|c::_=>(c.toNat:Int)|[]=> -1
def FV(a b:Tk):Bool:=
 bif a.text==[]||(b.text==[]||(a.kind==2||(a.kind==1||b.kind==1))) then false else
 bif isW (lastB a.text) && isW (amE b.text) then true else
 bif a.kind==3 &&(isW (amE b.text)||amE b.text==46) then true else
 bif a.kind==6 && b.kind==32 then true else
 bif !(decide (30<=a.kind) && decide (a.kind<=68)) then false else Nat.blt a.text.length (aeB (a.text++b.text) RN 0)
def QG(k op:Int)(n:Nat)(x:aF)(gap:Bool)(L:List Tn):Tn:=
 bif k==1||(k==2||(k==3||k==4)) then uG x else bif k==5 then sW [uG (x++[91]),OZ L,uG [93]] else
 bif k==7||k==8 then sW [uG (x++[40]),OZ L,uG [41]] else bif k==9 then sW [uG (spell op),wC L 0] else bif k==10 then sW [wC L 0,uG (spell op)] else
 bif k==6 then sW [uG [36],wC L 0] else bif k==11 then sW [uG (bif gap then spell op++[32] else spell op),wC L 0] else
 bif k==14 then sW [wC L 0,uG [32,63,32],wC L 1,uG [32,58,32],wC L 2] else
 bif k==13 then(bif Nat.blt 1 n then sW [uG [40],OZ L,uG ([41,32,105,110,32]++x)] else sW [wC L 0,uG ([32,105,110,32]++x)]) else
 bif k==12 && op==99 then sW [wC L 0,uG [32],wC L 1] else
 bif k==12 &&(op==45||op==44) then afz (Td (sW [wC L 0,uG (32::spell op),Qx,wC L 1])) else
 sW [wC L 0,uG ((32::spell op)++[32]),wC L 1]
def aeC(op:Int)(L:List (List Tk)):Bool:=match L with
 |(b::_)::_=>FV (tok op) b
 |_=>false
mutual
def l9:Tn->Ps->Tn
 | .mk k op x _ ks,p=>QG k op ks.length x (aeC op (iJ k op ks.length p ks 0)) (lS k op ks.length p ks 0)
def lS(k op:Int)(n:Nat)(p:Ps):List Tn->Nat->List Tn
 |[],_=>[]
 |t::ts,j=>(bif oH k j||fits t.kind t.op (dG k op n j p) then l9 t (dG k op n j p) else sW [uG [40],l9 t .top,uG [41]])::lS k op n p ts (j+1)
end
def EN(t:Tn)(p:Ps):Tn:=bif fits t.kind t.op p then l9 t p else sW [uG [40],l9 t .top,uG [41]]
def Jh(t:Tn):Tn:=EN t .top
def atP(t:Tn):Tn:=bif t.kind==16 then uG [] else sW [uG [32],Jh t]
def ahT:List Tn->List Tn
 |[]=>[]
 |d::l=>anW::d::ahT l
def aCl(L:List Tn):Tn:=sW [uG [123],Td (sW (ahT L)),anW,uG [125]]
def PI(L:List Tn)(j:Nat):Tn:=(L[j]?).getD (.mk 0 0 [] [] [])
def Xd(p:Ps)(L:List Tn):Tn:=OZ (L.map λt=>EN t p)
def aCm(op:Int)(y:aF)(ks:List Tn):Tn:=
 let args:=bif y==[] then ks else ks.take (ks.length - 1)
 sW ([uG (bif op==0 then[112,114,105,110,116] else[112,114,105,110,116,102])]++
  ((bif Nat.blt 0 args.length then[uG [32],Xd ⟨1,false,false,true,false⟩ args] else[])++
   (bif y==[] then[] else[uG (([32]++y)++[32]),(EN (PI ks (ks.length - 1))) ⟨9,false,false,false,false⟩])))
def akH(w:aF)(ks:List Tn):Tn:=match ks with
 |[]=>uG w
 |t::_=>sW [uG w,atP t]
def aLY(k op:Int)(x y:aF)(ks L:List Tn):Tn:=
 bif k==20 then Jh (PI ks 0) else bif k==21 then aCm op y ks else bif k==22 then uG [110,101,120,116] else bif k==25 then uG [98,114,101,97,107] else bif k==26 then uG [99,111,110,116,105,110,117,101] else
 bif k==23 then akH [101,120,105,116] ks else bif k==24 then akH [114,101,116,117,114,110] ks else
 bif k==27 then(match ks with
  |[]=>uG ([100,101,108,101,116,101,32]++x)
  |_::_=>sW [uG (([100,101,108,101,116,101,32]++x)++[91]),Xd .top ks,uG [93]]) else
 bif k==28 then(let d:=sW [uG [105,102,32,40],Jh (PI ks 0),uG [41,32],wC L 1];bif Nat.blt 2 ks.length then sW [d,uG [32,101,108,115,101,32],wC L 2] else d) else
 bif k==29 then sW [uG [119,104,105,108,101,32,40],Jh (PI ks 0),uG [41,32],wC L 1] else
 bif k==30 then sW [uG [100,111,32],wC L 0,uG [32,119,104,105,108,101,32,40],Jh (PI ks 1),uG [41]] else
 bif k==31 then sW [uG [102,111,114,32,40],(bif(PI ks 0).kind==16 then uG [] else(EN (PI ks 0)) ⟨1,false,true,false,false⟩),uG [59],atP (PI ks 1),uG [59],atP (PI ks 2),uG [41,32],wC L 3] else
 bif k==32 then sW [uG (((([102,111,114,32,40]++x)++[32,105,110,32])++y)++[41,32]),wC L 0] else
 bif k==33 then aCl L else uG x
mutual
def aeD:Tn->Tn
 | .mk k op x y ks=>aLY k op x y ks (Ri ks)
def Ri:List Tn->List Tn
 |[]=>[]
 |t::ts=>(aeD t)::Ri ts
end
def wX:List (aF)->Bool->aF
 |[],_=>[]
 |x::l,b=>(bif b then x else[44,32]++x)++wX l false
def Rj(x:aF)(ks:List Tn):aF:=(([102,117,110,99,116,105,111,110,32]++x)++[40])++(wX ((ks.take (ks.length - 1)).map Tn.text) true++[41])
structure Cnt(k op:Int)(y:aF)(n:Nat):Prop where
 one:k=6∨k=9∨k=10∨k=11∨k=20∨k=32∨k=40∨k=41->n=1
 two:k=12∨k=15∨k=29∨k=30->n=2
 some_:k=5∨k=13∨k=44->1<=n
 three:k=14->n=3
 four:k=31->n=4
 cnd:k=28->n=2∨n=3
 prn:k=21->(op=0∨op=1)∧(y≠[]->1<=n)
 wrd:k=23∨k=24->n<=1
 non:k=1∨k=2∨k=3∨k=4∨k=16∨k=22∨k=25∨k=26∨k=34->n=0
 rule:k=42->(op=1∧n=1)∨(op=2∧n=1)∨(op=3∧n=2)
 range:k=43->(op=1∧n=2)∨(op=3∧n=3)
 few:k≠33->k≠45->n<=7
 bin:k=12->wZ op≠0∧op≠61
 asg:k=15->op=54∨(38<=op∧op<=43)
 stp:k=9∨k=10->op=51∨op=52
 una:k=11->op=55∨op=56∨op=61
def cls(k op:Int)(n j:Nat):Nat:=
 if k=9∨k=10∨(k=15∧j=0) then 6 else if k=28∨k=29 then(if j=0 then 0 else 1) else if k=30 then(if j=0 then 1 else 0) else
 if k=31 then(if j<3 then 3 else 1) else if k=32∨k=40∨k=41 then 1 else if k=33 then 2 else if k=42 then(if op=2∨(op=3∧j+1=n) then 1 else 0) else
 if k=43 then(if j=2 then 1 else 0) else if k=44 then(if j+1=n then 1 else 4) else if k=45 then 5 else 0
def yZ(c:Nat)(d:Int):Prop:=match c with
 |0=>1<=d∧d<=15
 |1=>d=33
 |2=>20<=d∧d<=34
 |3=>d=16∨(1<=d∧d<=15)
 |4=>d=1
 |5=>(40<=d∧d<=44)∨d=34
 |_=>d=1∨d=5∨d=6
def aaq(k:Int):Prop:=(1<=k∧k<=16)∨(20<=k∧k<=34)∨(40<=k∧k<=45)
mutual
def zH:Tn->Prop
 | .mk k op x y ks=>aaq k∧Cnt k op y ks.length∧oks k op ks.length ks 0
def oks(k op:Int)(n:Nat):List Tn->Nat->Prop
 |[],_=>True
 |t::ts,j=>yZ (cls k op n j) t.kind∧(zH t)∧oks k op n ts (j+1)
end
def anX{k op:Int}{n:Nat}:∀{ks:List Tn} {j i:Nat} {t:Tn},oks k op n ks j->ks[i]? =some t->yZ (cls k op n (j+i)) t.kind∧(zH t)
 |[],_,i,_,_,h=>by simp at h
 |u::ts,j,0,t,h,e=>by rw[oks] at h;cases e;exact⟨h.1,h.2.1⟩
 |u::ts,j,i+1,t,h,e=>by rw[oks] at h;rw[List.getElem?_cons_succ] at e;have:=anX h.2.2 e;rw[show j+1+i=j+(i+1) by omega] at this;exact this
def OV{k op:Int}{x y:aF}{ks:List Tn}(h:(zH (Tn.mk k op x y ks))){i:Nat}{t:Tn}(e:ks[i]? =some t):yZ (cls k op ks.length i) t.kind∧(zH t):=by
 rw[zH] at h;have:=anX h.2.2 e
 rwa [Nat.zero_add] at this
def Ji{k op:Int}{x y:aF}{ks:List Tn}(h:(zH (Tn.mk k op x y ks))):Cnt k op y ks.length:=by rw[zH] at h;exact h.2.1
def RY(t:Tn):Prop:=1<=t.kind∧t.kind<=15
def UL{k op:Int}{x y:aF}{ks:List Tn}(h:(zH (Tn.mk k op x y ks)))(he:1<=k∧k<=15){i:Nat}{t:Tn}(e:ks[i]? =some t):(RY t)∧(zH t):=by
 obtain⟨h1,h2⟩:=OV h e;refine⟨?_,h2⟩;unfold RY;have:cls k op ks.length i=6∨cls k op ks.length i=0:=by
  unfold cls;split
  ·exact .inl rfl
  ·repeat(rw[if_neg au])
   exact .inr rfl
 rcases this with h|h<;>rw[h] at h1<;>simp only[yZ] at h1<;>omega
def Hz{a b lo hi:Int}(c:Bool)(ha:lo<=a∧a<=hi)(hb:lo<=b∧b<=hi):lo<=(bif c then a else b)∧(bif c then a else b)<=hi:=by cases c<;>assumption
def aeE(op:Int):0<=wZ op∧wZ op<=12:=by unfold wZ;exact Hz _ ⟨by decide,by decide⟩ (Hz _ ⟨by decide,by decide⟩ (Hz _ ⟨by decide,by decide⟩ (Hz _ ⟨by decide,by decide⟩ (Hz _ ⟨by decide,by decide⟩ (Hz _ ⟨by decide,by decide⟩ (Hz _ ⟨by decide,by decide⟩ (Hz _ ⟨by decide,by decide⟩ ⟨by decide,by decide⟩)))))))
def NT{k op:Int}{y:aF}{n:Nat}(he:1<=k∧k<=15)(hc:Cnt k op y n):1<=lvl k op∧lvl k op<=15:=by
 obtain⟨h1,h2⟩:=he;have hk:k=1∨k=2∨k=3∨k=4∨k=5∨k=6∨k=7∨k=8∨k=9∨k=10∨k=11∨k=13∨k=14∨k=15∨k=12:=au;rcases hk with rfl|rfl|rfl|rfl|rfl|rfl|rfl|rfl|rfl|rfl|rfl|rfl|rfl|rfl|rfl
 case inr.inr.inr.inr.inr.inr.inr.inr.inr.inr.inr.inr.inr.inr=>have hb:=(hc.bin rfl).1;have:=aeE op;change 1<=wZ op∧wZ op<=15;omega
 all_goals simp[lvl]
def jc(s:aF):(uG s).size=1:=by simp[uG,Tn.size,sizes]
def Qy:Qx.size=1:=by simp[Qx,Tn.size,sizes]
def akI:anW.size=1:=by simp[anW,Tn.size,sizes]
def Qz(d:Tn):(Td d).size=d.size+1:=by simp[Td,Tn.size,sizes]
def acC(d:Tn):(afz d).size=d.size+1:=by simp[afz,Tn.size,sizes]
def o7(l:List Tn):(sW l).size=sizes l+1:=by simp[sW,Tn.size]
def aar:∀(L:List Tn) (b:Bool),sizes (Ll b L)<=sizes L+2 * L.length
 |[],b=>by rw[Ll];simp[sizes]
 |x::l,b=>by have:=aar l false;cases b<;>simp only[Ll,aU,bZ,lU,sizes,jc,Qy,oh]<;>omega
def Ya(L:List Tn):(OZ L).size<=sizes L+2 * L.length+3:=by have:=aar L true;rw[OZ,acC,Qz,o7];omega
def aas:∀(L:List Tn) (j:Nat),(wC L j).size<=sizes L+1
 |[],j=>by simp[wC,sizes,jc]
 |x::l,0=>by simp only[wC,List.getElem?_cons_zero,Option.getD_some,sizes];omega
 |x::l,j+1=>by have:=aas l j;simp only[wC,List.getElem?_cons_succ,sizes] at this⊢;omega
def aeF:∀(L:List Tn),(wC L 0).size+((wC L 1).size+(wC L 2).size)<=sizes L+3
 |[]=>by simp[wC,sizes,jc]
 |[x]=>by simp[wC,sizes,jc]
 |[x,y]=>by simp[wC,sizes,jc];omega
 |x::y::z::l=>by simp[wC,sizes];omega
def jK{a b:Tn}{N:Nat}(c:Bool)(ha:a.size<=N)(hb:b.size<=N):(bif c then a else b).size<=N:=by cases c<;>assumption
def apr(k op:Int)(n:Nat)(x:aF)(g:Bool)(L:List Tn):(QG k op n x g L).size<=sizes L+2 * L.length+9:=by
 have h1:=Ya L;have h2:=aas L 0;have h3:=aeF L;unfold QG;refine jK _ ?_ (jK _ ?_ (jK _ ?_ (jK _ ?_ (jK _ ?_ (jK _ ?_ (jK _ ?_ (jK _ ?_ (jK _ (jK _ ?_ ?_) (jK _ ?_ (jK _ ?_ ?_))))))))))
 all_goals(simp only[jc,o7,acC,Qz,Qy,sizes]<;>omega)
def Ul(k op:Int)(n:Nat)(p:Ps):∀(ts:List Tn) (j:Nat),(lS k op n p ts j).length=ts.length
 |[],j=>by simp[lS]
 |t::ts,j=>by rw[lS,oh,Ul k op n p ts (j+1),oh]
def FW(k op:Int)(n:Nat)(p:Ps)(j:Nat)(u:Tn):Tn:=bif oH k j||fits u.kind u.op (dG k op n j p) then l9 u (dG k op n j p) else sW [uG [40],l9 u .top,uG [41]]
def Um(a:Tn):(sW [uG [40],a,uG [41]]).size=a.size+3:=by simp only[o7,jc,sizes];omega
def agz{k op:Int}{n:Nat}{p:Ps}{j:Nat}{u:Tn}(h:∀q,(l9 u q).size+6<=16 * u.size):(FW k op n p j u).size+3<=16 * u.size:=by
 unfold FW;cases(oH k j||fits u.kind u.op (dG k op n j p)) with
 |true=>have:=h (dG k op n j p);rw[aU];omega
 |false=>have:=h .top;rw[bZ,Um];omega
def aeG{k op:Int}{n:Nat}{p:Ps}:∀{ts:List Tn} {j:Nat},(∀u,u∈ts->∀q,(l9 u q).size+6<=16 * u.size)->sizes (lS k op n p ts j)+3 * ts.length<=16 * sizes ts
 |[],j,_=>by rw[lS];simp[sizes]
 |t::ts,j,h=>by
  have h1:=agz (k:=k) (op:=op) (n:=n) (p:=p) (j:=j) (h t zmf);have h2:=aeG (k:=k) (op:=op) (n:=n) (p:=p) (ts:=ts) (j:=j+1) λu hu=>h u (zmm _ hu)
  unfold FW at h1;rw[lS,sizes,sizes,oh];omega
def Jj(t:Tn):∀q,(l9 t q).size+6<=16 * t.size:=by refine Tn.ind (P:=λt=>∀q,(l9 t q).size+6<=16 * t.size) ?_ t;intro k op x y ks ih q;have h1:=apr k op ks.length x (aeC op (iJ k op ks.length q ks 0)) (lS k op ks.length q ks 0);have h2:=aeG (k:=k) (op:=op) (n:=ks.length) (p:=q) (ts:=ks) (j:=0) ih;rw[Ul] at h1;rw[l9,Tn.size];omega
def zD(t:Tn)(q:Ps):(EN t q).size+3<=16 * t.size:=by
 have h1:=Jj t q;have h2:=Jj t .top;unfold EN;cases fits t.kind t.op q with
 |true=>rw[aU];omega
 |false=>rw[bZ,Um];omega
def aat:∀(L:List Tn) (j:Nat),(PI L j).size<=sizes L+1
 |[],j=>by simp[PI,sizes,Tn.size]
 |x::l,0=>by simp[PI,sizes];omega
 |x::l,j+1=>by have:=aat l j;simp only[PI,List.getElem?_cons_succ,sizes] at this⊢;omega
def aau(t:Tn):(atP t).size<=16 * t.size:=by
 have h:=zD t .top;have hp:=t.size_pos;unfold atP Jh;refine jK _ ?_ ?_
 ·rw[jc];omega
 ·rw[o7];simp only[sizes,jc];omega
def Un(p:Ps)(L:List Tn):(Xd p L).size<=16 * sizes L+3:=by
 have h:∀L:List Tn,sizes (L.map λt=>EN t p)+3 * L.length<=16 * sizes L:=by
  intro L;induction L with
  |nil=>simp[sizes]
  |cons t l ih=>have:=zD t p;simp only[WH,sizes,oh];omega
 have h1:=Ya (L.map λt=>EN t p);have h2:=h L;rw[List.length_map] at h1;unfold Xd;omega
def abn:∀L:List Tn,sizes (ahT L)=sizes L+L.length
 |[]=>rfl
 |d::l=>by have:=abn l;simp only[ahT,sizes,akI,oh];omega
def aps(L:List Tn):(aCl L).size=sizes L+L.length+6:=by have:=abn L;simp only[aCl,o7,Qz,sizes,jc,akI];omega
def take_size:∀(ks:List Tn) (n:Nat),sizes (ks.take n)<=sizes ks
 |[],n=>by simp[sizes]
 |t::ts,0=>by simp[sizes]
 |t::ts,n+1=>by have:=take_size ts n;simp only[List.take_succ_cons,sizes];omega
def wE{op:Int}(h:abh op=true):wZ op≠0∧op≠61:=by
 have hc:op=60∨op=57∨op=58∨op=59∨op=55∨op=56∨op=99∨op=63∨op=48∨op=47∨op=50∨op=62∨op=49∨op=67∨op=46∨op=45∨op=44:=by simp only[abh,Bool.or_eq_true,beq_iff_eq] at h;omega
 rcases hc with rfl|rfl|rfl|rfl|rfl|rfl|rfl|rfl|rfl|rfl|rfl|rfl|rfl|rfl|rfl|rfl|rfl<;>decide
def A8{op:Int}(h:abj op=true):op=54∨(38<=op∧op<=43):=by simp only[abj,Bool.or_eq_true,vF,beq_iff_eq,decide_eq_true_eq] at h;omega
def aav(k:Int)(op:Int)(t o:aF)(kids:aA)(h:M.aB k op t o kids=some true)(hk:k=1∨k=5∨k=7∨k=13∨k=27∨k=44):Cnt k op o kids.length:=by
 rcases hk with rfl|rfl|rfl|rfl|rfl|rfl
 all_goals
  simp only[M.aB,M.aP,M.bQ,M.bn,M.dL,M.dF,M.bK,M.bC,fB,dn,wW,mP,Int.reduceBEq,reduceLE,reduceLT,reduceSub,reduceAdd,dh,ah] at h;revert h;cases hn0:M.ji t with
  |none=>cases op==0<;>simp
  |some b0=>_
  all_goals try simp only[Int.reduceBEq,reduceLE,reduceLT,reduceSub,reduceAdd,dh,ah]
  all_goals(cases ho0:(op==0)<;>cases ht:(t==[])<;>cases hy:(o==[])<;>cases b0<;>simp_all<;>intros<;>constructor<;>intros<;>first|omega|exact wE ‹_›|exact A8 ‹_›|(rw[aC (n:=op+1) au au] at *;omega)|(simp_all<;>omega))
def aLZ(op:Int)(t o:aF)(kids:aA)(h:M.aB 2 op t o kids=some true):Cnt 2 op o kids.length:=by
 simp only[M.aB,M.aP,M.bQ,M.bn,M.dL,M.dF,M.bK,M.bC,fB,dn,wW,mP,Int.reduceBEq,reduceLE,reduceLT,reduceSub,reduceAdd,dh,ah] at h;revert h;cases hn0:M.lC 3 t 0 with
 |none=>cases op==0<;>simp
 |some b0=>_
 all_goals try simp only[Int.reduceBEq,reduceLE,reduceLT,reduceSub,reduceAdd,dh,ah]
 all_goals(cases ho0:(op==0)<;>cases ht:(t==[])<;>cases hy:(o==[])<;>cases b0<;>simp_all<;>intros<;>constructor<;>intros<;>first|omega|exact wE ‹_›|exact A8 ‹_›|(rw[aC (n:=op+1) au au] at *;omega)|(simp_all<;>omega))
def aL0(op:Int)(t o:aF)(kids:aA)(h:M.aB 3 op t o kids=some true):Cnt 3 op o kids.length:=by
 simp only[M.aB,M.aP,M.bQ,M.bn,M.dL,M.dF,M.bK,M.bC,fB,dn,wW,mP,Int.reduceBEq,reduceLE,reduceLT,reduceSub,reduceAdd,dh,ah] at h;revert h;cases hn0:M.lC 4 t 0 with
 |none=>cases op==0<;>simp
 |some b0=>_
 all_goals try simp only[Int.reduceBEq,reduceLE,reduceLT,reduceSub,reduceAdd,dh,ah]
 all_goals(cases ho0:(op==0)<;>cases ht:(t==[])<;>cases hy:(o==[])<;>cases b0<;>simp_all<;>intros<;>constructor<;>intros<;>first|omega|exact wE ‹_›|exact A8 ‹_›|(rw[aC (n:=op+1) au au] at *;omega)|(simp_all<;>omega))
def aL1(op:Int)(t o:aF)(kids:aA)(h:M.aB 4 op t o kids=some true):Cnt 4 op o kids.length:=by
 simp only[M.aB,M.aP,M.bQ,M.bn,M.dL,M.dF,M.bK,M.bC,fB,dn,wW,mP,Int.reduceBEq,reduceLE,reduceLT,reduceSub,reduceAdd,dh,ah] at h;revert h;cases hn0:M.lC 5 t 0 with
 |none=>cases op==0<;>simp
 |some b0=>_
 all_goals try simp only[Int.reduceBEq,reduceLE,reduceLT,reduceSub,reduceAdd,dh,ah]
 all_goals(cases ho0:(op==0)<;>cases ht:(t==[])<;>cases hy:(o==[])<;>cases b0<;>simp_all<;>intros<;>constructor<;>intros<;>first|omega|exact wE ‹_›|exact A8 ‹_›|(rw[aC (n:=op+1) au au] at *;omega)|(simp_all<;>omega))
def FX(k:Int)(op:Int)(t o:aF)(kids:aA)(h:M.aB k op t o kids=some true)(hk:k=6∨k=14∨k=16∨k=20∨k=22∨k=23∨k=24∨k=25∨k=26∨k=28∨k=29∨k=30∨k=31∨k=33∨k=40∨k=41∨k=45):Cnt k op o kids.length:=by
 rcases hk with rfl|rfl|rfl|rfl|rfl|rfl|rfl|rfl|rfl|rfl|rfl|rfl|rfl|rfl|rfl|rfl|rfl
 all_goals
  simp only[M.aB,M.aP,M.bQ,M.bn,M.dL,M.dF,M.bK,M.bC,fB,dn,wW,mP,Int.reduceBEq,reduceLE,reduceLT,reduceSub,reduceAdd,dh,ah] at h;revert h
  all_goals try simp only[Int.reduceBEq,reduceLE,reduceLT,reduceSub,reduceAdd,dh,ah]
  all_goals(cases ho0:(op==0)<;>cases ht:(t==[])<;>cases hy:(o==[])<;>simp_all<;>intros<;>constructor<;>intros<;>first|omega|exact wE ‹_›|exact A8 ‹_›|(rw[aC (n:=op+1) au au] at *;omega)|(simp_all<;>omega))
def aL2(op:Int)(t o:aF)(kids:aA)(h:M.aB 8 op t o kids=some true):Cnt 8 op o kids.length:=by
 simp only[M.aB,M.aP,M.bQ,M.bn,M.dL,M.dF,M.bK,M.bC,fB,dn,wW,mP,Int.reduceBEq,reduceLE,reduceLT,reduceSub,reduceAdd,dh,ah] at h;revert h;cases hn0:M.kK t with
 |none=>cases op==0<;>simp
 |some b0=>_
 all_goals try simp only[Int.reduceBEq,reduceLE,reduceLT,reduceSub,reduceAdd,dh,ah]
 all_goals(cases ho0:(op==0)<;>cases ht:(t==[])<;>cases hy:(o==[])<;>cases b0<;>simp_all<;>intros<;>constructor<;>intros<;>first|omega|exact wE ‹_›|exact A8 ‹_›|(rw[aC (n:=op+1) au au] at *;omega)|(simp_all<;>omega))
def atQ(k:Int)(op:Int)(t o:aF)(kids:aA)(h:M.aB k op t o kids=some true)(hk:k=9∨k=10):Cnt k op o kids.length:=by
 rcases hk with rfl|rfl
 all_goals
  simp only[M.aB,M.aP,M.bQ,M.bn,M.dL,M.dF,M.bK,M.bC,fB,dn,wW,mP,Int.reduceBEq,reduceLE,reduceLT,reduceSub,reduceAdd,dh,ah] at h;revert h
  all_goals try simp only[Int.reduceBEq,reduceLE,reduceLT,reduceSub,reduceAdd,dh,ah]
  all_goals(cases ho0:(op==51)<;>cases ho1:(op==52)<;>cases ht:(t==[])<;>cases hy:(o==[])<;>simp_all<;>intros<;>constructor<;>intros<;>first|omega|exact wE ‹_›|exact A8 ‹_›|(rw[aC (n:=op+1) au au] at *;omega)|(simp_all<;>omega))
def aCn(op:Int)(t o:aF)(kids:aA)(h:M.aB 11 op t o kids=some true):Cnt 11 op o kids.length:=by
 simp only[M.aB,M.aP,M.bQ,M.bn,M.dL,M.dF,M.bK,M.bC,fB,dn,wW,mP,Int.reduceBEq,reduceLE,reduceLT,reduceSub,reduceAdd,dh,ah] at h;revert h
 all_goals try simp only[Int.reduceBEq,reduceLE,reduceLT,reduceSub,reduceAdd,dh,ah]
 all_goals(cases ho0:(op==55)<;>cases ho1:(op==56)<;>cases ho2:(op==61)<;>cases ht:(t==[])<;>cases hy:(o==[])<;>simp_all<;>intros<;>constructor<;>intros<;>first|omega|exact wE ‹_›|exact A8 ‹_›|(rw[aC (n:=op+1) au au] at *;omega)|(simp_all<;>omega))
def aCo(op:Int)(t o:aF)(kids:aA)(h:M.aB 12 op t o kids=some true):Cnt 12 op o kids.length:=by
 simp only[M.aB,M.aP,M.bQ,M.bn,M.dL,M.dF,M.bK,M.bC,fB,dn,wW,mP,Int.reduceBEq,reduceLE,reduceLT,reduceSub,reduceAdd,dh,ah] at h;revert h
 all_goals try simp only[Int.reduceBEq,reduceLE,reduceLT,reduceSub,reduceAdd,dh,ah]
 all_goals(cases ho0:(abh op)<;>cases ht:(t==[])<;>cases hy:(o==[])<;>simp_all<;>intros<;>constructor<;>intros<;>first|omega|exact wE ‹_›|exact A8 ‹_›|(rw[aC (n:=op+1) au au] at *;omega)|(simp_all<;>omega))
def aCp(op:Int)(t o:aF)(kids:aA)(h:M.aB 15 op t o kids=some true):Cnt 15 op o kids.length:=by
 simp only[M.aB,M.aP,M.bQ,M.bn,M.dL,M.dF,M.bK,M.bC,fB,dn,wW,mP,Int.reduceBEq,reduceLE,reduceLT,reduceSub,reduceAdd,dh,ah] at h;revert h
 all_goals try simp only[Int.reduceBEq,reduceLE,reduceLT,reduceSub,reduceAdd,dh,ah]
 all_goals(cases ho0:(abj op)<;>cases ht:(t==[])<;>cases hy:(o==[])<;>simp_all<;>intros<;>constructor<;>intros<;>first|omega|exact wE ‹_›|exact A8 ‹_›|(rw[aC (n:=op+1) au au] at *;omega)|(simp_all<;>omega))
def aCq(op:Int)(t o:aF)(kids:aA)(h:M.aB 21 op t o kids=some true):Cnt 21 op o kids.length:=by
 simp only[M.aB,M.aP,M.bQ,M.bn,M.dL,M.dF,M.bK,M.bC,fB,dn,wW,mP,Int.reduceBEq,reduceLE,reduceLT,reduceSub,reduceAdd,dh,ah] at h;revert h
 all_goals try simp only[Int.reduceBEq,reduceLE,reduceLT,reduceSub,reduceAdd,dh,ah]
 all_goals(cases ho0:(decide (0<=op))<;>cases ho1:(decide (op<=1))<;>cases ht:(t==[])<;>cases hy:(o==[])<;>cases h1:(o==[62])<;>cases h2:(o==[62,62])<;>cases h3:(o==[124])<;>simp_all<;>intros<;>constructor<;>intros<;>first|omega|exact wE ‹_›|exact A8 ‹_›|(rw[aC (n:=op+1) au au] at *;omega)|(simp_all<;>omega))
def aCr(op:Int)(t o:aF)(kids:aA)(h:M.aB 32 op t o kids=some true):Cnt 32 op o kids.length:=by
 simp only[M.aB,M.aP,M.bQ,M.bn,M.dL,M.dF,M.bK,M.bC,fB,dn,wW,mP,Int.reduceBEq,reduceLE,reduceLT,reduceSub,reduceAdd,dh,ah] at h;revert h;cases hn0:M.ji t with
 |none=>cases op==0<;>simp
 |some b0=>_
 cases hn1:M.ji o with
 |none=>cases b0<;>cases op==0<;>simp
 |some b1=>_
 all_goals try simp only[Int.reduceBEq,reduceLE,reduceLT,reduceSub,reduceAdd,dh,ah]
 all_goals(cases ho0:(op==0)<;>cases ht:(t==[])<;>cases hy:(o==[])<;>cases b0<;>cases b1<;>simp_all<;>intros<;>constructor<;>intros<;>first|omega|exact wE ‹_›|exact A8 ‹_›|(rw[aC (n:=op+1) au au] at *;omega)|(simp_all<;>omega))
def aCs(op:Int)(t o:aF)(kids:aA)(h:M.aB 34 op t o kids=some true):Cnt 34 op o kids.length:=by
 simp only[M.aB,M.aP,M.bQ,M.bn,M.dL,M.dF,M.bK,M.bC,fB,dn,wW,mP,Int.reduceBEq,reduceLE,reduceLT,reduceSub,reduceAdd,dh,ah] at h;revert h;cases hn0:M.lC 2 t 0 with
 |none=>cases op==0<;>simp
 |some b0=>_
 all_goals try simp only[Int.reduceBEq,reduceLE,reduceLT,reduceSub,reduceAdd,dh,ah]
 all_goals(cases ho0:(op==0)<;>cases ht:(t==[])<;>cases hy:(o==[])<;>cases b0<;>simp_all<;>intros<;>constructor<;>intros<;>first|omega|exact wE ‹_›|exact A8 ‹_›|(rw[aC (n:=op+1) au au] at *;omega)|(simp_all<;>omega))
def aCt(op:Int)(t o:aF)(kids:aA)(h:M.aB 42 op t o kids=some true):Cnt 42 op o kids.length:=by have hc:=ahQ h;have hr:=hc.rule rfl;constructor<;>intros<;>omega
def aCu(op:Int)(t o:aF)(kids:aA)(h:M.aB 43 op t o kids=some true):Cnt 43 op o kids.length:=by have hc:=ahQ h;have hr:=hc.range rfl;constructor<;>intros<;>omega
def Uo(k:Int)(op:Int)(t o:aF)(kids:aA)(j:Nat)(d:Int)(hj:j<kids.length)(hl:kids.length<=400)(hc:Cnt k op o kids.length)(h:M.aH k op t o kids (j:Int) d=some true)(hk:k=1∨k=2∨k=3∨k=4∨k=16∨k=22∨k=25∨k=26∨k=34):yZ (cls k op kids.length j) d:=by
 rcases hk with rfl|rfl|rfl|rfl|rfl|rfl|rfl|rfl|rfl
 all_goals
  have hw:i64.wrap ((kids.length:Int) - 1)=(kids.length:Int) - 1:=aC au au;simp only[M.aH,M.aI,bI,bD,bJ,aT,fB,dn,Int.reduceBEq,reduceLE,reduceLT,reduceSub,reduceAdd,dh,ah] at h
  try rw[hw] at h
  have:=hc.non au;omega
def DY(k:Int)(op:Int)(t o:aF)(kids:aA)(j:Nat)(d:Int)(hj:j<kids.length)(hl:kids.length<=400)(hc:Cnt k op o kids.length)(h:M.aH k op t o kids (j:Int) d=some true)(hk:k=5∨k=6∨k=7∨k=8∨k=11∨k=12∨k=13∨k=14∨k=20∨k=21∨k=23∨k=24∨k=27∨k=32∨k=33∨k=40∨k=41∨k=45):yZ (cls k op kids.length j) d:=by
 rcases hk with rfl|rfl|rfl|rfl|rfl|rfl|rfl|rfl|rfl|rfl|rfl|rfl|rfl|rfl|rfl|rfl|rfl|rfl
 all_goals
  have hw:i64.wrap ((kids.length:Int) - 1)=(kids.length:Int) - 1:=aC au au;simp only[M.aH,M.aI,bI,bD,bJ,aT,fB,dn,Int.reduceBEq,reduceLE,reduceLT,reduceSub,reduceAdd,dh,ah] at h
  try rw[hw] at h
  simp[cls,yZ,rC,Tc,WC,isIt,Bool.cond_eq_ite] at h⊢
  all_goals first|omega|((repeat' split at h)<;>simp_all<;>omega)
def atS(k:Int)(op:Int)(t o:aF)(kids:aA)(j:Nat)(d:Int)(hj:j<kids.length)(hl:kids.length<=400)(hc:Cnt k op o kids.length)(h:M.aH k op t o kids (j:Int) d=some true)(hk:k=9∨k=10):yZ (cls k op kids.length j) d:=by
 rcases hk with rfl|rfl
 all_goals
  have hw:i64.wrap ((kids.length:Int) - 1)=(kids.length:Int) - 1:=aC au au;simp only[M.aH,M.aI,bI,bD,bJ,aT,fB,dn,Int.reduceBEq,reduceLE,reduceLT,reduceSub,reduceAdd,dh,ah] at h
  try rw[hw] at h
  have hn:=hc.one au;obtain rfl:j=0:=au
  all_goals(simp[cls,yZ,rC,Tc,WC,isIt,Bool.cond_eq_ite] at h⊢<;>first|omega|(repeat' split at h)<;>simp_all<;>omega)
def amF(k:Int)(op:Int)(t o:aF)(kids:aA)(j:Nat)(d:Int)(hj:j<kids.length)(hl:kids.length<=400)(hc:Cnt k op o kids.length)(h:M.aH k op t o kids (j:Int) d=some true)(hk:k=15∨k=29∨k=30):yZ (cls k op kids.length j) d:=by
 rcases hk with rfl|rfl|rfl
 all_goals
  have hw:i64.wrap ((kids.length:Int) - 1)=(kids.length:Int) - 1:=aC au au;simp only[M.aH,M.aI,bI,bD,bJ,aT,fB,dn,Int.reduceBEq,reduceLE,reduceLT,reduceSub,reduceAdd,dh,ah] at h
  try rw[hw] at h
  have hn:=hc.two au;obtain rfl|rfl:j=0∨j=1:=au
  all_goals(simp[cls,yZ,rC,Tc,WC,isIt,Bool.cond_eq_ite] at h⊢<;>first|omega|(repeat' split at h)<;>simp_all<;>omega)
def aCv(op:Int)(t o:aF)(kids:aA)(j:Nat)(d:Int)(hj:j<kids.length)(hl:kids.length<=400)(hc:Cnt 28 op o kids.length)(h:M.aH 28 op t o kids (j:Int) d=some true):yZ (cls 28 op kids.length j) d:=by
 have hw:i64.wrap ((kids.length:Int) - 1)=(kids.length:Int) - 1:=aC au au;simp only[M.aH,M.aI,bI,bD,bJ,aT,fB,dn,Int.reduceBEq,reduceLE,reduceLT,reduceSub,reduceAdd,dh,ah] at h
 try rw[hw] at h
 have hn:=hc.cnd au;obtain rfl|rfl|rfl:j=0∨j=1∨j=2:=au
 all_goals(simp[cls,yZ,rC,Tc,WC,isIt,Bool.cond_eq_ite] at h⊢<;>first|omega|(repeat' split at h)<;>simp_all<;>omega)
def aCw(op:Int)(t o:aF)(kids:aA)(j:Nat)(d:Int)(hj:j<kids.length)(hl:kids.length<=400)(hc:Cnt 31 op o kids.length)(h:M.aH 31 op t o kids (j:Int) d=some true):yZ (cls 31 op kids.length j) d:=by
 have hw:i64.wrap ((kids.length:Int) - 1)=(kids.length:Int) - 1:=aC au au;simp only[M.aH,M.aI,bI,bD,bJ,aT,fB,dn,Int.reduceBEq,reduceLE,reduceLT,reduceSub,reduceAdd,dh,ah] at h
 try rw[hw] at h
 have hn:=hc.four au;obtain rfl|rfl|rfl|rfl:j=0∨j=1∨j=2∨j=3:=au
 all_goals(simp[cls,yZ,rC,Tc,WC,isIt,Bool.cond_eq_ite] at h⊢<;>first|omega|(repeat' split at h)<;>simp_all<;>omega)
def aCx(op:Int)(t o:aF)(kids:aA)(j:Nat)(d:Int)(hj:j<kids.length)(hl:kids.length<=400)(hc:Cnt 42 op o kids.length)(h:M.aH 42 op t o kids (j:Int) d=some true):yZ (cls 42 op kids.length j) d:=by
 have hw:i64.wrap ((kids.length:Int) - 1)=(kids.length:Int) - 1:=aC au au;simp only[M.aH,M.aI,bI,bD,bJ,aT,fB,dn,Int.reduceBEq,reduceLE,reduceLT,reduceSub,reduceAdd,dh,ah] at h
 try rw[hw] at h
 rcases hc.rule rfl with⟨rfl,h1⟩|⟨rfl,h1⟩|⟨rfl,h1⟩
 ·obtain rfl:j=0:=au
  all_goals(simp[cls,yZ,rC,Tc,WC,isIt,Bool.cond_eq_ite,h1] at h⊢<;>first|omega|(repeat' split at h)<;>simp_all<;>omega)
 ·obtain rfl:j=0:=au
  all_goals(simp[cls,yZ,rC,Tc,WC,isIt,Bool.cond_eq_ite,h1] at h⊢<;>first|omega|(repeat' split at h)<;>simp_all<;>omega)
 ·obtain rfl|rfl:j=0∨j=1:=au
  all_goals(simp[cls,yZ,rC,Tc,WC,isIt,Bool.cond_eq_ite,h1] at h⊢<;>first|omega|(repeat' split at h)<;>simp_all<;>omega)
def aCy(op:Int)(t o:aF)(kids:aA)(j:Nat)(d:Int)(hj:j<kids.length)(hl:kids.length<=400)(hc:Cnt 43 op o kids.length)(h:M.aH 43 op t o kids (j:Int) d=some true):yZ (cls 43 op kids.length j) d:=by
 have hw:i64.wrap ((kids.length:Int) - 1)=(kids.length:Int) - 1:=aC au au;simp only[M.aH,M.aI,bI,bD,bJ,aT,fB,dn,Int.reduceBEq,reduceLE,reduceLT,reduceSub,reduceAdd,dh,ah] at h
 try rw[hw] at h
 rcases hc.range rfl with⟨rfl,h1⟩|⟨rfl,h1⟩
 ·obtain rfl|rfl:j=0∨j=1:=au
  all_goals(simp[cls,yZ,rC,Tc,WC,isIt,Bool.cond_eq_ite,h1] at h⊢<;>first|omega|(repeat' split at h)<;>simp_all<;>omega)
 ·obtain rfl|rfl|rfl:j=0∨j=1∨j=2:=au
  all_goals(simp[cls,yZ,rC,Tc,WC,isIt,Bool.cond_eq_ite,h1] at h⊢<;>first|omega|(repeat' split at h)<;>simp_all<;>omega)
def aCz(op:Int)(t o:aF)(kids:aA)(j:Nat)(d:Int)(hj:j<kids.length)(hl:kids.length<=400)(hc:Cnt 44 op o kids.length)(h:M.aH 44 op t o kids (j:Int) d=some true):yZ (cls 44 op kids.length j) d:=by
 have hw:i64.wrap ((kids.length:Int) - 1)=(kids.length:Int) - 1:=aC au au;simp only[M.aH,M.aI,bI,bD,bJ,aT,fB,dn,Int.reduceBEq,reduceLE,reduceLT,reduceSub,reduceAdd,dh,ah] at h
 try rw[hw] at h
 by_cases h1:j+1=kids.length
 ·have e:((j:Int)==(kids.length:Int) - 1)=true:=by rw[beq_iff_eq];omega
  rw[e] at h;simp[cls,yZ,h1,Bool.cond_eq_ite] at h⊢
  first|omega|skip
 ·have e:((j:Int)==(kids.length:Int) - 1)=false:=by rw[Lu];omega
  rw[e] at h;simp[cls,yZ,h1,Bool.cond_eq_ite] at h⊢
  first|omega|skip
def akJ{k op:Int}{t o:aF}{kids:aA}(h:M.aB k op t o kids=some true):aaq k:=by
 by_cases hk:aaq k
 ·exact hk
 ·exfalso;have e1:(decide (k>=1) && decide (k<=16))=false:=by
   cases hq:(decide (k>=1) && decide (k<=16)) with
   |false=>rfl
   |true=>rw[vF,decide_eq_true_eq,decide_eq_true_eq] at hq;exact absurd (Or.inl hq) hk
  have e2:(decide (k>=20) && decide (k<=34))=false:=by
   cases hq:(decide (k>=20) && decide (k<=34)) with
   |false=>rfl
   |true=>rw[vF,decide_eq_true_eq,decide_eq_true_eq] at hq;exact absurd (Or.inr (Or.inl hq)) hk
  have e3:(decide (k>=40) && decide (k<=45))=false:=by
   cases hq:(decide (k>=40) && decide (k<=45)) with
   |false=>rfl
   |true=>rw[vF,decide_eq_true_eq,decide_eq_true_eq] at hq;exact absurd (Or.inr (Or.inr hq)) hk
  simp only[M.aB,M.aP,fB,e1,e2,e3,ah,bZ] at h;cases hm:M.bQ k op t o kids with
  |none=>rw[hm] at h;cases h
  |some r=>rw[hm,ah] at h;cases h
def aCA{k op:Int}{t o:aF}{kids:aA}(h:M.aB k op t o kids=some true):Cnt k op o kids.length:=by
 have hk:k=1∨k=2∨k=3∨k=4∨k=5∨k=6∨k=7∨k=8∨k=9∨k=10∨k=11∨k=12∨k=13∨k=14∨k=15∨k=16∨k=20∨k=21∨k=22∨k=23∨k=24∨k=25∨k=26∨k=27∨k=28∨k=29∨k=30∨k=31∨k=32∨k=33∨k=34∨k=40∨k=41∨k=42∨k=43∨k=44∨k=45:=by have:=akJ h;unfold aaq at this;omega
 rcases hk with rfl|rfl|rfl|rfl|rfl|rfl|rfl|rfl|rfl|rfl|rfl|rfl|rfl|rfl|rfl|rfl|rfl|rfl|rfl|rfl|rfl|rfl|rfl|rfl|rfl|rfl|rfl|rfl|rfl|rfl|rfl|rfl|rfl|rfl|rfl|rfl|rfl
 ·exact aav _ _ _ _ _ h au
 ·exact aLZ _ _ _ _ h
 ·exact aL0 _ _ _ _ h
 ·exact aL1 _ _ _ _ h
 ·exact aav _ _ _ _ _ h au
 ·exact FX _ _ _ _ _ h au
 ·exact aav _ _ _ _ _ h au
 ·exact aL2 _ _ _ _ h
 ·exact atQ _ _ _ _ _ h au
 ·exact atQ _ _ _ _ _ h au
 ·exact aCn _ _ _ _ h
 ·exact aCo _ _ _ _ h
 ·exact aav _ _ _ _ _ h au
 ·exact FX _ _ _ _ _ h au
 ·exact aCp _ _ _ _ h
 ·exact FX _ _ _ _ _ h au
 ·exact FX _ _ _ _ _ h au
 ·exact aCq _ _ _ _ h
 ·exact FX _ _ _ _ _ h au
 ·exact FX _ _ _ _ _ h au
 ·exact FX _ _ _ _ _ h au
 ·exact FX _ _ _ _ _ h au
 ·exact FX _ _ _ _ _ h au
 ·exact aav _ _ _ _ _ h au
 ·exact FX _ _ _ _ _ h au
 ·exact FX _ _ _ _ _ h au
 ·exact FX _ _ _ _ _ h au
 ·exact FX _ _ _ _ _ h au
 ·exact aCr _ _ _ _ h
 ·exact FX _ _ _ _ _ h au
 ·exact aCs _ _ _ _ h
 ·exact FX _ _ _ _ _ h au
 ·exact FX _ _ _ _ _ h au
 ·exact aCt _ _ _ _ h
 ·exact aCu _ _ _ _ h
 ·exact aav _ _ _ _ _ h au
 ·exact FX _ _ _ _ _ h au
def aCB{k op:Int}{t o:aF}{kids:aA}{j:Nat}{d:Int}(hk:aaq k)(hj:j<kids.length)(hl:kids.length<=400)(hc:Cnt k op o kids.length)(h:M.aH k op t o kids (j:Int) d=some true):yZ (cls k op kids.length j) d:=by
 have hk:k=1∨k=2∨k=3∨k=4∨k=5∨k=6∨k=7∨k=8∨k=9∨k=10∨k=11∨k=12∨k=13∨k=14∨k=15∨k=16∨k=20∨k=21∨k=22∨k=23∨k=24∨k=25∨k=26∨k=27∨k=28∨k=29∨k=30∨k=31∨k=32∨k=33∨k=34∨k=40∨k=41∨k=42∨k=43∨k=44∨k=45:=by unfold aaq at hk;omega
 rcases hk with rfl|rfl|rfl|rfl|rfl|rfl|rfl|rfl|rfl|rfl|rfl|rfl|rfl|rfl|rfl|rfl|rfl|rfl|rfl|rfl|rfl|rfl|rfl|rfl|rfl|rfl|rfl|rfl|rfl|rfl|rfl|rfl|rfl|rfl|rfl|rfl|rfl
 ·exact Uo _ _ _ _ _ _ _ hj hl hc h au
 ·exact Uo _ _ _ _ _ _ _ hj hl hc h au
 ·exact Uo _ _ _ _ _ _ _ hj hl hc h au
 ·exact Uo _ _ _ _ _ _ _ hj hl hc h au
 ·exact DY _ _ _ _ _ _ _ hj hl hc h au
 ·exact DY _ _ _ _ _ _ _ hj hl hc h au
 ·exact DY _ _ _ _ _ _ _ hj hl hc h au
 ·exact DY _ _ _ _ _ _ _ hj hl hc h au
 ·exact atS _ _ _ _ _ _ _ hj hl hc h au
 ·exact atS _ _ _ _ _ _ _ hj hl hc h au
 ·exact DY _ _ _ _ _ _ _ hj hl hc h au
 ·exact DY _ _ _ _ _ _ _ hj hl hc h au
 ·exact DY _ _ _ _ _ _ _ hj hl hc h au
 ·exact DY _ _ _ _ _ _ _ hj hl hc h au
 ·exact amF _ _ _ _ _ _ _ hj hl hc h au
 ·exact Uo _ _ _ _ _ _ _ hj hl hc h au
 ·exact DY _ _ _ _ _ _ _ hj hl hc h au
 ·exact DY _ _ _ _ _ _ _ hj hl hc h au
 ·exact Uo _ _ _ _ _ _ _ hj hl hc h au
 ·exact DY _ _ _ _ _ _ _ hj hl hc h au
 ·exact DY _ _ _ _ _ _ _ hj hl hc h au
 ·exact Uo _ _ _ _ _ _ _ hj hl hc h au
 ·exact Uo _ _ _ _ _ _ _ hj hl hc h au
 ·exact DY _ _ _ _ _ _ _ hj hl hc h au
 ·exact aCv _ _ _ _ _ _ hj hl hc h
 ·exact amF _ _ _ _ _ _ _ hj hl hc h au
 ·exact amF _ _ _ _ _ _ _ hj hl hc h au
 ·exact aCw _ _ _ _ _ _ hj hl hc h
 ·exact DY _ _ _ _ _ _ _ hj hl hc h au
 ·exact DY _ _ _ _ _ _ _ hj hl hc h au
 ·exact Uo _ _ _ _ _ _ _ hj hl hc h au
 ·exact DY _ _ _ _ _ _ _ hj hl hc h au
 ·exact DY _ _ _ _ _ _ _ hj hl hc h au
 ·exact aCx _ _ _ _ _ _ hj hl hc h
 ·exact aCy _ _ _ _ _ _ hj hl hc h
 ·exact aCz _ _ _ _ _ _ hj hl hc h
 ·exact DY _ _ _ _ _ _ _ hj hl hc h au
def Tf{α:Type}{p:Nat->α->Bool}:∀{l:List α} {i j:Nat} {x:α},OU p l i=true->l[j]? =some x->p (i+j) x=true
 |[],_,j,_,_,h=>by simp at h
 |y::l,i,0,x,h,e=>by rw[OU,vF] at h;cases e;exact h.1
 |y::l,i,j+1,x,h,e=>by
  rw[OU,vF] at h;rw[List.getElem?_cons_succ] at e;have:=Tf h.2 e
  rwa [show i+1+j=i+(j+1) by omega] at this
def atT{k op:Int}{n:Nat}:∀{ks:List Tn} {j:Nat},(∀i t,ks[i]? =some t->yZ (cls k op n (j+i)) t.kind∧zH t)->oks k op n ks j
 |[],_,_=>by rw[oks];trivial
 |t::ts,j,h=>by
  rw[oks];have h0:=h 0 t rfl;refine⟨h0.1,h0.2,atT λi u hu=> ?_⟩;have:=h (i+1) u (by rw[List.getElem?_cons_succ];exact hu)
  rwa [show j+(i+1)=j+1+i by omega] at this
def ayn{l:List Nd}(hall:OU (np l) l 0=true)(hsm:∀n,n∈l->Small n)(hkl:∀n,n∈l->n.kids.length<=400)(t:Tn):∀b,Lies l b t->zH t:=by
 refine Tn.ind (P:=λt=>∀b,Lies l b t->zH t) ?_ t;intro k op x y ks ih b h;have hr:=h.root;have hm:=Ib hr;have hn:=Tf hall hr;unfold np at hn;rw[vF] at hn;have hf:=(aex (hsm _ hm) (hkl _ hm)).1;rw[hn.1] at hf;have hc:=aCA hf;rw[aZ,dP] at hc;have hkn:=akJ hf;rw[zH];refine⟨hkn,hc,atT λi u hu=>⟨?_,ih u (Ib hu) _ (Lies.Jg h hu)⟩⟩;have he:=Uj (b:=b) hu;have hlt:=(Jm.1 hu).1;have hk:=Tf hn.2 he;have hroot:=Lies.root' (Lies.Jg h hu);unfold kp at hk;rw[RX] at hk;have hnd:(UU l (b+sizes (ks.take i)+sizes u.kids)).kind=u.kind:=by rw[UU,hroot]
 rw[hnd] at hk;have hko:=(amC (hsm _ hm) (hkl _ hm) hn.1 (0+i) (by rw[dP];omega) u.kind).1;rw[hk] at hko;have:=aCB (j:=0+i) hkn (by rw[aZ,dP];omega) (by rw[aZ];exact hkl _ hm) (by rw[aZ,dP];exact hc) hko;rw[aZ,dP] at this;exact this
def Yb{t:Tn}(h:zC (t.flat 0)=true)(hsm:∀n,n∈t.flat 0->Small n):zH t:=by unfold zC at h;rw[vF,vF] at h;obtain⟨r,hv⟩:=aes h.1;exact ayn h.2.2 hsm hv.Zb t 0 (Lies.whole t)
def aeH(k n:Int)(x:aF)(c:Nat):Bool:=
 bif(!(k==4) && !(n==0))||(!(k==1) && !(x==[])) then false else
 bif k==1 then !(hasB 10 x) && Nat.beq c 0 else bif k==2||k==3 then Nat.beq c 0 else bif k==4 then(decide (0<=n) && decide (n<=40)) && Nat.beq c 1 else
 bif k==5 then Nat.beq c 1 else k==6
mutual
def Yn:Tn->Bool
 | .mk k n x _ ks=>DZ ks && aeH k n x ks.length
def DZ:List Tn->Bool
 |[]=>true
 |t::ts=>(Yn t) && DZ ts
end
mutual
def Om:Tn->Option (aF)
 | .mk k _ x _ ks=>bif k==1 then some x else bif k==2 then some [32] else bif k==3 then none else LZ ks
def LZ:List Tn->Option (aF)
 |[]=>some []
 |t::ts=>match(Om t) with
  |none=>none
  |some a=>match LZ ts with
   |none=>none
   |some b=>some (a++b)
end
mutual
def bh:Tn->Nat×Bool
 | .mk k _ x _ ks=>bif k==2||k==3 then(0,true) else((bif k==1 then x.length else 0)+(bhs ks).1,(bhs ks).2)
def bhs:List Tn->Nat×Bool
 |[]=>(0,false)
 |t::ts=>bif(bh t).2 then(bh t) else((bh t).1+(bhs ts).1,(bhs ts).2)
end
abbrev Pc:=Tn×Int×Bool
def aWf(w col:Int)(t:Tn)(st:List Pc):Bool:=match(Om t) with
 |some s=>decide ((s.length:Int)+(bhs (st.map (·.1))).1<=w - col)
 |none=>false
def brk(out:aF)(i:Int):aF:=out++(10::List.replicate i.toNat 32)
def lay(w:Int):Nat->List Pc->aF->Int->aF
 |0,_,out,_=>out
 |_+1,[],out,_=>out
 |n+1,(.mk k m x y ks,i,f)::st,out,col=>
  bif k==1 then lay w n st (out++x) (col+x.length) else
  bif k==2 && f then lay w n st (out++[32]) (col+1) else
  bif k==2||k==3 then lay w n st (brk out i) i else
  bif k==4 then lay w n (ks.map (λt=>(t,i+m,f))++st) out col else
  bif k==5 then lay w n (ks.map (λt=>(t,i,f||aWf w col (.mk k m x y ks) st))++st) out col else
  lay w n (ks.map (λt=>(t,i,f))++st) out col
def Yc{a b:Int×Int}(c:Bool)(ha:(1<=a.1∧a.1<=14)∧1<=a.2∧a.2<=14)(hb:(1<=b.1∧b.1<=14)∧1<=b.2∧b.2<=14):(1<=(bif c then a else b).1∧(bif c then a else b).1<=14)∧1<=(bif c then a else b).2∧(bif c then a else b).2<=14:=by cases c<;>assumption
def akK(op:Int):(1<=(sides op).1∧(sides op).1<=14)∧1<=(sides op).2∧(sides op).2<=14:=by unfold sides;exact Yc _ (by decide) (Yc _ (by decide) (Yc _ (by decide) (Yc _ (by decide) (Yc _ (by decide) (Yc _ (by decide) (Yc _ (by decide) (by decide)))))))
def ahU(k op:Int)(j:Nat):1<=Uk k op j∧Uk k op j<=14:=by have h:=akK op;unfold Uk;exact Hz _ (Hz _ (by decide) (by decide)) (Hz _ (Hz _ (by decide) (by decide)) (Hz _ (by decide) (Hz _ (by decide) (Hz _ (Hz _ h.1 h.2) (by decide)))))
def rW{k op:Int}{n j:Nat}{p:Ps}(hp:kX p=true)(hj:j<n)(hl:lvl k op≠0):kX (dG k op n j p)=true:=by
 have h1:Nat.blt j n=true:=by rw[Nat.blt_eq];exact hj
 have h2:(lvl k op==0)=false:=by simpa using hl
 unfold dG;rw[hp,h1,h2];simp only[Bool.not_true,Bool.or_false,bZ];cases(lvl k op==15||(k==13 && Nat.blt 1 n)) with
 |true=>rfl
 |false=>
  have hr:=ahU k op j;simp only[bZ,kX];rw[zdt hr.1,zdt (show Uk k op j<=15 by omega)]
  by_cases h6:k=6
  ·subst h6;rfl
  ·have:(k==6)=false:=by simpa using h6
   rw[this];rfl
def VG{k op:Int}{n:Nat}{p q:Ps}(h:∀j,j<n->dG k op n j p=dG k op n j q):∀(ts:List Tn) (j:Nat),j+ts.length=n->iJ k op n p ts j=iJ k op n q ts j
 |[],_,_=>by rw[iJ,iJ]
 |t::ts,j,hj=>by rw[oh] at hj;rw[iJ,iJ,h j au,VG h ts (j+1) au]
def abo{k op:Int}{n:Nat}{p q:Ps}(h:∀j,j<n->dG k op n j p=dG k op n j q):∀(ts:List Tn) (j:Nat),j+ts.length=n->lS k op n p ts j=lS k op n q ts j
 |[],_,_=>by rw[lS,lS]
 |t::ts,j,hj=>by rw[oh] at hj;rw[lS,lS,h j au,abo h ts (j+1) au]
def FY{k op:Int}{n j:Nat}{p:Ps}(hp:kX p=true)(hj:j<n)(hl:lvl k op=15):dG k op n j p=.top:=by
 have h1:Nat.blt j n=true:=by rw[Nat.blt_eq];exact hj
 unfold dG;rw[hp,h1,hl];rfl
def Ur{k op:Int}(h:13<=lvl k op)(he:1<=k∧k<=15):lvl k op=15∨k=6∨k=9∨k=10:=by
 have hk:k=1∨k=2∨k=3∨k=4∨k=5∨k=6∨k=7∨k=8∨k=9∨k=10∨k=11∨k=12∨k=13∨k=14∨k=15:=au;rcases hk with rfl|rfl|rfl|rfl|rfl|rfl|rfl|rfl|rfl|rfl|rfl|rfl|rfl|rfl|rfl
 all_goals first
  |(left;rfl)
  |(right;simp;done)
  |(exfalso;have h2:=(aeE op).2;have h3:lvl 12 op=wZ op:=rfl;omega)
  |(exfalso;revert h;simp[lvl];done)
def ahV{k op:Int}(h:k=1∨k=5∨k=6):13<=lvl k op∧(1<=k∧k<=15):=by rcases h with rfl|rfl|rfl<;>simp[lvl]
def abp{k op:Int}{a b c:Bool}{i j:Bool}(hl:lvl k op≠0):fits k op ⟨14,true,a,b,false⟩=fits k op ⟨14,true,i,j,false⟩:=by
 have e:∀a b,fits k op ⟨14,true,a,b,false⟩=(k==9||decide (14<=lvl k op)):=by
  intro a b;have h2:(lvl k op==0)=false:=by simpa using hl
  unfold fits;rw[h2,show kX ⟨14,true,a,b,false⟩=true from rfl];simp only[Bool.not_true,Bool.or_false,bZ,Bool.false_and,Bool.true_and]
  by_cases h13:k=13
  ·subst h13;have:lvl 13 op=5:=rfl;rw[this];cases a<;>cases b<;>rfl
  ·have e13:(k==13)=false:=by simpa using h13
   rw[e13,Bool.and_false,bZ]
   by_cases h12:k=12∧op=62
   ·obtain⟨rfl,rfl⟩:=h12;cases b<;>rfl
   ·have e12:(k==12 && op==62)=false:=by rw[Bool.and_eq_false_iff,Lu,Lu];omega
    rw[e12,Bool.and_false,bZ]
 rw[e,e]
def amG(t:Tn):(zH t)->13<=lvl t.kind t.op->(RY t)->∀p q,kX p=true->kX q=true->uF t p=uF t q:=by
 refine Tn.ind (P:=λt=>(zH t)->13<=lvl t.kind t.op->(RY t)->∀p q,kX p=true->kX q=true->uF t p=uF t q) ?_ t;intro k op x y ks ih hok hl he p q hp hq;simp only[Tn.kind,Tn.op] at hl;simp only[RY,Tn.kind] at he;rw[uF,uF];congr 1;rcases Ur hl he with h|h
 ·exact VG (λj hj=>by rw[FY hp hj h,FY hq hj h]) ks 0 au
 ·have hn:ks.length=1:=(Ji hok).one au;obtain⟨u,rfl⟩:=zlo.1 hn;obtain⟨hue,huo⟩:=UL hok he (i:=0) (t:=u) rfl;obtain⟨huc,_⟩:=OV hok (i:=0) (t:=u) rfl;have hlu:1<=lvl u.kind u.op∧lvl u.kind u.op<=15:=by cases u;exact NT hue (Ji huo)
  have hlk:lvl k op≠0:=au;have kp:=rW (n:=[u].length) (j:=0) hp (by simp) hlk;have kq:=rW (n:=[u].length) (j:=0) hq (by simp) hlk;rw[iJ,iJ,iJ,iJ];congr 1;rcases h with rfl|h
  ·have e1:∀r:Ps,kX r=true->dG 6 op [u].length 0 r=⟨14,true,r.qK,r.qL,false⟩:=by intro r hr;unfold dG;rw[hr];rfl
   rw[e1 p hp] at kp⊢;rw[e1 q hq] at kq⊢;have ht:oH 6 0=false:=rfl;rw[ht,Bool.false_or,Bool.false_or,abp (c:=false) (i:=q.qK) (j:=q.qL) au];cases hf:fits u.kind u.op ⟨14,true,q.qK,q.qL,false⟩ with
   |false=>rfl
   |true=>
    have aCC:13<=lvl u.kind u.op:=by
     unfold fits at hf;revert hf;cases(!(kX ⟨14,true,q.qK,q.qL,false⟩)||lvl u.kind u.op==0)<;>cases(q.qK && u.kind==13)<;>cases(q.qL &&(u.kind==12 && u.op==62))<;>simp;intro hf;rcases hf with h9|h14
     ·rw[h9];exact(show(13:Int)<=13 by omega)
     ·omega
    rw[aU,aU];exact ih u (by simp) huo aCC hue _ _ kp kq
  ·have ht:oH k 0=true:=by rcases h with rfl|rfl<;>rfl
   rw[ht,Bool.true_or,aU,Bool.true_or,aU];have hc6:cls k op [u].length 0=6:=by unfold cls;rw[if_pos au]
   rw[hc6] at huc;exact ih u (by simp) huo (ahV huc).1 hue _ _ kp kq
def amH(t:Tn):(zH t)->13<=lvl t.kind t.op->(RY t)->∀p q,kX p=true->kX q=true->l9 t p=l9 t q:=by
 refine Tn.ind (P:=λt=>(zH t)->13<=lvl t.kind t.op->(RY t)->∀p q,kX p=true->kX q=true->l9 t p=l9 t q) ?_ t;intro k op x y ks ih hok hl he p q hp hq;simp only[Tn.kind,Tn.op] at hl;simp only[RY,Tn.kind] at he;have hT:iJ k op ks.length p ks 0=iJ k op ks.length q ks 0∨k=6∨k=9∨k=10:=by
  rcases Ur hl he with h|h
  ·exact .inl (VG (λj hj=>by rw[FY hp hj h,FY hq hj h]) ks 0 au)
  ·exact .inr h
 rw[l9,l9];have hg:∀g g' L,k≠11->QG k op ks.length x g L=QG k op ks.length x g' L:=by
  intro g g' L h11;have:(k==11)=false:=by simpa using h11
  unfold QG;rw[this];rfl
 have h11:k≠11:=by
  rcases Ur hl he with h|h
  ·rintro rfl;exact absurd h (by change¬(11:Int)=15;decide)
  ·omega
 rw[hg _ (aeC op (iJ k op ks.length q ks 0)) _ h11];congr 1;rcases Ur hl he with h|h
 ·exact abo (λj hj=>by rw[FY hp hj h,FY hq hj h]) ks 0 au
 ·have hn:ks.length=1:=(Ji hok).one au;obtain⟨u,rfl⟩:=zlo.1 hn;obtain⟨hue,huo⟩:=UL hok he (i:=0) (t:=u) rfl;obtain⟨huc,_⟩:=OV hok (i:=0) (t:=u) rfl;have hlu:1<=lvl u.kind u.op∧lvl u.kind u.op<=15:=by cases u;exact NT hue (Ji huo)
  have hlk:lvl k op≠0:=au;have kp:=rW (n:=[u].length) (j:=0) hp (by simp) hlk;have kq:=rW (n:=[u].length) (j:=0) hq (by simp) hlk;rw[lS,lS,lS,lS];congr 1;rcases h with rfl|h
  ·have e1:∀r:Ps,kX r=true->dG 6 op [u].length 0 r=⟨14,true,r.qK,r.qL,false⟩:=by intro r hr;unfold dG;rw[hr];rfl
   rw[e1 p hp] at kp⊢;rw[e1 q hq] at kq⊢;have ht:oH 6 0=false:=rfl;rw[ht,Bool.false_or,Bool.false_or,abp (c:=false) (i:=q.qK) (j:=q.qL) au];cases hf:fits u.kind u.op ⟨14,true,q.qK,q.qL,false⟩ with
   |false=>rfl
   |true=>
    have aCC:13<=lvl u.kind u.op:=by
     unfold fits at hf;revert hf;cases(!(kX ⟨14,true,q.qK,q.qL,false⟩)||lvl u.kind u.op==0)<;>cases(q.qK && u.kind==13)<;>cases(q.qL &&(u.kind==12 && u.op==62))<;>simp;intro hf;rcases hf with h9|h14
     ·rw[h9];exact(show(13:Int)<=13 by omega)
     ·omega
    rw[aU,aU];exact ih u (by simp) huo aCC hue _ _ kp kq
  ·have ht:oH k 0=true:=by rcases h with rfl|rfl<;>rfl
   rw[ht,Bool.true_or,aU,Bool.true_or,aU];have hc6:cls k op [u].length 0=6:=by unfold cls;rw[if_pos au]
   rw[hc6] at huc;exact ih u (by simp) huo (ahV huc).1 hue _ _ kp kq
def akL(c:UInt8)(a b:aF):hasB c (a++b)=(hasB c a||hasB c b):=by simp[hasB]
def Ti(c d:UInt8)(b:aF):hasB c (d::b)=((d==c)||hasB c b):=by simp[hasB]
def n10{c:UInt8}(h:(c.toNat:Int)≠10):(c==10)=false:=Lu.2 λe=>h (by rw[e];rfl)
def aCD{s:aF}(h:∀i:Nat,i<s.length->JD s (i:Int)≠10):hasB 10 s=false:=by
 cases hb:hasB 10 s with
 |false=>rfl
 |true=>
  unfold hasB at hb;rw[List.any_eq_true] at hb;obtain⟨c,hc,he⟩:=hb;obtain⟨i,hi,hx⟩:=List.mem_iff_getElem.1 hc;have:=h i hi;rw[NQ,List.getElem?_eq_getElem hi,hx] at this;have aWg:c=10:=by simpa using he
  subst aWg;exact absurd rfl this
def az5{p:UInt8->Bool}:∀{l:aF} {j:Nat},j<(l.takeWhile p).length->∃c,l[j]? =some c∧p c=true
 |[],j,h=>by simp at h
 |c::l,j,h=>by
  rw[List.takeWhile_cons] at h;cases hp:p c with
  |false=>rw[hp] at h;simp at h
  |true=>
   rw[hp] at h;simp only[if_true,oh] at h;cases j with
   |zero=>exact⟨c,rfl,hp⟩
   |succ j=>obtain⟨d,h1,h2⟩:=az5 (p:=p) (l:=l) (j:=j) au;exact⟨d,by rw[List.getElem?_cons_succ];exact h1,h2⟩
def ayo{b:Int}(h:isD b=true):b≠10:=by unfold isD at h;rw[vF,decide_eq_true_eq,decide_eq_true_eq] at h;omega
def acD{s:aF}{a:Int}(h0:0<=a):∀i,a<=i->i<vN s a->JD s i≠10:=by intro i h1 h2;unfold vN at h2;rw[if_pos h0] at h2;obtain⟨c,hc,hp⟩:=az5 (p:=λc=>isD (c.toNat:Int)) (l:=s.drop a.toNat) (j:=(i - a).toNat) au;rw[List.getElem?_drop,show a.toNat+(i - a).toNat=i.toNat by omega] at hc;have e:i=(i.toNat:Int):=au;rw[e,NQ,hc];exact ayo hp
def agA{s:aF}{r:Int}(h0:0<=r):∀i,r<=i->i<VA s r->JD s i≠10:=by
 intro i h1 h2;unfold VA at h2;cases he:(JD s r==101)||(JD s r==69) with
 |false=>rw[he,bZ] at h2;omega
 |true=>
  have hr:JD s r≠10:=by rw[Bool.or_eq_true,beq_iff_eq,beq_iff_eq] at he;omega
  by_cases hi:i=r
  ·rw[hi];exact hr
  rw[he,aU] at h2;cases hs:(JD s (r+1)==43)||(JD s (r+1)==45) with
  |true=>
   have hr1:JD s (r+1)≠10:=by rw[Bool.or_eq_true,beq_iff_eq,beq_iff_eq] at hs;omega
   rw[hs,aU] at h2
   by_cases hi1:i=r+1
   ·rw[hi1];exact hr1
   cases hd:decide (vN s (r+1+1)>r+1+1) with
   |true=>rw[hd,aU] at h2;exact acD au i au h2
   |false=>rw[hd,bZ] at h2;omega
  |false=>
   rw[hs,bZ] at h2;cases hd:decide (vN s (r+1)>r+1) with
   |true=>rw[hd,aU] at h2;exact acD au i au h2
   |false=>rw[hd,bZ] at h2;omega
def aCE{s:aF}(hl:s.length<=1048576)(h:VB s 0=(s.length:Int)):hasB 10 s=false:=by
 refine aCD λi hi=> ?_
 unfold VB at h;rw[if_neg au] at h;have r0:=LX hl (a:=0) au
 by_cases h1:(i:Int)<vN s 0
 ·exact acD au _ au h1
 cases hp:JD s (vN s 0)==46 with
 |true=>
  rw[hp,aU] at h;have hp':JD s (vN s 0)≠10:=by rw[beq_iff_eq] at hp;omega
  by_cases h2:(i:Int)=vN s 0
  ·rw[h2];exact hp'
  have r1:=LX hl (a:=vN s 0+1) au;cases hq:(vN s 0==0) &&(vN s (vN s 0+1)==vN s 0+1) with
  |true=>rw[hq,aU] at h;omega
  |false=>
   rw[hq,bZ] at h
   by_cases h3:(i:Int)<vN s (vN s 0+1)
   ·exact acD au _ au h3
   ·exact agA (r:=vN s (vN s 0+1)) au _ au au
 |false=>
  rw[hp,bZ] at h;cases hq:vN s 0==0 with
  |true=>rw[hq,aU] at h;omega
  |false=>rw[hq,bZ] at h;exact agA (r:=vN s 0) au _ au au
def ahW{q:Int}(hq:q≠10):∀(n:Nat) (l:aF) (i:Int),l.length<=n->0<=i->abY q l i=i+(l.length:Int)->hasB 10 l=false
 |n,[],i,_,h0,h=>by rw[abY] at h;simp at h;omega
 |0,c::l,i,hn,_,_=>by simp at hn
 |n+1,c::l,i,hn,h0,h=>by
  rw[aam] at h;rw[oh] at h hn;rw[Ti]
  by_cases h1:(c.toNat:Int)=q
  ·rw[if_pos h1] at h;have hl:l=[]:=List.eq_nil_of_length_eq_zero au;rw[hl,n10 au];rfl
  rw[if_neg h1] at h
  by_cases h2:(c.toNat:Int)=10
  ·rw[if_pos h2] at h;omega
  rw[if_neg h2] at h;rw[n10 h2,Bool.false_or]
  by_cases h3:(c.toNat:Int)=92
  ·rw[if_pos h3] at h;cases l with
   |nil=>simp at h;omega
   |cons d l=>
    simp only[] at h;rw[oh] at h hn
    by_cases h4:(d.toNat:Int)=10
    ·rw[if_pos h4] at h;omega
    ·rw[if_neg h4] at h;rw[Ti,n10 h4,Bool.false_or];exact ahW hq n l (i+2) au au au
  ·rw[if_neg h3] at h;exact ahW hq n l (i+1) au au au
def agB{s:aF}{q:Int}(hq:q≠10)(h:quoted s 0 q=(s.length:Int)):hasB 10 s=false:=by
 unfold quoted at h;split at h
 ·next h1=>
  cases s with
  |nil=>rfl
  |cons c l=>have hc:JD (c::l) 0=(c.toNat:Int):=rfl;rw[hc] at h1;rw[Ti,n10 au,Bool.false_or];rw[show(0+1:Int).toNat=1 from rfl,List.drop_succ_cons,List.drop_zero,oh] at h;exact ahW hq l.length l (0+1) (Nat.le_refl _) au au
 ·omega
def ayp{b:Int}(h:isW b=true):b≠10:=by unfold isW isL isD at h;simp only[Bool.or_eq_true,vF,decide_eq_true_eq,beq_iff_eq] at h;omega
def anY:∀{s:aF},amB s=true->hasB 10 s=false
 |[],_=>rfl
 |c::l,h=>by unfold amB at h;rw[List.all_cons,vF] at h;rw[Ti,n10 (ayp h.1),Bool.false_or];exact anY h.2
def ayq{s:aF}(h:Hy s=true):hasB 10 s=false:=by unfold Hy PU at h;rw[vF,vF] at h;exact anY h.1.1
def agC(s:aF):∀(l:List (aF)) (i:Int),Jv s l i>=0->s∈l
 |[],i,h=>by rw[Jv] at h;omega
 |x::l,i,h=>by
  rw[Jv] at h;split at h
  ·next hx=>rw[beq_iff_eq] at hx;rw[hx];exact zmf
  ·exact zmm _ (agC s l (i+1) h)
def ayr:∀g,g∈ahN->hasB 10 g=false:=by decide+kernel
def ays:∀g,g∈UR->hasB 10 g=false:=by decide+kernel
def ayt:∀g,g∈RN->hasB 10 g=false:=by decide+kernel
def aCF{s:aF}(h:Xa s=true):hasB 10 s=false:=by unfold Xa at h;rw[decide_eq_true_eq] at h;exact ayr _ (agC s _ _ h)
def anZ(l:List (aF))(h:∀g,g∈l->hasB 10 g=false)(i:Nat):hasB 10 (l[i]?.getD [])=false:=by
 cases hx:l[i]? with
 |none=>rfl
 |some g=>exact h g (Ib hx)
def atU{k:Int}(hk:k≠1):hasB 10 (spell k)=false:=by
 unfold spell;rw[if_neg hk];split
 ·exact anZ _ ays _
 ·split
  ·exact anZ _ ayt _
  ·rfl
def akM{k op:Int}{t o:aF}{kids:aA}(h:M.aB k op t o kids=some true)(hk:1<=k∧k<=16):M.dL k op t o kids=some true∧M.bK k op t o kids=some true:=by
 have e1:(decide (k>=1) && decide (k<=16))=true:=by rw[vF,decide_eq_true_eq,decide_eq_true_eq];exact hk
 simp only[M.aB,M.aP,fB,e1,ah,aU] at h;cases hm:M.bQ k op t o kids with
 |none=>rw[hm] at h;cases h
 |some r=>
  rw[hm,ah] at h;cases ho:M.dL k op t o kids with
  |none=>rw[ho] at h;cases h
  |some b=>
   rw[ho,ah] at h;cases b with
   |false=>cases h
   |true=>
    rw[aU] at h;cases hx:M.bK k op t o kids with
    |none=>rw[hx] at h;cases h
    |some c=>
     rw[hx,ah] at h;cases c with
     |false=>cases h
     |true=>exact⟨rfl,rfl⟩
def aL3{k op:Int}{t o:aF}{kids:aA}(h:M.aB k op t o kids=some true)(hk:1<=k∧k<=15):op≠1:=by
 have h:=(akM h au).1;rintro rfl;have hk:k=1∨k=2∨k=3∨k=4∨k=5∨k=6∨k=7∨k=8∨k=9∨k=10∨k=11∨k=12∨k=13∨k=14∨k=15:=au;have e12:=(wW 1).1;have e15:=(mP 1).1;have n12:abh 1=false:=by decide
 have n15:abj 1=false:=by decide
 rw[n12] at e12;rw[n15] at e15;rcases hk with rfl|rfl|rfl|rfl|rfl|rfl|rfl|rfl|rfl|rfl|rfl|rfl|rfl|rfl|rfl
 all_goals first
  |(have h':some ((1:Int)==0)=some true:=h;cases h';done)
  |(have h':some ((1:Int)==52)=some true:=h;cases h';done)
  |(have h':some ((1:Int)==61)=some true:=h;cases h';done)
  |(have h':((M.vH 1).bind λr=>some r)=some true:=h;rw[e12] at h';cases h';done)
  |(have h':((M.oD 1).bind λr=>some r)=some true:=h;rw[e15] at h';cases h';done)
def akN{x:Option Bool}{c:Bool}{y:Bool}(hx:x=some y)(h:(x.bind λr=>bif r then some c else some false)=some true):y=true:=by
 rw[hx,ah] at h;cases y with
 |true=>rfl
 |false=>cases h
def aCG{k op:Int}{t o:aF}{kids:aA}(h:M.aB k op t o kids=some true)(hk:1<=k∧k<=15)(ht:t.length<=1048576):hasB 10 t=false:=by
 have h:=(akM h au).2;have hn:=(Wh t ht).1;have h3:=(Uh 3 t 0 ht (by unfold I64;omega)).1;have h4:=(Uh 4 t 0 ht (by unfold I64;omega)).1;have h5:=(Uh 5 t 0 ht (by unfold I64;omega)).1;have hb:=(PG t).1;have hk:(k=1∨k=5∨k=7∨k=13)∨k=2∨k=3∨k=4∨k=8∨(k=6∨k=9∨k=10∨k=11∨k=12∨k=14∨k=15):=au;rcases hk with hk|rfl|rfl|rfl|rfl|hk
 ·rcases hk with rfl|rfl|rfl|rfl<;>exact ayq (akN hn h)
 ·have h':=akN h3 h;unfold NS at h';cases hs:t==[] with
  |true=>rw[hs] at h';cases h'
  |false=>rw[hs] at h';have h2:(VB t 0==(t.length:Int))=true:=h';exact aCE ht (beq_iff_eq.1 h2)
 ·have h':=akN h4 h;unfold NS at h';cases hs:t==[] with
  |true=>rw[hs] at h';cases h'
  |false=>rw[hs] at h';have h2:(quoted t 0 34==(t.length:Int))=true:=h';exact agB au (beq_iff_eq.1 h2)
 ·have h':=akN h5 h;unfold NS at h';cases hs:t==[] with
  |true=>rw[hs] at h';cases h'
  |false=>
   rw[hs] at h';have h2:(X7 t 0==(t.length:Int))=true:=h';have h2:=beq_iff_eq.1 h2;unfold X7 at h2;cases hq:quoted t 0 47==0+2 with
   |true=>rw[hq,aU] at h2;omega
   |false=>rw[hq,bZ] at h2;exact agB au h2
 ·exact aCF (akN hb h)
 ·have:(bif t==[] then some (o==[]) else some false)=some true:=by rcases hk with rfl|rfl|rfl|rfl|rfl|rfl|rfl<;>exact h
  cases hs:t==[] with
  |true=>rw[beq_iff_eq] at hs;rw[hs];rfl
  |false=>rw[hs] at this;cases this
mutual
def pln:Tn->Prop
 | .mk k op x _ ks=>((1<=k∧k<=15)->hasB 10 x=false∧op≠1)∧atV ks
def atV:List Tn->Prop
 |[]=>True
 |t::ts=>pln t∧atV ts
end
def VH:∀{ks:List Tn},atV ks↔∀t,t∈ks->pln t
 |[]=>by rw[atV];simp
 |t::ts=>by rw[atV,VH];simp
def atW{l:List Nd}(hall:OU (np l) l 0=true)(hsm:∀n,n∈l->Small n)(hkl:∀n,n∈l->n.kids.length<=400)(t:Tn):∀b,Lies l b t->pln t:=by refine Tn.ind (P:=λt=>∀b,Lies l b t->pln t) ?_ t;intro k op x y ks ih b h;have hr:=h.root;have hm:=Ib hr;have hn:=Tf hall hr;unfold np at hn;rw[vF] at hn;have hf:=(aex (hsm _ hm) (hkl _ hm)).1;rw[hn.1] at hf;rw[pln];refine⟨λhk=>⟨aCG hf hk (hsm _ hm).1,aL3 hf hk⟩,VH.2 λu hu=> ?_⟩;obtain⟨i,hi,hx⟩:=List.mem_iff_getElem.1 hu;exact ih u hu _ (Lies.Jg h (Jm.2 ⟨hi,hx⟩))
def abq{t:Tn}(h:zC (t.flat 0)=true)(hsm:∀n,n∈t.flat 0->Small n):pln t:=by unfold zC at h;rw[vF,vF] at h;obtain⟨r,hv⟩:=aes h.1;exact atW h.2.2 hsm hv.Zb t 0 (Lies.whole t)
def atX(s:aF):Yn (uG s)= !(hasB 10 s):=by simp[uG,Yn,DZ,aeH]
def atY:Yn Qx=true:=rfl
def akO(d:Tn):Yn (Td d)=Yn d:=by simp[Td,Yn,DZ,aeH]
def an0(d:Tn):Yn (afz d)=Yn d:=by simp[afz,Yn,DZ,aeH]
def acE(l:List Tn):Yn (sW l)=DZ l:=by simp[sW,Yn,aeH]
def akP:∀a b:List Tn,DZ (a++b)=(DZ a && DZ b)
 |[],b=>by rw[List.nil_append,DZ,Bool.true_and]
 |x::a,b=>by rw[Xg,DZ,DZ,akP a b,Bool.and_assoc]
def akQ:∀(L:List Tn) (b:Bool),DZ L=true->DZ (Ll b L)=true
 |[],b,_=>by rw[Ll];rfl
 |x::l,b,h=>by
  rw[DZ,vF] at h;rw[Ll,akP,akQ l false h.2,Bool.and_true];cases b with
  |true=>rw[aU,DZ,h.1];rfl
  |false=>rw[bZ,DZ,DZ,DZ,h.1];rfl
def apt{L:List Tn}(h:DZ L=true):Yn (OZ L)=true:=by rw[OZ,an0,akO,acE];exact akQ L true h
def Zc:∀{L:List Tn} (j:Nat),DZ L=true->Yn (wC L j)=true
 |[],j,_=>by simp[wC,atX,hasB]
 |x::l,0,h=>by rw[DZ,vF] at h;exact h.1
 |x::l,j+1,h=>by rw[DZ,vF] at h;have:=Zc (L:=l) j h.2;simp only[wC,List.getElem?_cons_succ] at this⊢;exact this
def EO{a b:Tn}(c:Bool)(ha:Yn a=true)(hb:Yn b=true):Yn (bif c then a else b)=true:=by cases c<;>assumption
def atZ(k op:Int)(n:Nat){x:aF}(g:Bool){L:List Tn}(hx:hasB 10 x=false)(hop:op≠1)(h:DZ L=true):Yn (QG k op n x g L)=true:=by
 have h1:=apt h;have h0:=Zc 0 h;have ha:=Zc 1 h;have hb:=Zc 2 h;have hs:=atU hop;have e1:hasB 10 [91]=false:=rfl;have e2:hasB 10 [40]=false:=rfl;have e3:hasB 10 [32]=false:=rfl;have e4:hasB 10 [41,32,105,110,32]=false:=rfl;have e5:hasB 10 [32,105,110,32]=false:=rfl;have e6:hasB 10 [93]=false:=rfl;have e7:hasB 10 [41]=false:=rfl;have e8:hasB 10 [36]=false:=rfl;have e9:hasB 10 [32,63,32]=false:=rfl;have e10:hasB 10 [32,58,32]=false:=rfl;have e11:((32:UInt8)==10)=false:=rfl;have hg:hasB 10 (bif g then spell op++[32] else spell op)=false:=by cases g<;>simp only[aU,bZ,akL,hs,e3,Bool.or_false]
 unfold QG;refine EO _ ?_ (EO _ ?_ (EO _ ?_ (EO _ ?_ (EO _ ?_ (EO _ ?_ (EO _ ?_ (EO _ ?_ (EO _ (EO _ ?_ ?_) (EO _ ?_ (EO _ ?_ ?_))))))))))
 all_goals simp only[atX,acE,an0,akO,atY,DZ,akL,Ti,h1,h0,ha,hb,hx,hs,hg,e1,e2,e3,e4,e5,e6,e7,e8,e9,e10,e11,Bool.or_false,Bool.not_false,Bool.and_true,Bool.and_self]
def agD(k op:Int)(n:Nat)(p:Ps):∀(ts:List Tn) (j:Nat),(∀u,u∈ts->∀q,Yn (l9 u q)=true)->DZ (lS k op n p ts j)=true
 |[],j,_=>by rw[lS];rfl
 |t::ts,j,h=>by rw[lS,DZ,agD k op n p ts (j+1) λu hu=>h u (zmm _ hu),Bool.and_true];refine EO _ (h t zmf _) ?_;rw[acE,DZ,DZ,DZ,h t zmf];rfl
def agE(t:Tn):zH t->RY t->pln t->∀q,Yn (l9 t q)=true:=by refine Tn.ind (P:=λt=>zH t->RY t->pln t->∀q,Yn (l9 t q)=true) ?_ t;intro k op x y ks ih hok he hp q;rw[pln] at hp;have h1:=hp.1 he;rw[l9];refine atZ _ _ _ _ h1.1 h1.2 (agD _ _ _ _ _ _ λu hu=> ?_);obtain⟨i,hi,hx⟩:=List.mem_iff_getElem.1 hu;have hk:=UL hok he (Jm.2 ⟨hi,hx⟩);exact ih u hu hk.2 hk.1 (VH.1 hp.2 u hu)
def apu{t:Tn}(h:zH t)(he:RY t)(hp:pln t)(q:Ps):Yn (EN t q)=true:=by refine EO _ (agE t h he hp _) ?_;rw[acE,DZ,DZ,DZ,agE t h he hp _];rfl
def at1{k op:Int}(h:1<=lvl k op):fits k op .top=true:=by unfold fits;rw[show kX Ps.top=true from rfl,Lu.2 (show lvl k op≠0 by omega)];simp only[Ps.top,Bool.not_true,Bool.or_false,bZ,Bool.false_and,Bool.false_or];exact zdt h
def aL4{k op:Int}{n:Nat}{p:Ps}:∀{ts:List Tn} {i:Nat},(∀j u,ts[j]? =some u->(FW k op n p (i+j) u).size<=10 * u.size)->sizes (lS k op n p ts i)<=10 * sizes ts
 |[],i,_=>by rw[lS];simp[sizes]
 |t::ts,i,h=>by
  have h1:=h 0 t rfl;have h2:=aL4 (k:=k) (op:=op) (n:=n) (p:=p) (ts:=ts) (i:=i+1) λj u hu=>by
   have:=h (j+1) u (by rw[List.getElem?_cons_succ];exact hu)
   rwa [show i+(j+1)=i+1+j by omega] at this
  unfold FW at h1;simp only[Nat.add_zero] at h1;rw[lS,sizes,sizes];omega
def az6{k op:Int}{n:Nat}{p:Ps}:∀{ts:List Tn} {i:Nat},(∀j u,ts[j]? =some u->(FW k op n p (i+j) u).size+3<=10 * u.size)->sizes (lS k op n p ts i)+3 * ts.length<=10 * sizes ts
 |[],i,_=>by rw[lS];simp[sizes]
 |t::ts,i,h=>by
  have h1:=h 0 t rfl;have h2:=az6 (k:=k) (op:=op) (n:=n) (p:=p) (ts:=ts) (i:=i+1) λj u hu=>by
   have:=h (j+1) u (by rw[List.getElem?_cons_succ];exact hu)
   rwa [show i+(j+1)=i+1+j by omega] at this
  unfold FW at h1;simp only[Nat.add_zero] at h1;rw[lS,sizes,sizes,oh];omega
def apv{k op:Int}{n:Nat}{x:aF}{g:Bool}{L:List Tn}(h:k=5∨k=7∨k=8∨(k=13∧Nat.blt 1 n=true)):(QG k op n x g L).size=(OZ L).size+3:=by
 rcases h with rfl|rfl|rfl|⟨rfl,h⟩
 ·show(sW [uG (x++[91]),OZ L,uG [93]]).size=_;simp only[o7,jc,sizes];omega
 ·show(sW [uG (x++[40]),OZ L,uG [41]]).size=_;simp only[o7,jc,sizes];omega
 ·show(sW [uG (x++[40]),OZ L,uG [41]]).size=_;simp only[o7,jc,sizes];omega
 ·show(bif Nat.blt 1 n then sW [uG [40],OZ L,uG ([41,32,105,110,32]++x)] else sW [wC L 0,uG ([32,105,110,32]++x)]).size=_;rw[h,aU];simp only[o7,jc,sizes];omega
def size_pos(t:Tn):1<=t.size:=by cases t;rw[Tn.size];omega
def apw{k op:Int}{n:Nat}{x:aF}{g:Bool}{L:List Tn}(h:¬(k=5∨k=7∨k=8∨(k=13∧Nat.blt 1 n=true))):(QG k op n x g L).size<=sizes L+7:=by
 have h2:=aas L 0;have h3:=aeF L;have p2:=size_pos (wC L 2);have e5:(k==5)=false:=Lu.2 au;have e7:(k==7)=false:=Lu.2 au;have e8:(k==8)=false:=Lu.2 au;unfold QG;rw[e5,e7,e8];simp only[Bool.or_false,bZ];cases e13:k==13 with
 |false=>
  simp only[bZ];refine jK _ ?_ (jK _ ?_ (jK _ ?_ (jK _ ?_ (jK _ ?_ (jK _ ?_ (jK _ ?_ (jK _ ?_ ?_)))))))
  all_goals(simp only[jc,o7,acC,Qz,Qy,sizes]<;>omega)
 |true=>
  have hn:Nat.blt 1 n=false:=by
   cases hb:Nat.blt 1 n with
   |false=>rfl
   |true=>exact absurd (.inr (.inr (.inr ⟨beq_iff_eq.1 e13,hb⟩))) h
  rw[hn];simp only[aU,bZ];refine jK _ ?_ (jK _ ?_ (jK _ ?_ (jK _ ?_ (jK _ ?_ (jK _ ?_ ?_)))))
  all_goals(simp only[jc,o7,acC,Qz,Qy,sizes]<;>omega)
def ahX(t:Tn):zH t->RY t->∀q,kX q=true->(l9 t q).size+3<=10 * t.size:=by
 refine Tn.ind (P:=λt=>zH t->RY t->∀q,kX q=true->(l9 t q).size+3<=10 * t.size) ?_ t;intro k op x y ks ih hok he q hq;have hl0:lvl k op≠0:=by have:=(NT (k:=k) (op:=op) he (Ji hok)).1;omega
 have aL5:∀j u,ks[j]? =some u->(RY u∧zH u)∧kX (dG k op ks.length j q)=true∧u∈ks:=by intro j u hu;exact⟨UL hok he hu,rW hq (Jm.1 hu).1 hl0,Ib hu⟩
 rw[l9,Tn.size]
 by_cases hl:k=5∨k=7∨k=8∨(k=13∧Nat.blt 1 ks.length=true)
 ·have h1:=az6 (k:=k) (op:=op) (n:=ks.length) (p:=q) (ts:=ks) (i:=0) λj u hu=>by
   obtain⟨⟨h1,h2⟩,h3,h4⟩:=aL5 j u hu;rw[Nat.zero_add];have hpos:dG k op ks.length j q=.top:=by
    have hb:Nat.blt j ks.length=true:=by rw[Nat.blt_eq];exact(Jm.1 hu).1
    unfold dG;rw[hq,hb,Lu.2 hl0];have:(lvl k op==15||(k==13 && Nat.blt 1 ks.length))=true:=by
     rcases hl with rfl|rfl|rfl|⟨rfl,hb⟩
     ·rfl
     ·rfl
     ·rfl
     ·rw[hb];rfl
    rw[this];rfl
   unfold FW;have hlu:1<=lvl u.kind u.op:=by cases u;exact(NT h1 (Ji h2)).1
   rw[hpos,at1 hlu,Bool.or_true,aU];exact ih u h4 h2 h1 .top rfl
  have h2:=Ya (lS k op ks.length q ks 0);rw[Ul] at h2;rw[apv hl];omega
 ·have h1:=aL4 (k:=k) (op:=op) (n:=ks.length) (p:=q) (ts:=ks) (i:=0) λj u hu=>by obtain⟨⟨h1,h2⟩,h3,h4⟩:=aL5 j u hu;rw[Nat.zero_add];unfold FW;have a1:=ih u h4 h2 h1 _ h3;have a2:=ih u h4 h2 h1 .top rfl;exact jK _ au (by rw[Um];omega)
  have h2:=apw (op:=op) (x:=x) (g:=aeC op (iJ k op ks.length q ks 0)) (L:=lS k op ks.length q ks 0) hl;omega
def akR{t:Tn}(h:zH t)(he:RY t):(Jh t).size<=10 * t.size:=by have h1:=ahX t h he .top rfl;unfold Jh EN;exact jK _ au (by rw[Um];omega)
def wK:List Nd->Nat
 |[]=>0
 |n::l=>4+n.kids.length+wK l
def aaw:∀a b:List Nd,wK (a++b)=wK a+wK b
 |[],b=>by simp[wK]
 |n::a,b=>by rw[Xg,wK,wK,aaw a b];omega
def aeI:∀l:List Nd,xK (aN true l)=true
 |[]=>rfl
 |n::l=>by have:aN true (n::l)=JC true n::aN true l:=rfl;rw[this,xK,aeI l];simp[JC,bG,D.pure]
def Tj(l:List Nd):[[D.sl true 5 (aN true l)]].all bG=true:=by simp[bG,D.pure,aeI]
structure Ok(l:List Nd):Prop where
 len:l.length<=1048576
 kids:∀n,n∈l->n.kids.length<=1048576∧∀e,e∈n.kids->I64 e
 sm:∀n,n∈l->Small n
 w:wK l<=10000000
def Ok.k{l:List Nd}(h:Ok l):∀n,n∈l->n.kids.length<=1048576:=λn hn=>by have:=(h.kids n hn).1;omega
def Zd{l:List Nd}(h:zC l=true):y9 l=true:=by unfold zC at h;rw[vF] at h;exact h.1
def ab2(o:Bool)(n:Nd):Row:=[.int .i64 n.kind,.int .i64 n.op,.str n.text,.sl o 1 (encI n.kids)]
def jV(o:Bool)(l:List Nd):aA:=l.map (ab2 o)
section
variable (o:Bool) (n:Nd) (l:List Nd) (i:Int)
@[simp] theorem lG:(jV o l).length=l.length:=by simp[jV]
@[simp] theorem aDe:idx (jV o l) i=(idx l i).map (ab2 o):=acu _ _ _
@[simp] theorem DK(j:Nat):(jV o l)[j]? =(l[j]?).map (ab2 o):=by simp[jV]
@[simp] theorem cD0:fZ .i64 (ab2 o n) 0=some n.kind:=rfl
@[simp] theorem cD1:fZ .i64 (ab2 o n) 1=some n.op:=rfl
@[simp] theorem cD2:cStr (ab2 o n) 2=some n.text:=rfl
@[simp] theorem cD3:TD 1 (ab2 o n) 3=some (encI n.kids):=rfl
@[simp] theorem at6:aJ (jV o l)=jV false l:=by
 induction l with
 |nil=>rfl
 |cons x l ih=>simp only[jV,WH,aJ] at ih⊢;rw[ih];simp[ab2,vP,D.fz,anB]
end
def Us(o:Bool)(a b:List Nd):jV o (a++b)=jV o a++jV o b:=by simp[jV]
def aeJ:∀l:List Nd,xK (jV true l)=true
 |[]=>rfl
 |n::l=>by have:jV true (n::l)=ab2 true n::jV true l:=rfl;rw[this,xK,aeJ l];simp[ab2,bG,D.pure]
def apx(l:List Nd):[[D.sl true 4 (jV true l)]].all bG=true:=by simp[bG,D.pure,aeJ]
def len_eq(n c:Nat):((n:Int)==(c:Int))=Nat.beq n c:=by rw[Bool.eq_iff_iff,beq_iff_eq,Nat.beq_eq];omega
def aL6(n:Nat):((n:Int)==0)=Nat.beq n 0:=len_eq n 0
def aL7(n:Nat):((n:Int)==1)=Nat.beq n 1:=len_eq n 1
def akS{P:Int->Prop}(h1:P 1)(h2:P 2)(h3:P 3)(h4:P 4)(h5:P 5)(h6:P 6)(h:∀k,k≠1->k≠2->k≠3->k≠4->k≠5->k≠6->P k)(k:Int):P k:=by
 by_cases e1:k=1
 ·rwa [e1]
 by_cases e2:k=2
 ·rwa [e2]
 by_cases e3:k=3
 ·rwa [e3]
 by_cases e4:k=4
 ·rwa [e4]
 by_cases e5:k=5
 ·rwa [e5]
 by_cases e6:k=6
 ·rwa [e6]
 exact h k e1 e2 e3 e4 e5 e6
def ab3(k n:Int)(x:aF)(rows:aA)(hx:x.length<=1000000000):M.yj k n x rows=some (aeH k n x rows.length):=by
 simp only[M.yj,M.KR,aky x hx,ah,CS,aeH,aL6,aL7];generalize hasB 10 x=hb;generalize (x==[])=xe;generalize Nat.beq rows.length 0=c0;generalize Nat.beq rows.length 1=c1;generalize (decide (0<=n) && decide (n<=40))=r
 by_cases hn:n=0
 ·subst hn;revert k;refine akS ?_ ?_ ?_ ?_ ?_ ?_ (λk e1 e2 e3 e4 e5 e6=> ?_)
  case refine_7=>rw[<-bne_iff_ne] at e1 e4;simp only[Lu.2 e2,Lu.2 e3,Lu.2 e5,Lu.2 e6,e1,e4,Lu.2 (bne_iff_ne.1 e1),Lu.2 (bne_iff_ne.1 e4)];cases xe<;>rfl
  all_goals cases xe<;>cases hb<;>cases r<;>rfl
 ·have hn':(n==0)=false:=Lu.2 hn;have hn2:(n !=0)=true:=bne_iff_ne.2 hn;revert k;refine akS ?_ ?_ ?_ ?_ ?_ ?_ (λk e1 e2 e3 e4 e5 e6=> ?_)
  case refine_7=>rw[<-bne_iff_ne] at e1 e4;simp only[hn',hn2,Lu.2 e2,Lu.2 e3,Lu.2 e5,Lu.2 e6,e1,e4,Lu.2 (bne_iff_ne.1 e1),Lu.2 (bne_iff_ne.1 e4)];cases xe<;>rfl
  all_goals simp only[hn',hn2];cases xe<;>cases hb<;>cases r<;>rfl
def VI(l:List Nd)(o:Bool){i:Nat}{n:Nd}{st:List Int}(hi:l[i]? =some n)(hl:l.length<=90000000)(hst:Ws st)(hs:st.length=i):
  ∀(j:Nat) (a:Int),j<=n.kids.length->n.kids.length<=90000000->0<=a->a<=i->M.qw (jV o l) (i:Int) (encI st) (a,(j:Int) - 1)=some (match dR st (n.kids.take j).reverse (a - 1) with
   |none=> .inl ()
   |some r=> .inr (r+1, -1))
 |0,a,hj,hk,h0,h1=>by rw[M.qw];apply dZ;simp only[M.zV,M.vg];rw[uq au,bZ,List.take_zero,List.reverse_nil,dR];simp
 |j+1,a,hj,hkl,h0,h1=>by
  have hlt:i<l.length:=(Jm.1 hi).1;obtain⟨k,hk⟩:∃k,n.kids[j]? =some k:=⟨n.kids[j]'au,by simp⟩
  have ht:(n.kids.take (j+1)).reverse=k::(n.kids.take j).reverse:=by rw[List.take_add_one,hk,Option.toList_some,List.reverse_append];rfl
  rw[ht,dR];have e1:(((j+1:Nat):Int) - 1)=(j:Int):=au;rw[e1];have hstep:M.zV (jV o l) (i:Int) (encI st) (a,(j:Int))=if a - 1<0∨k≠a - 1 then some (.inr (.inl ())) else some (.inl (st[k.toNat]?.getD 0,(j:Int) - 1)):=by
   simp only[M.zV,M.vg,bW,DK,hi,Ic,ah,cD3,nD,hk,Qa];rw[zdt au,aU,aC (n:=a - 1) au au]
   by_cases h2:k=a - 1
   ·have:(k !=a - 1)=false:=by simp[h2]
    rw[this,bZ]
    by_cases h3:a=0
    ·have:(a==0)=true:=by simp[h3]
     rw[this,aU,if_pos (.inl au)]
    ·have:(a==0)=false:=by simp[h3]
     rw[this,bZ,if_neg au];obtain⟨d,hd⟩:∃d:Nat,a - 1=(d:Int):=⟨(a - 1).toNat,au⟩
     have hdl:d<st.length:=au;rw[h2,hd];simp only[adI,bW,nD,RX];rw[List.getElem?_eq_getElem hdl];simp only[Ic,ah,Qa,Option.getD_some];rw[aC au au]
   ·have:(k !=a - 1)=true:=by simp[h2]
    rw[this,aU,if_pos (.inr h2)]
  by_cases hc:a - 1<0∨k≠a - 1
  ·rw[if_pos hc];rw[if_pos hc] at hstep;exact dZ hstep
  ·rw[if_neg hc];rw[if_neg hc] at hstep;rw[M.qw,iC hstep];have hz:=Qc hst k.toNat;have:=VI l o hi hl hst hs j (st[k.toNat]?.getD 0) au hkl hz.1 au;rw[M.qw] at this;exact this
def UM(l:List Nd)(o:Bool)(hl:l.length<=90000000)(hk:∀n,n∈l->n.kids.length<=90000000):∀(rest:List Nd) (i:Nat) (st:List Int),l.drop i=rest->st.length=i->i<=l.length->Ws st->
  M.qx (jV o l) ((i:Int),encI st)=some (match eY st (ks rest) with
   |none=> .inl ()
   |some r=> .inr ((l.length:Int),encI r))
 |[],i,st,hd,hs,hi,hst=>by have:l.length<=i:=List.drop_eq_nil_iff.1 hd;rw[M.qx];apply dZ;simp only[mg,M.zW,M.vk,lG];rw[uq au,bZ];have:i=l.length:=au;subst this;rfl
 |n::rest,i,st,hd,hs,hi,hst=>by
  have hn:l[i]? =some n:=by
   have:(l.drop i)[0]? =some n:=by rw[hd];rfl
   simpa using this
  have hlt:i<l.length:=(Jm.1 hn).1;have hd':l.drop (i+1)=rest:=by rw[<-List.drop_drop,hd];rfl
  have hkn:=hk n (Ib hn);have hin:=VI l o hn hl hst hs n.kids.length (i:Int) (Nat.le_refl _) hkn au au;rw[List.take_length] at hin;have hks:ks (n::rest)=n.kids::ks rest:=rfl;rw[hks,eY,hs];have hstep:M.zW (jV o l) ((i:Int),encI st)=some (match dR st n.kids.reverse ((i:Int) - 1) with
    |none=> .inr (.inl ())
    |some a=> .inl (((i+1:Nat):Int),encI (st++[a+1]))):=by
   simp only[mg,M.zW,M.vk,lG,bW,DK,hn,Ic,ah,cD3,aZ];rw[zdt au,aU,aC (n:=(n.kids.length:Int) - 1) au au,hin];cases hw:dR st n.kids.reverse ((i:Int) - 1) with
   |none=>rfl
   |some a=>simp only[ah,uw,letE,Le];rw[aX au,aU,aX au,aU,aC au au];simp[encI]
  cases hw:dR st n.kids.reverse ((i:Int) - 1) with
  |none=>rw[hw] at hstep;exact dZ hstep
  |some a=>rw[hw] at hstep;rw[M.qx,iC hstep];have hr:=Fe hst _ _ _ au au hw;have:=UM l o hl hk rest (i+1) (st++[a+1]) hd' (by simp[hs]) hlt (SX hst hr.1 hr.2);rw[M.qx] at this;exact this
end Go.Proofs.YtbkndkcpmnjaeaaGreatDoor
