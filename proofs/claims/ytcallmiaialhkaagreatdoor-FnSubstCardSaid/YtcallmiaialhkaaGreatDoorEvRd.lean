import Derived.Test.YtcallmiaialhkaaGreatDoorZVal
import Derived.Test.YtcallmiaialhkaaGreatDoorVm4
import Derived.Test.YtcallmiaialhkaaGreatDoorPPrim
import Derived.Lib.AtoiTie
import Derived.Lib.ItoaMem
set_option linter.defProp false
namespace Go.Proofs.YtcallmiaialhkaaGreatDoor
set_option linter.unusedVariables false
set_option linter.unusedSimpArgs false
open Go Go.Vm
open Go.IntKind (i64)
def mx:Int->List Int->Int
 |a,[]=>a
 |a,x::l=>mx (bif decide (a<x) then x else a) l
def V3(B:Int):∀(l:List Int) (a:Int),a<=B->(∀x,x∈l->x<=B)->a<=mx a l/\mx a l<=B
 |[],a,h,_=>⟨Int.le_refl _,h⟩
 |x::l,a,h,hl=>by
  have hx:=hl x List.mem_cons_self;rw[mx]
  by_cases c:a<x
  ·rw[zdt c,bZ];have:=V3 B l x hx λy hy=>hl y (zmm _ hy)
   omega
  ·rw[pX c,dX];exact V3 B l a h λy hy=>hl y (zmm _ hy)
def Zv:∀(l:List Int) (a x:Int),mx a (l++[x])=(bif decide (mx a l<x) then x else mx a l)
 |[],a,x=>rfl
 |y::l,a,x=>by rw[WI,mx,mx,Zv l]
def ag3:∀(l:List Int) (a:Int),mx (1+a) (l.map λd=>1+d)=1+mx a l
 |[],a=>rfl
 |x::l,a=>by
  rw[QY,mx,mx,<-ag3 l]
  by_cases c:a<x
  ·rw[zdt c,bZ,zdt au,bZ]
  ·rw[pX c,dX,pX au,dX]
def dep(l:List Nd):Nat->Nat->Int
 |0,_=>0
 |f+1,i=>mx 0 ((VZ l i).map λk=>dep l f k.toNat)+1
def QN(l:List Nd):∀f i,0<=dep l f i/\dep l f i<=f
 |0,i=>by simp[dep]
 |f+1,i=>by have:=V3 (f:Int) ((VZ l i).map λk=>dep l f k.toNat) 0 au (λx hx=>by obtain⟨k,_,rfl⟩:=List.mem_map.1 hx;exact(QN l f k.toNat).2);rw[dep];omega
section
variable {l:List Nd} {r:List Int} {o:Bool}
def aa1(h:Val l r):∀(f f' i:Nat),i<f->i<f'->i<l.length->dep l f i=dep l f' i
 |0,_,i,h1,_,_=>absurd h1 (Nat.not_lt_zero _)
 |f+1,0,i,_,h2,_=>absurd h2 (Nat.not_lt_zero _)
 |f+1,f'+1,i,h1,h2,h3=>by
  obtain⟨n,hn⟩:∃n,l[i]? =some n:=⟨l[i],by simp⟩
  rw[dep,dep,Ec hn];congr 2;refine List.map_congr_left λk hk=> ?_
  have hkr:=h.kids hn k hk;exact aa1 h f f' k.toNat au au au
def V4(l:List Nd)(i:Nat):List Int:=(List.range i).map λj=>dep l (j+1) j
def ag4(l:List Nd)(i:Nat):(V4 l i).length=i:=by simp[V4]
def aa2(l:List Nd){i j:Nat}(h:j<i):(V4 l i)[j]? =some (dep l (j+1) j):=by simp[V4,List.getElem?_range h]
def aeP(l:List Nd)(i:Nat):V4 l (i+1)=V4 l i++[dep l (i+1) i]:=by simp[V4,List.range_succ]
def aa3(h:Val l r){i:Nat}{n:Nd}(hn:l[i]? =some n)(hk:n.kids.length<=1048576):M.wM (aH o l) (i:Int) (encI (V4 l i)) (1,0)=some (dep l (i+1) i,(n.kids.length:Int)):=by
 have hil:=(FK.1 hn).1;have hle:=h.le;have hdk:∀k,k∈n.kids->dep l i k.toNat=dep l (k.toNat+1) k.toNat:=λk hkm=>by have:=h.kids hn k hkm;exact aa1 h _ _ _ au au au
 have hval:∀(j:Nat),(1:Int)+mx 0 ((n.kids.take j).map λk=>dep l i k.toNat)=mx 1 ((n.kids.take j).map λk=>1+dep l i k.toNat):=λj=>by have:=ag3 ((n.kids.take j).map λk=>dep l i k.toNat) 0;rw[List.map_map] at this;exact this.symm
 have hloop:=lU (b:=M.xK (aH o l) (i:Int) (encI (V4 l i))) (t:=(dep l (i+1) i,(n.kids.length:Int))) (λj=>(mx 1 ((n.kids.take j).map λk=>1+dep l i k.toNat),(j:Int))) n.kids.length
  (by
   intro j hj;obtain⟨k,hkj⟩:∃k,n.kids[j]? =some k:=⟨n.kids[j],by simp⟩
   have hkm:=OQ hkj;have hkr:=h.kids hn k hkm;obtain⟨q,hq⟩:∃q:Nat,k=q:=⟨k.toNat,au⟩
   have hd:=hdk k hkm;have hr:=QN l (q+1) q;subst hq;rw[Qi] at hd;simp only[M.xK,M.qZ,bT,dQ,hn,Eh,aj,RU,dw,lM,hkj,U4,Qi,aa2 l (show q<i by omega)];rw[zdt au,bZ,aB (n:=(j:Int)+1) au au,aB (n:=1+dep l (q+1) q) au au,List.take_add_one,hkj,Option.toList_some,List.map_append,QY,List.map_nil,Zv,Qi,hd];rfl)
  (by simp only[M.xK,M.qZ,bT,dQ,hn,Eh,aj,RU,dw];rw[pX au,dX,<-hval,List.take_length,dep,Ec hn,Int.add_comm]) 0 (Nat.zero_le _)
 rw[M.wM];exact hloop
def depth(l:List Nd):Int:=if yu l then dep l l.length (l.length - 1) else 0
def Td(l:List Nd)(o:Bool)(hl:l.length<=1048576)(hk:∀n,n∈l->n.kids.length<=1048576):M.qK (aH o l)=some (depth l):=by
 simp only[M.qK,M.CU,KA l o hl hk,aj,bn,depth];cases hs:yu l with
 |false=>rfl
 |true=>
  obtain⟨r,h⟩:=Zu hs;have h1:=h.pos;have h2:=h.le;have hloop:=lU (b:=M.xM (aH o l)) (t:=((l.length:Int),encI (V4 l l.length))) (λi=>((i:Int),encI (V4 l i))) l.length
   (by
    intro i hi;obtain⟨n,hn⟩:∃n,l[i]? =some n:=⟨l[i],by simp⟩
    have hin:=aa3 (o:=o) h hn (hk n (OQ hn));simp only[BF,M.xM,M.ru,bn,hin,aj,dw,ag4,QX];rw[zdt au,bZ,dV au,bZ,dV au,bZ,aB au au,aeP];simp[encI])
   (by simp only[BF,M.xM,M.ru,bn];rw[pX au,dX]) 0 (Nat.zero_le _)
  have Ed:M.Au (aH o l) (0,[])=_:=hloop;rw[zau,dX,Ed,aj,aB au au,show(l.length:Int) - 1=((l.length - 1:Nat):Int) by omega,if_pos rfl];simp only[bT,Qi,lM,aa2 l (show l.length - 1<l.length by omega),Eh,aj,U4];rw[show l.length - 1+1=l.length by omega]
def MR(l:List Nd)(i:Nat):Nd:=match l[i]? with|some n=>n|none=>⟨0,0,[],[],[]⟩
def V5(n:Nd)(rows:ay):Row:=[.int .i64 n.kind,.int .i64 n.op,.str n.text,.str n.other,.sl true 5 rows]
def xW(l:List Nd):Nat->Nat->ay
 |0,_=>[]
 |f+1,i=>(VZ l i).map λk=>V5 (MR l k.toNat) (xW l f k.toNat)
def Yl(h:Val l r)(hk:∀n,n∈l->n.kids.length<=400):∀(f i:Nat) (n:Nd),i<f->l[i]? =some n->M.fZ f (aH o l) (i:Int)=some (n.kind,n.op,n.text,n.other,xW l f i)
 |0,i,n,hf,_=>absurd hf (Nat.not_lt_zero _)
 |f+1,i,n,hf,hn=>by
  have hkn:=hk n (OQ hn);have hil:=(FK.1 hn).1;have hkl:=h.kids hn;simp only[BF,M.fZ,M.wX,bT,dQ,hn,Eh,aj,Zd,cN1,cN2,cN3,RU,dw];have hrec:∀(j:Nat) k,n.kids[j]? =some k->M.fZ f (aH o l) k=some ((MR l k.toNat).kind,(MR l k.toNat).op,(MR l k.toNat).text,(MR l k.toNat).other,xW l f k.toNat):=by
   intro j k hj;have hkr:=hkl k (OQ hj);obtain⟨q,hq⟩:∃q:Nat,k=q:=⟨k.toNat,au⟩
   subst hq;obtain⟨m,hm⟩:∃m,l[q]? =some m:=⟨l[q]'au,by simp⟩
   have:=Yl h hk f q m au hm;rw[this,Qi,MR,hm]
  have hloop:=lU (b:=M.iR (M.fZ f))
   (t:=if n.kids=[] then .inl (aH o l,encI n.kids,(n.kids.length:Int),0,0,0,[],[],n.kind,n.op,n.text,n.other) else .inr (aH o l,encI n.kids,(n.kids.length:Int),(n.kids.length:Int),0,0,[],[],n.kind,n.op,n.text,n.other,xW l (f+1) i))
   (λj=>if j=0 then .inl (aH o l,encI n.kids,(n.kids.length:Int),0,0,0,[],[],n.kind,n.op,n.text,n.other) else .inr (aH o l,encI n.kids,(n.kids.length:Int),(j:Int),0,0,[],[],n.kind,n.op,n.text,n.other,(n.kids.take j).map λk=>V5 (MR l k.toNat) (xW l f k.toNat))) n.kids.length
   (by
    intro j hj;obtain⟨k,hkj⟩:∃k,n.kids[j]? =some k:=⟨n.kids[j],by simp⟩
    have hr:=hrec j k hkj;have htk:(n.kids.take (j+1)).map (λk=>V5 (MR l k.toNat) (xW l f k.toNat))=(n.kids.take j).map (λk=>V5 (MR l k.toNat) (xW l f k.toNat))++[V5 (MR l k.toNat) (xW l f k.toNat)]:=by rw[List.take_add_one,hkj,Option.toList_some,List.map_append];rfl
    rw[if_neg (show¬j+1=0 by omega),htk]
    by_cases h0:j=0
    ·subst h0;rw[if_pos rfl];have aDY:idx (encI n.kids) 0=some [D.int .i64 k]:=by have:=bT (encI n.kids) 0;rw[QK] at this;rw[this,lM,hkj];rfl
     simp only[BF,M.iR,M.iQ,aDY,aj,U4,hr];rw[zdt au,bZ];rfl
    ·rw[if_neg h0];simp only[BF,M.iR,M.iQ,bT,lM,hkj,Eh,aj,U4,hr,zaw,MW,QX];rw[zdt au,bZ,dV au,bZ,dV au,bZ,aB au au];rfl)
   (by
    by_cases h0:n.kids.length=0
    ·have he:n.kids=[]:=List.length_eq_zero_iff.1 h0;rw[if_pos h0,if_pos he];simp only[BF,M.iR,M.iQ];rw[pX au,dX]
    ·have he:¬n.kids=[]:=λe=>h0 (by rw[e];rfl)
     rw[if_neg h0,if_neg he,List.take_length];simp only[BF,M.iR,M.iQ];rw[pX au,dX,xW,Ec hn]) 0 (Nat.zero_le _)
  rw[if_pos rfl] at hloop;rw[M.yG,hloop,aj]
  by_cases he:n.kids=[]
  ·rw[if_pos he,xW,Ec hn,he];rfl
  ·rw[if_neg he];rfl
def J7:∀rows:ay,aF rows=rows.map sQ
 |[]=>rfl
 |x::rows=>by rw[aF,J7 rows,QY]
def aa4(h:Val l r)(hk:∀n,n∈l->n.kids.length<=400):∀(f i:Nat) (n:Nd) (a b:Int) (c d:aT),i<f->f<=1000->l[i]? =some n->M.gU f a b c d (aF (xW l f i))=some (dep l f i)
 |0,i,n,a,b,c,d,hf,_,_=>absurd hf (Nat.not_lt_zero _)
 |f+1,i,n,a,b,c,d,hf,hf2,hn=>by
  have hkn:=hk n (OQ hn);have hil:=(FK.1 hn).1;have hkl:=h.kids hn;have hdr:=QN l (f+1) i;have hlen:(aF (xW l (f+1) i)).length=n.kids.length:=by rw[J7,xW,Ec hn];simp
  simp only[M.gU,M.qX,hlen];have hloop:=lU (b:=M.qW (M.gU f) (aF (xW l (f+1) i)) (n.kids.length:Int)) (t:=(mx 0 (n.kids.map λk=>dep l f k.toNat),(n.kids.length:Int)))
   (λj=>(mx 0 ((n.kids.take j).map λk=>dep l f k.toNat),(j:Int))) n.kids.length
   (by
    intro j hj;obtain⟨k,hkj⟩:∃k,n.kids[j]? =some k:=⟨n.kids[j],by simp⟩
    have hkr:=hkl k (OQ hkj);obtain⟨q,hq⟩:∃q:Nat,k=q:=⟨k.toNat,au⟩
    subst hq;obtain⟨m,hm⟩:∃m,l[q]? =some m:=⟨l[q]'au,by simp⟩
    have hrow:(aF (xW l (f+1) i))[j]? =some (sQ (V5 m (xW l f q))):=by rw[J7,xW,Ec hn,List.getElem?_map,List.getElem?_map,hkj];simp only[Eh,Qi,MR,hm]
    have hrec:=aa4 h hk f q m m.kind m.op m.text m.other au au hm;have k0:gW .i64 (sQ (V5 m (xW l f q))) 0=some m.kind:=rfl;have k1:gW .i64 (sQ (V5 m (xW l f q))) 1=some m.op:=rfl;have k2:cStr (sQ (V5 m (xW l f q))) 2=some m.text:=rfl;have k3:cStr (sQ (V5 m (xW l f q))) 3=some m.other:=rfl;have k4:SE 5 (sQ (V5 m (xW l f q))) 4=some (aF (xW l f q)):=rfl;simp only[BF,M.qW,M.nJ,bT,hrow,aj,k0,k1,k2,k3,k4,hrec];rw[zdt au,bZ,aB au au,List.take_add_one,hkj,Option.toList_some,List.map_append,QY,List.map_nil,Zv,Qi];rfl)
   (by simp only[BF,M.qW,M.nJ];rw[pX au,dX,List.take_length]) 0 (Nat.zero_le _)
  have Ed:M.vW (M.gU f) (aF (xW l (f+1) i)) (n.kids.length:Int) (0,0)=_:=hloop;rw[Ed,aj];rw[dep,Ec hn] at hdr|-;rw[aB au au]
end
def Du{α:Type}(p:Nat->α->Bool):List α->Nat->Bool
 |[],_=>true
 |x::l,i=>p i x && Du p l (i+1)
def Js{α:Type}(l:List α)(p:Nat->α->Bool){b:Int->Option (Int⊕(Unit⊕Int))}
  (hb:∀(i:Nat) x,l[i]? =some x->b (i:Int)=some (bif p i x then .inl ((i:Int)+1) else .inr (.inl ()))) (he:b (l.length:Int)=some (.inr (.inr (l.length:Int)))):
  fG b 0=some (bif Du p l 0 then .inr (l.length:Int) else .inl ()):=by
 have key:∀(t:List α) (i:Nat),l.drop i=t->i<=l.length->fG b (i:Int)=some (bif Du p t i then .inr (l.length:Int) else .inl ()):=by
  intro t;induction t with
  |nil=>
   intro i hd hi;have:i=l.length:=by have:=congrArg List.length hd;simp at this;omega
   subst this;exact dJ he
  |cons x t ih=>
   intro i hd hi;have hx:l[i]? =some x:=by
    have:(l.drop i)[0]? =some x:=by rw[hd];rfl
    simpa using this
   have hlt:i<l.length:=(FK.1 hx).1;have hd':l.drop (i+1)=t:=by rw[<-List.drop_drop,hd];rfl
   have hs:=hb i x hx;rw[Du];cases hw:p i x with
   |true=>rw[hw,bZ] at hs;rw[iD hs,show(i:Int)+1=((i+1:Nat):Int) by omega,ih (i+1) hd' hlt,Bool.true_and]
   |false=>rw[hw,dX] at hs;rw[dJ hs];rfl
 exact key l 0 rfl (Nat.zero_le _)
noncomputable def fOk(n:Nd):Bool:=(M.aA n.kind n.op n.text n.other (encI n.kids)).getD false
noncomputable def kOk(n:Nd)(j:Int)(d:Int):Bool:=(M.aJ n.kind n.op n.text n.other (encI n.kids) j d).getD false
structure Small(n:Nd):Prop where
 text:n.text.length<=1048576
 other:n.other.length<=1048576
def Zw{n:Nd}(hs:Small n)(hk:n.kids.length<=400):M.aA n.kind n.op n.text n.other (encI n.kids)=some (fOk n)/\M.dW n.kind n.op n.text n.other (encI n.kids)=some (fOk n):=by obtain⟨b,h1,h2⟩:=aaY n.kind n.op n.text n.other (encI n.kids) hs.text hs.other (by rw[dw];exact hk);rw[fOk,h1];exact⟨rfl,h2⟩
def acF{n:Nd}(hs:Small n)(hk:n.kids.length<=400)(hf:fOk n=true)(j:Nat)(hj:j<n.kids.length)(d:Int):
  M.aJ n.kind n.op n.text n.other (encI n.kids) (j:Int) d=some (kOk n j d)/\M.aU n.kind n.op n.text n.other (encI n.kids) (j:Int) d=some (kOk n j d):=by
 have hc:=Zt (k:=n.kind) (op:=n.op) (t:=n.text) (o:=n.other) (kids:=encI n.kids) (by rw[(Zw hs hk).1,hf]);obtain⟨b,h1,h2⟩:=aoj n.kind n.op n.text n.other (encI n.kids) (j:Int) d au (by rw[dw];omega) (by rw[dw];exact hk) hc;rw[kOk,h1];exact⟨rfl,h2⟩
def adE:∀(l:List Int),(∀x,x∈l->1<=x)->(l.length:Int)<=LK l
 |[],_=>by simp[LK]
 |x::l,h=>by
  have:=adE l λy hy=>h y (zmm _ hy)
  have:=h x List.mem_cons_self;simp only[OL,LK];omega
section
variable {l:List Nd} {r:List Int} {o:Bool}
def Val.P7(h:Val l r){i:Nat}{n:Nd}(hn:l[i]? =some n):n.kids.length<=400:=by have hil:=(FK.1 hn).1;have h1:=h.sum hn;have h2:=adE (n.kids.map (sz r)) (λx hx=>by obtain⟨k,hk,rfl⟩:=List.mem_map.1 hx;exact(h.ag2 (h.kids hn k hk).1).1);rw[zaw] at h2;have h3:=(h.ag2 (k:=(i:Int)) au).2;have:=h.le;omega
def Val.V6(h:Val l r):∀n,n∈l->n.kids.length<=400:=λn hn=>by obtain⟨i,hi⟩:=List.mem_iff_getElem?.1 hn;exact h.P7 hi
noncomputable def kp(l:List Nd)(n:Nd)(j:Nat)(k:Int):Bool:=kOk n j (MR l k.toNat).kind
def V7(h:Val l r)(hsm:∀n,n∈l->Small n){i:Nat}{n:Nd}(hn:l[i]? =some n)(hf:fOk n=true)(v10:ay)(v11 v12:Int):
  M.yJ (aH o l) (i:Int) 0=some (bif Du (kp l n) n.kids 0 then .inr (n.kids.length:Int) else .inl ())/\
  M.yH (aH o l) v10 v11 v12 (encI n.kids) (n.kids.length:Int) n.kind n.op n.text n.other (encI n.kids) 0=some (bif Du (kp l n) n.kids 0 then .inr (n.kids.length:Int) else .inl ()):=by
 have hkl:=h.P7 hn;have hs:=hsm n (OQ hn);have step:∀(j:Nat) k,n.kids[j]? =some k->∃(q:Nat) (m:Nd),k=(q:Int)/\l[q]? =some m/\(MR l k.toNat).kind=m.kind:=by
  intro j k hj;have hkr:=h.kids hn k (OQ hj);have hil:=(FK.1 hn).1;obtain⟨q,hq⟩:∃q:Nat,k=q:=⟨k.toNat,au⟩
  obtain⟨m,hm⟩:∃m,l[q]? =some m:=⟨l[q]'au,by simp⟩
  refine⟨q,m,hq,hm, ?_⟩;rw[hq,Qi,MR,hm]
 constructor
 ·rw[M.yJ];refine Js n.kids (kp l n) (λj k hj=> ?_) ?_
  ·obtain⟨q,m,hq,hm,he⟩:=step j k hj;have hjl:=(FK.1 hj).1;have hok:=(acF hs hkl hf j hjl m.kind).1;rw[kp,he];subst hq;simp only[BF,M.Ea,M.ug,bT,dQ,hn,hm,Eh,aj,Zd,cN1,cN2,cN3,RU,dw,lM,hj,U4,hok];rw[zdt au,bZ,aB au au];cases kOk n j m.kind<;>rfl
  ·simp only[BF,M.Ea,M.ug,bT,dQ,hn,Eh,aj,RU,dw];rw[pX au,dX]
 ·rw[M.yH];refine Js n.kids (kp l n) (λj k hj=> ?_) ?_
  ·obtain⟨q,m,hq,hm,he⟩:=step j k hj;have hjl:=(FK.1 hj).1;have hok:=(acF hs hkl hf j hjl m.kind).2;rw[kp,he];subst hq;simp only[M.D8,M.tX,bT,dQ,hm,Eh,aj,Zd,lM,hj,U4,hok];rw[zdt au,bZ,aB au au];cases kOk n j m.kind<;>rfl
  ·simp only[M.D8,M.tX];rw[pX au,dX]
noncomputable def np(l:List Nd)(_:Nat)(n:Nd):Bool:=fOk n && Du (kp l n) n.kids 0
def Sv(h:Val l r)(hsm:∀n,n∈l->Small n):
  M.yK (aH o l) 0=some (bif Du (np l) l 0 then .inr (l.length:Int) else .inl ())/\
  M.yI (aH o l) (aH o l) (l.length:Int) 0=some (bif Du (np l) l 0 then .inr (l.length:Int) else .inl ()):=by
 have hle:=h.le;constructor
 ·rw[M.yK];refine Js l (np l) (λi n hi=> ?_) ?_
  ·have hil:=(FK.1 hi).1;have hf:=(Zw (hsm n (OQ hi)) (h.P7 hi)).1;simp only[BF,M.Eb,M.uh,bn,bT,dQ,hi,Eh,aj,Zd,cN1,cN2,cN3,RU,hf,np];rw[zdt au,bZ,aB au au];cases hff:fOk n with
   |false=>rfl
   |true=>have:=(V7 (o:=o) h hsm hi hff [] 0 0).1;rw[zau,dX,this,aj];cases Du (kp l n) n.kids 0<;>rfl
  ·simp only[BF,M.Eb,M.uh,bn];rw[pX au,dX]
 ·rw[M.yI];refine Js l (np l) (λi n hi=> ?_) ?_
  ·have hil:=(FK.1 hi).1;have hf:=(Zw (hsm n (OQ hi)) (h.P7 hi)).2;simp only[BF,M.D9,M.tZ,bT,dQ,hi,Eh,aj,Zd,cN1,cN2,cN3,RU,hf,np,dw];rw[zdt au,bZ,aB au au];cases hff:fOk n with
   |false=>rfl
   |true=>have:=(V7 (o:=o) h hsm hi hff (aH o l) (l.length:Int) (i:Int)).2;rw[zau,dX,this,aj];cases Du (kp l n) n.kids 0<;>rfl
  ·simp only[BF,M.D9,M.tZ];rw[pX au,dX]
end
noncomputable def uF(l:List Nd):Bool:=yu l &&(decide (depth l<=40) && Du (np l) l 0)
section
variable (l:List Nd) (o:Bool) (hl:l.length<=1048576) (hk:∀n,n∈l->n.kids.length<=1048576) (hsm:∀n,n∈l->Small n)
include hl hk hsm
theorem Dv:M.ji (aH o l)=some (uF l):=by
 simp only[M.ji,M.EY,KA l o hl hk,Td l o hl hk,aj,uF];cases hs:yu l with
 |false=>rfl
 |true=>
  obtain⟨r,h⟩:=Zu hs;rw[zau,dX,(Sv (o:=o) h hsm).1,aj,Bool.true_and]
  by_cases hd:depth l<=40
  ·rw[pX (show¬depth l>40 by omega),dX,zdt hd,Bool.true_and];cases Du (np l) l 0<;>rfl
  ·rw[zdt (show depth l>40 by omega),bZ,pX hd];rfl
theorem Hz:M.nD (aH o l)=some (uF l):=by
 simp only[M.nD,M.EM,Tc l o hl hk,aj,uF,bn];cases hs:yu l with
 |false=>rfl
 |true=>
  obtain⟨r,h⟩:=Zu hs;have h1:=h.pos;have h2:=h.le;obtain⟨n,hn⟩:∃n,l[l.length - 1]? =some n:=⟨l[l.length - 1]'au,by simp⟩
  have ht:=Yl (o:=o) h h.V6 l.length (l.length - 1) n au hn;have hd:=aa4 h h.V6 l.length (l.length - 1) n n.kind n.op n.text n.other au au hn;rw[zau,dX,(Sv (o:=o) h hsm).2,aj,Bool.true_and];simp only[M.kD,M.zU,bn];rw[aB au au,show(l.length:Int) - 1=((l.length - 1:Nat):Int) by omega,M.LC ht,aj,aj];simp only;rw[M.OH hd,aj,depth,if_pos hs];cases Du (np l) l 0<;>simp[qy,letE]
theorem Sz(ht:uF l=true):∃n,l.getLast? =some n/\idx (aH o l) (i64.wrap ((l.length:Int) - 1))=some (DC o n):=by
 unfold uF at ht;rw[su] at ht;have hp:=Yj ht.1;have hn:l≠[]:=by rintro rfl;simp at hp
 obtain⟨n,hn⟩:∃n,l.getLast? =some n:=⟨_,List.getLast?_eq_some_getLast hn⟩
 have hn':l[l.length - 1]? =some n:=by rw[<-List.getLast?_eq_getElem?];exact hn
 refine⟨n,hn, ?_⟩;rw[aB au au,show(l.length:Int) - 1=((l.length - 1:Nat):Int) by omega,bT,dQ,hn'];rfl
end
@[simp] theorem aoP(l:List Int):zN (encI l)=true:=by
 induction l with
 |nil=>rfl
 |cons x l ih=>simp only[encI,QY] at ih|-;simp[zN,bY,D.pure,ih]
@[simp] theorem aoQ(l:List Int):[[D.sl true 1 (encI l)]].all bY=true:=by simp[bY,D.pure]
def rJ(o:Bool)(a b:List Nd):aH o (a++b)=aH o a++aH o b:=by simp[aH]
def ag5(w:Bool):∀t:Tn,t.row w=[.int .i64 t.kind,.int .i64 t.op,.str t.text,.str t.other,.sl w 5 (jc w t.kids)]
 | .mk k o x y ks=>rfl
def P8(w:Bool)(a b:List Tn):jc w (a++b)=jc w a++jc w b:=by simp[MG]
def J8(w:Bool)(a:List Tn):(jc w a).length=a.length:=by simp[MG]
def jA{α:Type}{l:List α}{j:Nat}{t:α}(h:l[j]? =some t):l.take (j+1)=l.take j++[t]:=by rw[List.take_add_one,h];rfl
def aa5{α:Type}{l:List α}{j:Nat}{t:α}(h:l[j]? =some t):l=l.take j++t::l.drop (j+1):=by obtain⟨hj,rfl⟩:=FK.1 h;rw[<-List.drop_eq_getElem_cons hj,List.take_append_drop]
def Ee{ks:List Tn}{j:Nat}{t:Tn}(h:ks[j]? =some t):sizes (ks.take j)+t.size<=sizes ks:=by have:=congrArg sizes (aa5 h);rw[mF,sizes] at this;omega
section
variable {l:List Nd} {b:Nat} {k op:Int} {x y:aT} {ks:List Tn}
def Lies.QO(h:Lies l b (.mk k op x y ks)){j:Nat}{t:Tn}(hj:ks[j]? =some t):Lies l (b+sizes (ks.take j)) t:=by have e:=aa5 hj;rw[e] at h;exact h.kid
def P9{j:Nat}{t:Tn}(hj:ks[j]? =some t):(ends ks b)[j]? =some ((b+sizes (ks.take j)+sizes t.kids:Nat):Int):=by have hlt:=(FK.1 hj).1;have hs:=t.MF;rw[af8 hlt,jA hj,mF,sizes,sizes];congr 1;omega
def Lies.root'{t:Tn}(h:Lies l b t):l[b+sizes t.kids]? =some ⟨t.kind,t.op,t.text,t.other,ends t.kids b⟩:=by cases t;exact h.root
def Ym{j:Nat}{t:Tn}(hj:ks[j]? =some t):ends (ks.take (j+1)) b=ends (ks.take j) b++[((b+sizes (ks.take j)+t.size:Nat):Int) - 1]:=by rw[jA hj,Ll,ends,ends];congr 2<;>omega
def V8{j:Nat}{t:Tn}(hj:ks[j]? =some t):iZ (ks.take (j+1)) b=iZ (ks.take j) b++t.flat (b+sizes (ks.take j)):=by rw[jA hj,BQ,iZ,iZ,List.append_nil]
def acG{w:Bool}{j:Nat}{t:Tn}(hj:ks[j]? =some t):jc w (ks.take (j+1))=jc w (ks.take j)++[t.row w]:=by rw[jA hj,P8];rfl
def ends_range:∀(ks:List Tn) (b:Nat),∀e,e∈ends ks b->(b:Int)<=e/\e<b+sizes ks
 |[],b,e,h=>by simp[ends] at h
 |t::ts,b,e,h=>by
  have hp:=t.size_pos;rw[ends] at h;have hs:(sizes (t::ts):Int)=t.size+sizes ts:=by rw[sizes];omega
  rcases List.mem_cons.1 h with rfl|h
  ·omega
  ·have:=ends_range ts _ e h;omega
end
mutual
def Jt:∀(t:Tn) (b:Nat),∀n,n∈t.flat b->n.kids.length<=t.size/\∀e,e∈n.kids->(0:Int)<=e/\e<b+t.size
 | .mk k o x y ks,b,n,h=>by
  rw[Tn.flat] at h;rw[Tn.size];rcases List.mem_append.1 h with h|h
  ·have:=V9 ks b n h;exact⟨au,λe he=>by have:=this.2 e he;omega⟩
  ·simp only[List.mem_singleton] at h;subst h;refine⟨by simp only[jH];have:=G8 ks;omega,λe he=> ?_⟩;have:=ends_range ks b e he;omega
def V9:∀(ks:List Tn) (b:Nat),∀n,n∈iZ ks b->n.kids.length<=sizes ks/\∀e,e∈n.kids->(0:Int)<=e/\e<b+sizes ks
 |[],b,n,h=>by simp[iZ] at h
 |t::ts,b,n,h=>by
  rw[iZ] at h;rw[sizes];rcases List.mem_append.1 h with h|h
  ·have:=Jt t b n h;exact⟨au,λe he=>by have:=this.2 e he;omega⟩
  ·have:=V9 ts _ n h;exact⟨au,λe he=>by have:=this.2 e he;omega⟩
end
def ag6(l:List Nd)(o:Bool)(d:Int)(hl:l.length<=1048576)(hk:∀n,n∈l->n.kids.length<=1048576/\∀e,e∈n.kids-> -4000000000<=e+d/\e+d<=4000000000):
  M.jD (aH o l) d=some (aH true (l.map (Nd.up d))):=by
 simp only[M.jD,M.yF];have hloop:=lU (b:=M.kW (aH o l) d) (t:=((l.length:Int),aH true (l.map (Nd.up d)))) (λi=>((i:Int),aH true ((l.take i).map (Nd.up d)))) l.length
  (by
   intro i hi;obtain⟨n,hn⟩:∃n,l[i]? =some n:=⟨l[i],by simp[hi]⟩
   obtain⟨hkl,hke⟩:=hk n (OQ hn);have hin:=lU (b:=M.kU (aH o l) d (i:Int) (aH true ((l.take i).map (Nd.up d))) n.kind n.op n.text n.other) (t:=((n.kids.length:Int),encI (n.kids.map (· +d)))) (λj=>((j:Int),encI ((n.kids.take j).map (· +d)))) n.kids.length
    (by
     intro j hj;obtain⟨e,he⟩:∃e,n.kids[j]? =some e:=⟨n.kids[j],by simp[hj]⟩
     have:=hke e (OQ he);simp only[BF,M.kU,M.kT,bT,dQ,hn,Eh,aj,RU,dw,lM,he,U4,zaw,MW,QX];rw[zdt au,bZ,dV au,bZ,dV au,bZ,aB au au,aB au au,jA he];simp[encI])
    (by simp only[BF,M.kU,M.kT,bT,dQ,hn,Eh,aj,RU,dw];rw[pX au,dX,List.take_length]) 0 (Nat.zero_le _)
   simp only[QK,List.take_zero,List.map_nil] at hin;have hin':M.wH (aH o l) d (i:Int) (aH true ((l.take i).map (Nd.up d))) n.kind n.op n.text n.other (0,[])=some ((n.kids.length:Int),encI (n.kids.map (· +d))):=hin;simp only[BF,M.kW,M.kV,bn,bT,dQ,hn,Eh,aj,Zd,cN1,cN2,cN3,RU,hin',wS,bZ,zaw,MW,QX];rw[zdt au,bZ,dV au,bZ,dV au,bZ,aB au au,jA hn,List.map_append,rJ];rfl)
  (by simp only[BF,M.kW,M.kV,bn];rw[pX au,dX,List.take_length]) 0 (Nat.zero_le _)
 simp only[QK,List.take_zero,List.map_nil] at hloop;have Ed:M.wI (aH o l) d (0,[])=some ((l.length:Int),aH true (l.map (Nd.up d))):=hloop;rw[Ed,aj]
def aok(t:Tn):∀(f:Nat) (w:Bool) (p:List Nd),t.size<=f->p.length+t.size<=1048576->
  M.gV f t.kind t.op t.text t.other (jc w t.kids) (aH true p)=some (aH true (p++t.flat p.length)):=by
 refine Tn.ind (P:=λt=>∀(f:Nat) (w:Bool) (p:List Nd),t.size<=f->p.length+t.size<=1048576->M.gV f t.kind t.op t.text t.other (jc w t.kids) (aH true p)=some (aH true (p++t.flat p.length))) ?_ t;intro k op x y ks ih f w p hf hp;cases f with
 |zero=>rw[Tn.size] at hf;omega
 |succ f=>
  rw[Tn.size] at hf hp;have hkl:=G8 ks;simp only[BF,M.gV,M.wL,Tn.kids,Tn.kind,Tn.op,Tn.text,Tn.other,J8];have hrec:∀j t,ks[j]? =some t->M.gV f t.kind t.op t.text t.other (jc w t.kids) (aH true (p++iZ (ks.take j) p.length))=some (aH true (p++iZ (ks.take (j+1)) p.length)):=by
   intro j t hj;have hst:=Ee hj;have hfl:(p++iZ (ks.take j) p.length).length=p.length+sizes (ks.take j):=by rw[ZP,jT]
   have:=ih t (OQ hj) f w (p++iZ (ks.take j) p.length) au (by rw[hfl];omega);rw[this,hfl,V8 hj,BD]
  have hloop:=lU (b:=M.lW (M.gV f))
   (t:=if ks=[] then .inl (jc w ks,(ks.length:Int),0,aH true p,k,op,x,y) else .inr (jc w ks,(ks.length:Int),(ks.length:Int),aH true (p++iZ ks p.length),k,op,x,y,encI (ends ks p.length)))
   (λj=>if j=0 then .inl (jc w ks,(ks.length:Int),0,aH true p,k,op,x,y) else .inr (jc w ks,(ks.length:Int),(j:Int),aH true (p++iZ (ks.take j) p.length),k,op,x,y,encI (ends (ks.take j) p.length))) ks.length
   (by
    intro j hj;obtain⟨t,ht⟩:∃t,ks[j]? =some t:=⟨ks[j],by simp⟩
    have hr:=hrec j t ht;have hst:=Ee ht;have hp1:=t.size_pos;have hg:(jc w ks)[j]? =some (t.row w):=by rw[MG];simp[ht]
    have hc0:gW .i64 (t.row w) 0=some t.kind:=by cases t;rfl
    have hc1:gW .i64 (t.row w) 1=some t.op:=by cases t;rfl
    have hc2:cStr (t.row w) 2=some t.text:=by cases t;rfl
    have hc3:cStr (t.row w) 3=some t.other:=by cases t;rfl
    have hc4:SE 5 (t.row w) 4=some (jc w t.kids):=by cases t;rfl
    have hfl:(aH true (p++iZ (ks.take (j+1)) p.length)).length=p.length+sizes (ks.take j)+t.size:=by rw[bn,ZP,jT,jA ht,mF,sizes,sizes];omega
    rw[if_neg (show¬j+1=0 by omega),Ym ht]
    by_cases h0:j=0
    ·subst h0;rw[if_pos rfl];have hi:idx (jc w ks) 0=some (t.row w):=by have:=bT (jc w ks) 0;rw[QK] at this;rw[this,hg]
     have hr0:M.gV f t.kind t.op t.text t.other (jc w t.kids) (aH true p)=some (aH true (p++iZ (ks.take (0+1)) p.length)):=by rw[<-hr];simp[iZ]
     simp only[BF,M.lW,M.jX,hi,aj,hc0,hc1,hc2,hc3,hc4,hr0,hfl];rw[zdt au,bZ,aB au au,aB au au];rfl
    ·rw[if_neg h0];simp only[BF,M.lW,M.jX,bT,hg,aj,hc0,hc1,hc2,hc3,hc4,hr,hfl,dw,jH,MW,QX];rw[zdt au,bZ,dV au,bZ,dV au,bZ,aB au au,aB au au];simp[encI])
   (by
    by_cases h0:ks.length=0
    ·have he:ks=[]:=List.length_eq_zero_iff.1 h0;rw[if_pos h0,if_pos he];simp only[BF,M.lW,M.jX];rw[pX au,dX]
    ·have he:¬ks=[]:=λe=>h0 (by rw[e];rfl)
     rw[if_neg h0,if_neg he,List.take_length];simp only[BF,M.lW,M.jX];rw[pX au,dX]) 0 (Nat.zero_le _)
  rw[if_pos rfl] at hloop;rw[M.zq,hloop,aj]
  by_cases he:ks=[]
  ·rw[if_pos he];subst he;simp only[qy,bn,QX];rw[dV au,bZ,dV au,bZ,rJ];rfl
  ·rw[if_neg he];simp only[qy,letE,bn,ZP,jT,QX,wS,bZ];rw[dV au,bZ,dV au,bZ,Tn.flat,<-BD];simp only[rJ];rfl
def akr{t:Tn}{w:Bool}(h:t.size<=1048576):M.nG t.kind t.op t.text t.other (jc w t.kids)=some (aH true (t.flat 0)):=by have:=M.QJ (aok t t.size w [] (zav _) (by simpa using h));simp only[M.nG,M.zu];have e:aH true ([]:List Nd)=[]:=rfl;rw[e] at this;rw[this,aj];simp
def wK:List Nd->Nat
 |[]=>0
 |n::l=>4+n.kids.length+wK l
def QS:∀a b:List Nd,wK (a++b)=wK a+wK b
 |[],b=>by simp[wK]
 |n::a,b=>by rw[WI,wK,wK,QS a b];omega
def Wh:∀l:List Nd,zN (aH true l)=true
 |[]=>rfl
 |n::l=>by have:aH true (n::l)=DC true n::aH true l:=rfl;rw[this,zN,Wh l];simp[DC,bY,D.pure]
def MJ(l:List Nd):[[D.sl true 5 (aH true l)]].all bY=true:=by simp[bY,D.pure,Wh]
def adF(l:List Nd)(o:Bool)(hl:l.length<=1048576)(hk:∀n,n∈l->n.kids.length<=1048576/\∀e,e∈n.kids->I64 e):M.jJ (aH o l)=some (aH true l):=by
 simp only[M.jJ,M.EZ];have key:M.jD (aH o l) 0=some (aH true l):=by
  simp only[M.jD,M.yF];have hloop:=lU (b:=M.kW (aH o l) 0) (t:=((l.length:Int),aH true l)) (λi=>((i:Int),aH true (l.take i))) l.length
   (by
    intro i hi;obtain⟨n,hn⟩:∃n,l[i]? =some n:=⟨l[i],by simp[hi]⟩
    obtain⟨hkl,hke⟩:=hk n (OQ hn);have hin:=lU (b:=M.kU (aH o l) 0 (i:Int) (aH true (l.take i)) n.kind n.op n.text n.other) (t:=((n.kids.length:Int),encI n.kids)) (λj=>((j:Int),encI (n.kids.take j))) n.kids.length
     (by
      intro j hj;obtain⟨e,he⟩:∃e,n.kids[j]? =some e:=⟨n.kids[j],by simp[hj]⟩
      have:=hke e (OQ he);simp only[BF,M.kU,M.kT,bT,dQ,hn,Eh,aj,RU,dw,lM,he,U4,MW,QX,Int.add_zero];rw[zdt au,bZ,dV au,bZ,dV au,bZ,aB au au,aB this.1 this.2,jA he];simp[encI])
     (by simp only[BF,M.kU,M.kT,bT,dQ,hn,Eh,aj,RU,dw];rw[pX au,dX,List.take_length]) 0 (Nat.zero_le _)
    simp only[QK,List.take_zero] at hin;have hin':M.wH (aH o l) 0 (i:Int) (aH true (l.take i)) n.kind n.op n.text n.other (0,[])=some ((n.kids.length:Int),encI n.kids):=hin;simp only[BF,M.kW,M.kV,bn,bT,dQ,hn,Eh,aj,Zd,cN1,cN2,cN3,RU,hin',wS,bZ,MW,QX];rw[zdt au,bZ,dV au,bZ,dV au,bZ,aB au au,jA hn,rJ];rfl)
   (by simp only[BF,M.kW,M.kV,bn];rw[pX au,dX,List.take_length]) 0 (Nat.zero_le _)
  simp only[QK,List.take_zero] at hloop;have Ed:M.wI (aH o l) 0 (0,[])=some ((l.length:Int),aH true l):=hloop;rw[Ed,aj]
 rw[key,aj]
def Zx(l:List Nd)(o:Bool)(hl:l.length<=1048576)(hk:∀n,n∈l->n.kids.length<=1048576):M.iH (aH o l)=some (aH true l):=by
 simp only[M.iH,M.zn,bn];have hloop:=lU (b:=M.sN (aH o l) (l.length:Int)) (t:=((l.length:Int),aH true l)) (λi=>((i:Int),aH true (l.take i))) l.length
  (by
   intro i hi;obtain⟨n,hn⟩:∃n,l[i]? =some n:=⟨l[i],by simp[hi]⟩
   have hkn:=hk n (OQ hn);have hc:M.slices_Clone (encI n.kids)=some (encI n.kids):=by rw[M.slices_Clone,VY];simp only[dV (show n.kids.length * 8<=140737488355328 by omega),bZ]
   simp only[BF,M.sN,M.oq,bn,bT,dQ,hn,Eh,aj,Zd,cN1,cN2,cN3,RU,hc,wS,bZ,MW,QX];rw[zdt au,bZ,dV au,bZ,dV au,bZ,aB au au,jA hn,rJ];rfl)
  (by simp only[BF,M.sN,M.oq];rw[pX au,dX,List.take_length]) 0 (Nat.zero_le _)
 simp only[QK,List.take_zero] at hloop;have Ed:M.xI (aH o l) (l.length:Int) (0,[])=some ((l.length:Int),aH true l):=hloop;rw[Ed,aj]
def parts(ts:List Tn):ay:=ts.map λt=>[.sl false 5 (aH false (t.flat 0))]
def Zy(k op:Int)(x y:aT)(kr:ay)(ts:List Tn)(hs:sizes ts<=900000):M.aN k op x y kr (parts ts)=some (aH true ((Tn.mk k op x y ts).flat 0)):=by
 have htl:=G8 ts;simp only[BF,M.aN,M.Et];have hpl:(parts ts).length=ts.length:=by simp[parts]
 have hloop:=lU (b:=M.y5 (parts ts) k op x y) (t:=((ts.length:Int),aH true (iZ ts 0),encI (ends ts 0))) (λj=>((j:Int),aH true (iZ (ts.take j) 0),encI (ends (ts.take j) 0))) ts.length
  (by
   intro j hj;obtain⟨t,ht⟩:∃t,ts[j]? =some t:=⟨ts[j],by simp[hj]⟩
   have hst:=Ee ht;have hp:=t.size_pos;have hr:(parts ts)[j]? =some [.sl false 5 (aH false (t.flat 0))]:=by simp[parts,ht]
   have c0:SE 5 [D.sl false 5 (aH false (t.flat 0))] 0=some (aH false (t.flat 0)):=rfl;have hfl:(aH true (iZ (ts.take j) 0)).length=sizes (ts.take j):=by rw[bn,jT]
   have hsh:M.jD (aH false (t.flat 0)) ((sizes (ts.take j):Nat):Int)=some (aH true (t.flat (sizes (ts.take j)))):=by
    rw[ag6 (t.flat 0) false _ (by rw[t.flat_length];omega) (λn hn=> ?_)]
    ·rw[t.adr 0 (sizes (ts.take j))];congr 4<;>omega
    ·obtain⟨h1,h2⟩:=Jt t 0 n hn;refine⟨au,λe he=> ?_⟩;have:=h2 e he;omega
   have hrl:(aH true (t.flat (sizes (ts.take j)))).length=t.size:=by rw[bn,t.flat_length]
   have hel:(encI (ends (ts.take j) 0)).length=j:=by rw[dw,jH,MW];omega
   simp only[BF,M.y5,M.tq,hpl,bT,hr,aj,c0,hfl,hsh,hrl,hel,ZP,QX];rw[zdt au,bZ,dV au,bZ,dV au,bZ,dV au,bZ,dV au,bZ,aB au au,aB au au,V8 ht,Ym ht,rJ,Nat.zero_add];simp[encI])
  (by simp only[BF,M.y5,M.tq,hpl];rw[pX au,dX,List.take_length]) 0 (Nat.zero_le _)
 have e0:aH true (iZ (ts.take 0) 0)=[]:=rfl;have e1:encI (ends (ts.take 0) 0)=[]:=rfl;rw[QK,e0,e1] at hloop;have Ed:M.BR (parts ts) k op x y (0,[],[])=some ((ts.length:Int),aH true (iZ ts 0),encI (ends ts 0)):=hloop;rw[Ed,aj];simp only[wS,bZ,bn,jT,QX];rw[dV au,bZ,dV au,bZ,Tn.flat,rJ];rfl
def aa6(o w:Bool)(ts:List Tn):aF (ts.map λt=>[D.sl w 5 (aH o (t.flat 0))])=parts ts:=by rw[J7,List.map_map];unfold parts;congr 1;funext t;simp[sQ,D.fz,pF]
def aa7(l:List Nd)(name:aT):List Int->Bool
 |[]=>false
 |k::_=>match idx l k with
  |some x=>x.kind==1 && x.text==name
  |none=>false
def assigns(l:List Nd)(name:aT)(n:Nd):Bool:=(n.kind==32 && n.text==name)||((n.kind==15||n.kind==9||n.kind==10) && aa7 l name n.kids)
def Bq(l:List Nd)(name:aT)(_:Unit)(n:Nd):Unit⊕(Unit⊕Int):=if assigns l name n then .inr (.inl ()) else .inl ()
def IV(l:List Nd)(name:aT)(len:Int):∀t:List Nd,X6 (Bq l name) (λ_=> .inr (len)) t ()=if t.any (assigns l name) then .inl () else .inr (len)
 |[]=>rfl
 |n::t=>by
  simp only[X6,Bq];cases h:assigns l name n with
  |true=>simp[h]
  |false=>simp only[Bool.false_eq_true,if_false];rw[IV l name len t];simp[h]
set_option maxHeartbeats 2000000 in
def MS(l:List Nd)(o:Bool)(name:aT)(hl:l.length<=1048576){i:Nat}{n:Nd}(hi:l[i]? =some n):
  M.oG (aH o l) name (i:Int)=some (if assigns l name n then .inr (.inl ()) else .inl ((i+1:Nat):Int)):=by
 have hlt:=(FK.1 hi).1;simp only[BF,M.oG,M.oD,bn,bT,dQ,hi,Eh,aj,Zd,cN1,cN2,cN3,RU,J6];rw[zdt au,bZ,aB (n:=(i:Int)+1) au au,aB (n:=(l.length:Int) - 1) au au];have hc:((i+1:Nat):Int)=(i:Int)+1:=au;rw[hc];unfold assigns;cases hk:n.kids with
 |nil=>simp only[encI,List.map_nil,zln,aa7];generalize (n.kind==32)=b1;generalize (n.kind==15)=b2;generalize (n.kind==9)=b3;generalize (n.kind==10)=b4;generalize (n.text==name)=b5;cases b1<;>cases b2<;>cases b3<;>cases b4<;>cases b5<;>rfl
 |cons k ks=>
  have h0:idx (encI (k::ks)) 0=some [D.int .i64 k]:=rfl;have hlen:decide ((((encI (k::ks)).length:Nat):Int)>0)=true:=zdt (by simp);simp only[h0,hlen,bZ,aj,U4,X5,aa7]
  by_cases hr:0<=k/\k<=(l.length:Int) - 1
  ·obtain⟨x,hx,_⟩:=af7 (l:=l) hr.1 au;simp only[zdt hr.1,zdt hr.2,Bool.and_self,bZ,hx,Eh,aj,Zd,cN1,cN2,cN3,RU];generalize (n.kind==32)=b1;generalize (n.kind==15)=b2;generalize (n.kind==9)=b3;generalize (n.kind==10)=b4;generalize (n.text==name)=b5;generalize (x.kind==1)=b6;generalize (x.text==name)=b7;cases b1<;>cases b2<;>cases b3<;>cases b4<;>cases b5<;>cases b6<;>cases b7<;>rfl
  ·have hx:idx l k=none:=adp au;have hw:(decide (0<=k) && decide (k<=(l.length:Int) - 1))=false:=by
    rw[Bool.and_eq_false_iff];rcases Classical.not_and_iff_not_or_not.1 hr with h|h
    ·exact .inl (pX h)
    ·exact .inr (pX h)
   simp only[hw,dX,hx];generalize (n.kind==32)=b1;generalize (n.kind==15)=b2;generalize (n.kind==9)=b3;generalize (n.kind==10)=b4;generalize (n.text==name)=b5;cases b1<;>cases b2<;>cases b3<;>cases b4<;>cases b5<;>rfl
set_option maxHeartbeats 2000000 in
def MV(l:List Nd)(o:Bool)(name:aT)(hl:l.length<=1048576){i:Nat}{n:Nd}(hi:l[i]? =some n):
  M.oz (aH o l) name (aH o l) (l.length:Int) (i:Int)=some (if assigns l name n then .inr (.inl ()) else .inl ((i+1:Nat):Int)):=by
 have hlt:=(FK.1 hi).1;simp only[BF,M.oz,M.ou,bn,bT,dQ,hi,Eh,aj,Zd,cN1,cN2,cN3,RU,Hy];rw[zdt au,bZ,aB (n:=(i:Int)+1) au au,aB (n:=(l.length:Int) - 1) au au];have hc:((i+1:Nat):Int)=(i:Int)+1:=au;rw[hc];unfold assigns;have hex:n.kind=15\/n.kind=9\/n.kind=10\/n.kind=32\/((n.kind==15)=false/\(n.kind==9)=false/\(n.kind==10)=false/\(n.kind==32)=false):=by simp only[ZQ,ne_eq];omega
 cases hk:n.kids with
 |nil=>
  simp only[encI,List.map_nil,zln,aa7];generalize (n.text==name)=b5;rcases hex with h|h|h|h|⟨h1,h2,h3,h4⟩
  ·rw[h];cases b5<;>rfl
  ·rw[h];cases b5<;>rfl
  ·rw[h];cases b5<;>rfl
  ·rw[h];cases b5<;>rfl
  ·rw[h1,h2,h3,h4];cases b5<;>rfl
 |cons k ks=>
  have h0:idx (encI (k::ks)) 0=some [D.int .i64 k]:=rfl;have hlen:decide ((((encI (k::ks)).length:Nat):Int)>0)=true:=zdt (by simp);simp only[h0,hlen,bZ,aj,U4,X5,aa7]
  by_cases hr:0<=k/\k<=(l.length:Int) - 1
  ·obtain⟨x,hx,_⟩:=af7 (l:=l) hr.1 au;simp only[zdt hr.1,zdt hr.2,Bool.and_self,bZ,hx,Eh,aj,Zd,cN2];generalize (n.text==name)=b5;generalize (x.kind==1)=b6;generalize (x.text==name)=b7;rcases hex with h|h|h|h|⟨h1,h2,h3,h4⟩
   ·rw[h];cases b5<;>cases b6<;>cases b7<;>rfl
   ·rw[h];cases b5<;>cases b6<;>cases b7<;>rfl
   ·rw[h];cases b5<;>cases b6<;>cases b7<;>rfl
   ·rw[h];cases b5<;>cases b6<;>cases b7<;>rfl
   ·rw[h1,h2,h3,h4];cases b5<;>cases b6<;>cases b7<;>rfl
  ·have hx:idx l k=none:=adp au;have hw:(decide (0<=k) && decide (k<=(l.length:Int) - 1))=false:=by
    rw[Bool.and_eq_false_iff];rcases Classical.not_and_iff_not_or_not.1 hr with h|h
    ·exact .inl (pX h)
    ·exact .inr (pX h)
   simp only[hw,dX,hx];generalize (n.text==name)=b5;rcases hex with h|h|h|h|⟨h1,h2,h3,h4⟩
   ·rw[h];cases b5<;>rfl
   ·rw[h];cases b5<;>rfl
   ·rw[h];cases b5<;>rfl
   ·rw[h];cases b5<;>rfl
   ·rw[h1,h2,h3,h4];cases b5<;>rfl
def Iw(l:List Nd)(o:Bool)(name:aT)(hl:l.length<=1048576):M.jo (aH o l) name=some (l.any (assigns l name)):=by
 simp only[M.jo,M.zD];have hloop:=U5 (M.oG (aH o l) name) l (λi (_:Unit)=>(i:Int)) (Bq l name) (λ_=> .inr ((l.length:Int))) (λ_ _=>True)
  (by intro i n w hi _;rw[MS l o name hl hi,Bq];split<;>rfl)
  (λ_ _ _ _ _ _ _=>trivial)
  (by intro w _;simp only[BF,M.oG,M.oD,bn];rw[pX au,dX]) () trivial
 have h0':((0:Nat):Int)=0:=rfl;rw[h0'] at hloop;rw[M.xR,hloop,IV,aj];cases l.any (assigns l name)<;>rfl
def Iy(l:List Nd)(o:Bool)(name:aT)(hl:l.length<=1048576):M.jm (aH o l) name=some (l.any (assigns l name)):=by
 simp only[M.jm,M.zo,bn];have hloop:=U5 (M.oz (aH o l) name (aH o l) (l.length:Int)) l (λi (_:Unit)=>(i:Int)) (Bq l name) (λ_=> .inr ((l.length:Int))) (λ_ _=>True)
  (by intro i n w hi _;rw[MV l o name hl hi,Bq];split<;>rfl)
  (λ_ _ _ _ _ _ _=>trivial)
  (by intro w _;simp only[BF,M.oz,M.ou];rw[pX au,dX]) () trivial
 have h0':((0:Nat):Int)=0:=rfl;rw[h0'] at hloop;rw[M.xJ,hloop,IV,aj];cases l.any (assigns l name)<;>rfl
structure Ok(l:List Nd):Prop where
 len:l.length<=1048576
 kids:∀n,n∈l->n.kids.length<=1048576/\∀e,e∈n.kids->I64 e
 sm:∀n,n∈l->Small n
 w:wK l<=10000000
def Ok.k{l:List Nd}(h:Ok l):∀n,n∈l->n.kids.length<=1048576:=λn hn=>by have:=(h.kids n hn).1;omega
def Qa{l:List Nd}(h:uF l=true):yu l=true:=by unfold uF at h;rw[su] at h;exact h.1
def aeQ{l:List Nd}{o:Bool}(hl:l.length<=1048576)(t:Tn):∀(f b:Nat),Lies l b t->t.size<=f->
  M.fZ f (aH o l) ((b+sizes t.kids:Nat):Int)=some (t.kind,t.op,t.text,t.other,jc true t.kids):=by
 refine Tn.ind (P:=λt=>∀(f b:Nat),Lies l b t->t.size<=f->M.fZ f (aH o l) ((b+sizes t.kids:Nat):Int)=some (t.kind,t.op,t.text,t.other,jc true t.kids)) ?_ t;intro k op x y ks ih f b h hf;cases f with
 |zero=>rw[Tn.size] at hf;omega
 |succ f=>
  have hroot:l[b+sizes ks]? =some ⟨k,op,x,y,ends ks b⟩:=h.root;have hlt:=h.lt;rw[Tn.size] at hf hlt;have hkl:=G8 ks;simp only[BF,M.fZ,M.wX,bT,dQ,Tn.kids,Tn.kind,Tn.op,Tn.text,Tn.other,hroot,Eh,aj,Zd,cN1,cN2,cN3,RU,dw,jH];have hrec:∀j t,ks[j]? =some t->M.fZ f (aH o l) ((b+sizes (ks.take j)+sizes t.kids:Nat):Int)=some (t.kind,t.op,t.text,t.other,jc true t.kids):=λj t hj=>ih t (OQ hj) f _ (Lies.QO h hj) (by have:=Ee hj;omega)
  have hloop:=lU (b:=M.iR (M.fZ f))
   (t:=if ks=[] then .inl (aH o l,encI (ends ks b),(ks.length:Int),0,0,0,[],[],k,op,x,y) else .inr (aH o l,encI (ends ks b),(ks.length:Int),(ks.length:Int),0,0,[],[],k,op,x,y,jc true ks))
   (λj=>if j=0 then .inl (aH o l,encI (ends ks b),(ks.length:Int),0,0,0,[],[],k,op,x,y) else .inr (aH o l,encI (ends ks b),(ks.length:Int),(j:Int),0,0,[],[],k,op,x,y,jc true (ks.take j))) ks.length
   (by
    intro j hj;obtain⟨t,ht⟩:∃t,ks[j]? =some t:=⟨ks[j],by simp⟩
    have hr:=hrec j t ht;have he:=P9 (b:=b) ht;rw[if_neg (show¬j+1=0 by omega),acG ht,ag5]
    by_cases h0:j=0
    ·subst h0;rw[if_pos rfl];have hi:idx (encI (ends ks b)) 0=some [D.int .i64 ((b+sizes (ks.take 0)+sizes t.kids:Nat):Int)]:=by have:=bT (encI (ends ks b)) 0;rw[QK] at this;rw[this,lM,he];rfl
     simp only[BF,M.iR,M.iQ,hi,aj,U4,hr];rw[zdt au,bZ];rfl
    ·rw[if_neg h0];simp only[BF,M.iR,M.iQ,bT,lM,he,Eh,aj,U4,hr,J8,MW,QX];rw[zdt au,bZ,dV au,bZ,dV au,bZ,aB au au];rfl)
   (by
    by_cases h0:ks.length=0
    ·have he:ks=[]:=List.length_eq_zero_iff.1 h0;rw[if_pos h0,if_pos he];simp only[BF,M.iR,M.iQ];rw[pX au,dX]
    ·have he:¬ks=[]:=λe=>h0 (by rw[e];rfl)
     rw[if_neg h0,if_neg he,List.take_length];simp only[BF,M.iR,M.iQ];rw[pX au,dX]) 0 (Nat.zero_le _)
  rw[if_pos rfl] at hloop;rw[M.yG,hloop,aj]
  by_cases he:ks=[]
  ·rw[if_pos he,he];rfl
  ·rw[if_neg he];rfl
def aa8{l:List Nd}{o:Bool}(hl:l.length<=1048576){t:Tn}{b:Nat}(h:Lies l b t):M.kC (aH o l) ((b+sizes t.kids:Nat):Int)=some (t.kind,t.op,t.text,t.other,jc true t.kids):=
 M.LC (aeQ hl t t.size b h (zav _))
def Yn{t:Tn}{o:Bool}(hl:t.size<=1048576):M.kD (aH o (t.flat 0))=some (t.kind,t.op,t.text,t.other,jc true t.kids):=by have hs:=t.MF;simp only[M.kD,M.zU,bn,t.flat_length];have h:=aa8 (o:=o) (by rw[t.flat_length];omega) (Lies.whole t);rw[Nat.zero_add] at h;rw[aB au au,show(t.size:Int) - 1=((sizes t.kids:Nat):Int) by omega,h,aj]
section
variable (l:List Nd) (o:Bool) (hl:l.length<=1048576) (hk:∀n,n∈l->n.kids.length<=1048576) (hsm:∀n,n∈l->Small n)
include hl hk hsm
noncomputable def Dw(l:List Nd):Bool:=uF l &&(match l.getLast? with|some n=>decide (1<=n.kind) && decide (n.kind<=15)|none=>false)
theorem HY:M.kE (aH o l)=some (Dw l):=by
 simp only[M.kE,M.E5,Dv l o hl hk hsm,aj,Dw,bn];cases ht:uF l with
 |false=>rfl
 |true=>obtain⟨n,h1,h2⟩:=Sz l o hl hk hsm ht;rw[bZ,h2,aj,h1,Bool.true_and,Zd,aj];simp only[M.dO,M.zW,J6,aj]
theorem LM:M.oO (aH o l)=some (Dw l):=by
 simp only[M.oO,M.EN,Hz l o hl hk hsm,aj,Dw,bn];cases ht:uF l with
 |false=>rfl
 |true=>obtain⟨n,h1,h2⟩:=Sz l o hl hk hsm ht;rw[bZ,h2,aj,h1,Bool.true_and,Zd,aj];simp only[M.bW,M.fV,Hy,aj]
end
abbrev Str:=aT
mutual
def adG:∀(t:Tn) (b:Nat),wK (t.flat b)+1=5 * t.size
 | .mk k o x y ks,b=>by
  have:=aa9 ks b;have e:wK [(⟨k,o,x,y,ends ks b⟩:Nd)]=4+ks.length:=by simp[wK,jH]
  rw[Tn.flat,QS,e,Tn.size];omega
def aa9:∀(ks:List Tn) (b:Nat),wK (iZ ks b)+ks.length=5 * sizes ks
 |[],_=>rfl
 |t::ts,b=>by have h1:=adG t b;have h2:=aa9 ts (b+t.size);rw[iZ,QS,sizes,OL];omega
end
mutual
def sml:Tn->Prop
 | .mk _ _ x y ks=>(x.length<=1048576/\y.length<=1048576)/\Wi ks
def Wi:List Tn->Prop
 |[]=>True
 |t::ts=>sml t/\Wi ts
end
mutual
def Qb:∀(t:Tn) (b:Nat),sml t↔∀n,n∈t.flat b->Small n
 | .mk k o x y ks,b=>by
  rw[sml,abb ks b,Tn.flat];constructor
  ·rintro⟨⟨h1,h2⟩,h3⟩ n hn;rcases List.mem_append.1 hn with hn|hn
   ·exact h3 n hn
   ·simp only[List.mem_singleton] at hn;subst hn;exact⟨h1,h2⟩
  ·intro h;have h1:=h ⟨k,o,x,y,ends ks b⟩ (by simp);exact⟨⟨h1.text,h1.other⟩,λn hn=>h n (List.mem_append_left _ hn)⟩
def abb:∀(ks:List Tn) (b:Nat),Wi ks↔∀n,n∈iZ ks b->Small n
 |[],b=>by simp[Wi,iZ]
 |t::ts,b=>by
  rw[Wi,Qb t b,abb ts (b+t.size),iZ];constructor
  ·rintro⟨h1,h2⟩ n hn;rcases List.mem_append.1 hn with hn|hn
   ·exact h1 n hn
   ·exact h2 n hn
  ·intro h;exact⟨λn hn=>h n (List.mem_append_left _ hn),λn hn=>h n (List.mem_append_right _ hn)⟩
end
section
variable (name:Str) (X:Tn)
mutual
def je:Tn->Tn
 | .mk k o x y ks=>if k=1/\x=name then X else .mk k o x y (wB ks)
def wB:List Tn->List Tn
 |[]=>[]
 |t::ts=>je t::wB ts
end
def H6:∀ks:List Tn,wB name X ks=ks.map (je name X)
 |[]=>rfl
 |t::ts=>by rw[wB,H6 ts];rfl
mutual
def Wj:∀t:Tn,(je name X t).size<=t.size * X.size
 | .mk k o x y ks=>by
  have h:=LP ks;have hX:=X.size_pos;rw[je,Tn.size];rw[Nat.add_mul,Nat.one_mul];split
  ·omega
  ·rw[Tn.size];omega
def LP:∀ks:List Tn,sizes (wB name X ks)<=sizes ks * X.size
 |[]=>by simp[wB,sizes]
 |t::ts=>by have h1:=Wj t;have h2:=LP ts;rw[wB,sizes,sizes,Nat.add_mul];omega
end
mutual
def Yo(hX:sml X):∀t:Tn,sml t->sml (je name X t)
 | .mk k o x y ks,h=>by
  rw[sml] at h;rw[je];split
  ·exact hX
  ·rw[sml];exact⟨h.1,Wn hX ks h.2⟩
def Wn(hX:sml X):∀ks:List Tn,Wi ks->Wi (wB name X ks)
 |[],_=>trivial
 |t::ts,h=>by rw[Wi] at h;rw[wB,Wi];exact⟨Yo hX t h.1,Wn hX ts h.2⟩
end
end
def Wp(w:Bool)(t:Tn):aF [t.row w]=[t.row false]:=by rw[aF,af9];rfl
section
variable {l:List Nd} {o:Bool} {name:Str} {X:Tn}
def aol(hl:l.length<=400)(hX:X.size<=400)(t:Tn):∀(f b:Nat),Lies l b t->t.size<=f->
  M.iV f (aH o l) ((b+sizes t.kids:Nat):Int) name (aH false (X.flat 0))=some (aH true ((je name X t).flat 0)):=by
 refine Tn.ind (P:=λt=>∀(f b:Nat),Lies l b t->t.size<=f->M.iV f (aH o l) ((b+sizes t.kids:Nat):Int) name (aH false (X.flat 0))=some (aH true ((je name X t).flat 0))) ?_ t;intro k op x y ks ih f b h hf;cases f with
 |zero=>rw[Tn.size] at hf;omega
 |succ f=>
  have hroot:l[b+sizes ks]? =some ⟨k,op,x,y,ends ks b⟩:=h.root;have hlt:=h.lt;rw[Tn.size] at hf hlt;have hkl:=G8 ks;have hcopy:M.jJ (aH false (X.flat 0))=some (aH true (X.flat 0)):=adF _ _ (by rw[X.flat_length];omega) (λn hn=>by obtain⟨h1,h2⟩:=Jt X 0 n hn;exact⟨au,λe he=>by have:=h2 e he;exact⟨au,au⟩⟩);have hrec:∀j t,ks[j]? =some t->M.iV f (aH o l) ((b+sizes (ks.take j)+sizes t.kids:Nat):Int) name (aH false (X.flat 0))=some (aH true ((je name X t).flat 0)):=λj t hj=>ih t (OQ hj) f _ (Lies.QO h hj) (by have:=Ee hj;omega)
  have hloop:=lU (b:=M.zF (M.iV f) (aH o l) ((b+sizes ks:Nat):Int) name (aH false (X.flat 0)))
   (t:=((ks.length:Int),ks.map λt=>[D.sl true 5 (aH true ((je name X t).flat 0))])) (λj=>((j:Int),(ks.take j).map λt=>[D.sl true 5 (aH true ((je name X t).flat 0))])) ks.length
   (by
    intro j hj;obtain⟨t,ht⟩:∃t,ks[j]? =some t:=⟨ks[j],by simp⟩
    have hr:=hrec j t ht;have he:=P9 (b:=b) ht;simp only[BF,M.zF,M.uj,bT,dQ,hroot,Eh,aj,RU,dw,jH,lM,he,U4,hr,zaw,MW,QX];rw[zdt au,bZ,dV au,bZ,dV au,bZ,aB au au,jA ht];simp)
   (by simp only[BF,M.zF,M.uj,bT,dQ,hroot,Eh,aj,RU,dw,jH];rw[pX au,dX,List.take_length]) 0 (Nat.zero_le _)
  rw[QK,List.take_zero,List.map_nil] at hloop;have Ed:M.yL (M.iV f) (aH o l) ((b+sizes ks:Nat):Int) name (aH false (X.flat 0)) (0,[])=some ((ks.length:Int),ks.map λt=>[D.sl true 5 (aH true ((je name X t).flat 0))]):=hloop;have hmk:∀kr,M.aN k op x y kr (aF (ks.map λt=>[D.sl true 5 (aH true ((je name X t).flat 0))]))=some (aH true ((Tn.mk k op x y (wB name X ks)).flat 0)):=by
   intro kr;have e:(ks.map λt=>[D.sl true 5 (aH true ((je name X t).flat 0))])=(wB name X ks).map λt=>[D.sl true 5 (aH true (t.flat 0))]:=by rw[H6,List.map_map];rfl
   rw[e,aa6];refine Zy _ _ _ _ _ _ ?_;have h1:=LP name X ks;have h2:sizes ks * X.size<=400 * 400:=Nat.mul_le_mul au hX;omega
  simp only[BF,M.iV,M.zX,Tn.kids,bT,dQ,hroot,Eh,aj,Zd,cN1,cN2,cN3,RU,Ed,hmk,hcopy,MJ,bZ];rw[je]
  by_cases h1:k=1
  ·rw[beq_iff_eq.2 h1,bZ]
   by_cases h2:x=name
   ·rw[beq_iff_eq.2 h2,if_pos ⟨h1,h2⟩];rfl
   ·rw[ZQ.2 h2,if_neg (by rintro⟨_,h⟩;contradiction)];rfl
  ·rw[ZQ.2 h1,if_neg (by rintro⟨h,_⟩;contradiction)];rfl
def aeR(hl:l.length<=400)(hX:X.size<=400)(t:Tn):∀(f b:Nat),Lies l b t->t.size<=f->
  M.jg f (aH o l) ((b+sizes t.kids:Nat):Int) name (aH false (X.flat 0))=some ([(je name X t).row false],name,aH false (X.flat 0)):=by
 refine Tn.ind (P:=λt=>∀(f b:Nat),Lies l b t->t.size<=f->M.jg f (aH o l) ((b+sizes t.kids:Nat):Int) name (aH false (X.flat 0))=some ([(je name X t).row false],name,aH false (X.flat 0))) ?_ t;intro k op x y ks ih f b h hf;cases f with
 |zero=>rw[Tn.size] at hf;omega
 |succ f=>
  have hroot:l[b+sizes ks]? =some ⟨k,op,x,y,ends ks b⟩:=h.root;have hlt:=h.lt;rw[Tn.size] at hf hlt;have hkl:=G8 ks;have hrec:∀j t,ks[j]? =some t->M.jg f (aH o l) ((b+sizes (ks.take j)+sizes t.kids:Nat):Int) name (aH false (X.flat 0))=some ([(je name X t).row false],name,aH false (X.flat 0)):=λj t hj=>ih t (OQ hj) f _ (Lies.QO h hj) (by have:=Ee hj;omega)
  have hdo:∀(i:Int) (us:List Tn),(us=wB name X ks)->M.mO i k op x y (jc false us) name (aH false (X.flat 0))=some ([(je name X (.mk k op x y ks)).row (decide (k=1/\x=name))],name,aH false (X.flat 0)):=by
   rintro i us rfl;have hro:=Yn (t:=X) (o:=false) au;simp only[M.mO,M.Aq,pF,hro,aj];rw[je]
   by_cases h1:k=1
   ·rw[beq_iff_eq.2 h1,bZ]
    by_cases h2:x=name
    ·rw[beq_iff_eq.2 h2,bZ,if_pos ⟨h1,h2⟩,zdt ⟨h1,h2⟩,ag5]
    ·rw[ZQ.2 h2,if_neg (by rintro⟨_,h⟩;contradiction),pX (by rintro⟨_,h⟩;contradiction)];rfl
   ·rw[ZQ.2 h1,if_neg (by rintro⟨h,_⟩;contradiction),pX (by rintro⟨h,_⟩;contradiction)];rfl
  have hloop:=lU (b:=M.oW (M.jg f))
   (t:=if ks=[] then .inl (aH o l,((b+sizes ks:Nat):Int),encI (ends ks b),(ks.length:Int),0,name,aH false (X.flat 0),k,op,x,y) else .inr (aH o l,((b+sizes ks:Nat):Int),encI (ends ks b),(ks.length:Int),(ks.length:Int),name,aH false (X.flat 0),k,op,x,y,jc false (wB name X ks)))
   (λj=>if j=0 then .inl (aH o l,((b+sizes ks:Nat):Int),encI (ends ks b),(ks.length:Int),0,name,aH false (X.flat 0),k,op,x,y) else .inr (aH o l,((b+sizes ks:Nat):Int),encI (ends ks b),(ks.length:Int),(j:Int),name,aH false (X.flat 0),k,op,x,y,jc false (wB name X (ks.take j)))) ks.length
   (by
    intro j hj;obtain⟨t,ht⟩:∃t,ks[j]? =some t:=⟨ks[j],by simp⟩
    have hr:=hrec j t ht;have he:=P9 (b:=b) ht;have hs:wB name X (ks.take (j+1))=wB name X (ks.take j)++[je name X t]:=by rw[jA ht,H6,H6,List.map_append];rfl
    have hsl:(jc false (wB name X (ks.take j))).length=j:=by rw[J8,H6,zaw,MW];omega
    rw[if_neg (show¬j+1=0 by omega),hs,P8]
    by_cases h0:j=0
    ·subst h0;rw[if_pos rfl];have hi:idx (encI (ends ks b)) 0=some [D.int .i64 ((b+sizes (ks.take 0)+sizes t.kids:Nat):Int)]:=by have:=bT (encI (ends ks b)) 0;rw[QK] at this;rw[this,lM,he];rfl
     simp only[M.oW,M.lV,hi,aj,U4,hr,Wp,pF,QX];rw[zdt au,bZ,dV au,bZ,dV au,bZ];rfl
    ·rw[if_neg h0];simp only[M.oW,M.lV,bT,lM,he,Eh,aj,U4,hr,Wp,pF,QX,hsl];rw[zdt au,bZ,dV au,bZ,dV au,bZ,aB au au];rfl)
   (by
    by_cases h0:ks.length=0
    ·have he:ks=[]:=List.length_eq_zero_iff.1 h0;rw[if_pos h0,if_pos he];simp only[M.oW,M.lV];rw[pX au,dX]
    ·have he:¬ks=[]:=λe=>h0 (by rw[e];rfl)
     rw[if_neg h0,if_neg he,List.take_length];simp only[M.oW,M.lV];rw[pX au,dX]) 0 (Nat.zero_le _)
  rw[if_pos rfl] at hloop;simp only[BF,M.jg,M.zV,Tn.kids,bT,dQ,hroot,Eh,aj,Zd,cN1,cN2,cN3,RU,dw,jH,pF];rw[M.CQ,hloop,aj]
  by_cases he:ks=[]
  ·rw[if_pos he];have:=hdo ((b+sizes ks:Nat):Int) [] (by rw[he];rfl);have e0:jc false []=[]:=rfl;rw[e0] at this;simp only[qy,this,aj,Wp,pF]
  ·rw[if_neg he];have:=hdo ((b+sizes ks:Nat):Int) _ rfl;simp only[qy,letE,this,aj,Wp,pF,PO]
end
def aks{t:Tn}(h:t.size<=200000)(hs:sml t):Ok (t.flat 0):=by have hw:=adG t 0;refine⟨by rw[t.flat_length];omega,λn hn=> ?_,(Qb t 0).1 hs,au⟩;obtain⟨h1,h2⟩:=Jt t 0 n hn;exact⟨au,λe he=>by have:=h2 e he;exact⟨au,au⟩⟩
def akt{l xs:List Nd}(name:Str)(hl:Ok l)(hx:Ok xs):(M.vP (aH false l) name (aH false xs)=some (aH true l,false)/\M.vN (aH false l) name (aH false xs)=some (aH true l,false))\/
  ∃t X,l=t.flat 0/\xs=X.flat 0/\uF l=true/\Dw xs=true/\uF ((je name X t).flat 0)=true/\Ok ((je name X t).flat 0)/\t.size<=400/\X.size<=400/\
   M.vP (aH false l) name (aH false xs)=some (aH true ((je name X t).flat 0),true)/\M.vN (aH false l) name (aH false xs)=some (aH true ((je name X t).flat 0),true):=by
 have hlen:=hl.len;have a1:=Dv l false au hl.k hl.sm;have a2:=Hz l false au hl.k hl.sm;have a3:=HY xs false (by have:=hx.len;omega) hx.k hx.sm;have a4:=LM xs false (by have:=hx.len;omega) hx.k hx.sm;have a5:=Iw l false name au;have a6:=Iy l false name au;have a7:=adF l false hl.len hl.kids;have a8:=Zx l false hl.len hl.k;simp only[M.vP,M.Gu,M.vN,M.Gt,a1,a3,a4,a5,a6,a7,a8,aj,bn];cases ht:uF l with
 |false=>
  refine .inl ⟨rfl, ?_⟩;cases he:Dw xs with
  |false=>rfl
  |true=>
   cases has:l.any (assigns l name) with
   |true=>rfl
   |false=>simp only[BF,zau,dX,M.Bl,M.FC,a2,ht,aj,Bool.not_false,bZ,a8]
 |true=>
  cases he:Dw xs with
  |false=>exact .inl ⟨rfl,rfl⟩
  |true=>
   cases has:l.any (assigns l name) with
   |true=>exact .inl ⟨rfl,rfl⟩
   |false=>
    obtain⟨t,rfl,hts⟩:=U9 (Qa ht);have hex:uF xs=true:=by unfold Dw at he;rw[su] at he;exact he.1
    obtain⟨X,rfl,hXs⟩:=U9 (Qa hex);have hs:=t.MF;have hidx:i64.wrap (((t.flat 0).length:Int) - 1)=((0+sizes t.kids:Nat):Int):=by rw[t.flat_length,aB au au];omega
    have b1:=M.VF (aol (o:=false) (name:=name) (by rw[t.flat_length];omega) hXs t t.size 0 (Lies.whole t) (zav _));have b2:=M.VD (aeR (o:=false) (name:=name) (by rw[t.flat_length];omega) hXs t t.size 0 (Lies.whole t) (zav _));have hsz:(je name X t).size<=160000:=by have h1:=Wj name X t;have h2:t.size * X.size<=400 * 400:=Nat.mul_le_mul hts hXs;omega
    have hok:Ok ((je name X t).flat 0):=aks au (Yo name X ((Qb X 0).2 hx.sm) t ((Qb t 0).2 hl.sm));have b3:=Dv ((je name X t).flat 0) false (by have:=hok.len;omega) hok.k hok.sm;have b4:=Hz ((je name X t).flat 0) false (by have:=hok.len;omega) hok.k hok.sm;have b5:=akr (t:=je name X t) (w:=false) au;have hin:M.aQ 0 0 ((0+sizes t.kids:Nat):Int)=some true:=by rw[Hy,zdt au,zdt au];rfl
    have hi0:idx [(je name X t).row false] 0=some ((je name X t).row false):=rfl;have hne:(((1:Nat):Int) !=1)=false:=rfl;generalize hTe:je name X t=T at *;have hc0:gW .i64 (T.row false) 0=some T.kind:=by cases T;rfl
    have hc1:gW .i64 (T.row false) 1=some T.op:=by cases T;rfl
    have hc2:cStr (T.row false) 2=some T.text:=by cases T;rfl
    have hc3:cStr (T.row false) 3=some T.other:=by cases T;rfl
    have hc4:SE 5 (T.row false) 4=some (jc false T.kids):=by cases T;rfl
    simp only[BF,zau,dX,hidx,b1,b2,M.Bl,M.FC,a2,ht,aj,bn,hin,pF,Wp,QX,hne,hi0,hc0,hc1,hc2,hc3,hc4,b5,b3,b4];cases hTt:uF (T.flat 0) with
    |false=>exact .inl ⟨rfl,by rw[Bool.not_false,bZ,a8];rfl⟩
    |true=>exact .inr ⟨t,X,rfl,rfl,trivial,trivial,by rw[hTe];exact hTt,by rw[hTe];exact hok,hts,hXs,by rw[hTe];rfl,by rw[hTe];rfl⟩
abbrev Env:=List (aT×Int)
def Zz:Env->aT->Int
 |[],_=>0
 |b::e,s=>bif b.1==s then b.2 else Zz e s
def J9(b:Bool):Int:=bif b then 1 else 0
def rng(v:Int):Option Int:=bif decide (-1000000000<=v) && decide (v<=1000000000) then some v else none
def two(op a b:Int):Option Int:=
 bif op==55 then some (a+b) else bif op==56 then some (a - b) else bif op==57 then some (a * b) else
 bif op==59 then(bif b==0 then none else some (a.tmod b)) else
 bif op==63 then some (J9 (decide (a<b))) else bif op==48 then some (J9 (decide (a<=b))) else bif op==47 then some (J9 (a==b)) else
 bif op==50 then some (J9 (a !=b)) else bif op==62 then some (J9 (decide (b<a))) else bif op==49 then some (J9 (decide (b<=a))) else none
section
variable (num:aT->Option Int) (e:Env)
def evN(k op:Int)(x:aT)(vs:List (Option Int)):Option Int:=
 bif k==1 then rng (Zz e x) else
 bif k==2 then num x else
 bif k==11 then(vs.headD none).bind λv=>bif op==61 then some (J9 (v==0)) else bif op==56 then some (-v) else some v else
 bif k==14 then(vs.headD none).bind λv=>bif v !=0 then vs.tail.headD none else vs.tail.tail.headD none else
 bif k==12 then(vs.headD none).bind λa=>
  bif op==44||op==45 then(bif(a !=0)==(op==44) then some (J9 (a !=0)) else(vs.tail.headD none).bind λb=>some (J9 (b !=0))) else
  (vs.tail.headD none).bind λb=>(two op a b).bind rng else none
mutual
def ev:Tn->Option Int
 | .mk k op x _ ks=>evN num e k op x (evs ks)
def evs:List Tn->List (Option Int)
 |[]=>[]
 |t::ts=>ev t::evs ts
end
end
set_option linter.unusedSectionVars false
section
variable {num:aT->Option Int} {e:Env} {name:aT} {X:Tn} {v:Int} (hX:ev num e X=some v) (hv:rng v=some v)
include hX hv
mutual
theorem abd:∀t:Tn,ev num e (je name X t)=ev num ((name,v)::e) t
 | .mk k op x y ks=>by
  have ih:=Yp ks;rw[je];split
  ·next h=>
   rw[hX,ev,evN];obtain⟨h1,h2⟩:k=1/\x=name:=by simpa using h
   subst h1 h2;rw[show((1:Int)==1)=true from rfl,bZ,Zz];simp only[BEq.rfl,bZ];exact hv.symm
  ·next h=>
   rw[ev,ev,ih,evN,evN];cases hk:k==1 with
   |false=>rfl
   |true=>
    have hx:(name==x)=false:=by rw[ZQ];intro e2;apply h;rw[beq_iff_eq.1 hk,e2];simp
    rw[bZ,bZ,Zz,hx,dX]
theorem Yp:∀ts:List Tn,evs num e (wB name X ts)=evs num ((name,v)::e) ts
 |[]=>rfl
 |t::ts=>by rw[wB,evs,evs,abd t,Yp ts]
end
end
def SA:∀(l:aT) (a n:Nat) (m:aT),Lib.decFrom a l=some n->Lib.decFrom a (l++m)=Lib.decFrom n m
 |[],a,n,m,h=>by cases h;rfl
 |b::l,a,n,m,h=>by
  rw[WI];simp only[Lib.decFrom] at h|-;cases hd:Lib.digitVal b with
  |none=>rw[hd] at h;cases h
  |some d=>rw[hd] at h;exact SA l _ n m h
def Yq{d:Nat}(h:d<10):Lib.digitVal (UInt8.ofNat (48+d))=some d:=by
 unfold Lib.digitVal;have e:(UInt8.ofNat (48+d)).toNat=48+d:=by rw[UInt8.toNat_ofNat'];omega
 rw[e,if_pos au];congr 1;omega
def acH(u:Nat):Lib.decFrom 0 (Lib.decDigits u)=some u:=by
 induction u using Nat.strongRecOn with
 |_ u ih=>
  rw[Lib.decDigits]
  by_cases h:u<10
  ·rw[dif_pos h];simp only[Lib.decFrom,Yq h,Nat.zero_mul,Nat.zero_add]
  ·rw[dif_neg h,SA _ _ _ _ (ih (u / 10) au)];simp only[Lib.decFrom,Yq (Nat.mod_lt u au)];congr 1;omega
def aeS(u:Nat):Lib.decDigits u≠[]:=by intro h;have:=congrArg List.length h;rw[Lib.decDigits_length] at this;have:=Lib.nDigits_pos u;simp at *;omega
def NH(u:Nat):Lib.decNat (Lib.decDigits u)=some u:=by unfold Lib.decNat;rw[if_neg (by simp[aeS u])];exact acH u
def H7:∀(k u:Nat),u<10 ^ k->1<=k->Lib.nDigits u<=k
 |0,_,_,h=>by omega
 |k+1,u,h,_=>by
  by_cases h10:u<10
  ·rw[Lib.nDigits_small h10];omega
  ·rw[Lib.nDigits_big h10];rw[Nat.pow_succ] at h;cases k with
   |zero=>simp at h;omega
   |succ k=>have:=H7 (k+1) (u / 10) au au;omega
def LQ(u:Nat):∃(c:UInt8) (r:aT),Lib.decDigits u=c::r/\48<=c.toNat/\c.toNat<=57:=by
 induction u using Nat.strongRecOn with
 |_ u ih=>
  rw[Lib.decDigits]
  by_cases h:u<10
  ·rw[dif_pos h];refine⟨_,[],rfl, ?_, ?_⟩<;>rw[UInt8.toNat_ofNat']<;>omega
  ·rw[dif_neg h];obtain⟨c,r,e,h1,h2⟩:=ih (u / 10) au;exact⟨c,r++[UInt8.ofNat (48+u % 10)],by rw[e];rfl,h1,h2⟩
def Yr(v:Int):Ls (Lib.itoa v)=Lib.decDigits v.natAbs:=by
 unfold Lib.itoa
 by_cases h:v<0
 ·rw[if_pos h];rfl
 ·rw[if_neg h];obtain⟨c,r,e,h1,h2⟩:=LQ v.toNat;have:v.toNat=v.natAbs:=au;rw[<-this,e,Ls];intro t ht;injection ht with h3 _;rw[h3] at h1;simp at h1
def Wq{v:Int}(h:v.natAbs<1000000000):(Lib.itoa v).length<=10:=by
 have h1:=H7 9 v.natAbs au au;unfold Lib.itoa;split
 ·rw[OL,Lib.decDigits_length];omega
 ·rw[Lib.decDigits_length,show v.toNat=v.natAbs by omega];omega
def aeT{v:Int}(h:v.natAbs<1000000000):Lib.atoiAll (Lib.itoa v)=.ok v:=by
 rw[Lib.atoiAll_short _ (by have:=Wq h;omega)];unfold Lib.itoa
 by_cases hv:v<0
 ·rw[if_pos hv,Lib.atoi,if_pos (by decide),NH];show Lib.NumEnd.ok (-(v.natAbs:Int))=_;congr 1;omega
 ·rw[if_neg hv];obtain⟨c,r,e,h1,h2⟩:=LQ v.toNat;have hd:=NH v.toNat;rw[e] at hd|-;rw[Lib.atoi,if_neg,if_neg,hd]
  ·show Lib.NumEnd.ok ((v.toNat:Nat):Int)=_;congr 1;omega
  ·intro e2;rw[beq_iff_eq.1 e2] at h1;simp at h1
  ·intro e2;rw[beq_iff_eq.1 e2] at h1;simp at h1
def QT{s:aT}{v:Int}:zT s=some v↔s=Lib.itoa v/\v.natAbs<1000000000:=by
 constructor
 ·intro h;unfold zT at h;split at h
  ·rename_i w hw;cases hc:(Lib.itoa w==s && Nat.ble (Ls s).length 9) with
   |false=>rw[hc] at h;cases h
   |true=>rw[hc] at h;cases h;rw[su,beq_iff_eq,Nat.ble_eq] at hc;obtain⟨rfl,h9⟩:=hc;refine⟨rfl, ?_⟩;rw[Yr,Lib.decDigits_length] at h9;have h1:=Lib.lt_pow_nDigits v.natAbs;have h2:10 ^ Lib.nDigits v.natAbs<=10 ^ 9:=Nat.pow_le_pow_right au h9;omega
  ·cases h
 ·rintro⟨rfl,h⟩;unfold zT;rw[aeT h];have h1:=H7 9 v.natAbs au au;have h2:Nat.ble (Ls (Lib.itoa v)).length 9=true:=by rw[Yr,Lib.decDigits_length,Nat.ble_eq];exact h1
  simp[h2]
def vR(o:Option Int):Int×Bool:=match o with
 |some v=>(v,true)
 |none=>(0,false)
def abe{v w:Int}(h:rng v=some w):w=v/\ -1000000000<=v/\v<=1000000000:=by
 unfold rng at h;cases hb:(decide (-1000000000<=v) && decide (v<=1000000000)) with
 |false=>rw[hb] at h;cases h
 |true=>rw[hb] at h;cases h;rw[su,decide_eq_true_eq,decide_eq_true_eq] at hb;exact⟨rfl,hb⟩
def ag7{v:Int}(h1: -1000000000<=v)(h2:v<=1000000000):rng v=some v:=by unfold rng;rw[zdt h1,zdt h2];rfl
def SB(v:Int):Prop:= -1000000000<=v/\v<=1000000000
def Ko(b:Bool):SB (J9 b):=by cases b<;>simp[J9,SB]
def hasK(k:Int)(n:Nat):Prop:=(k=11->1<=n)/\(k=12->2<=n)/\(k=14->3<=n)
mutual
def evK:Tn->Prop
 | .mk k _ x _ ks=>hasK k ks.length/\x.length<=1048576/\ag8 ks
def ag8:List Tn->Prop
 |[]=>True
 |t::ts=>evK t/\ag8 ts
end
def Ws:∀{ks:List Tn},ag8 ks->∀t,t∈ks->evK t
 |t::ts,h,u,hu=>by
  rw[ag8] at h;rcases List.mem_cons.1 hu with rfl|hu
  ·exact h.1
  ·exact Ws h.2 u hu
section
variable {num:aT->Option Int} {e:Env} (hr:∀x v,num x=some v->SB v)
include hr
theorem ag9(t:Tn):∀v,ev num e t=some v->SB v:=by
 refine Tn.ind (P:=λt=>∀v,ev num e t=some v->SB v) ?_ t;intro k op x y ks ih v h;have hk:∀o,(∃u,u∈ks/\o=ev num e u)\/o=none->∀w,o=some w->SB w:=by
  rintro o (⟨u,hu,rfl⟩|rfl) w hw
  ·exact ih u hu w hw
  ·cases hw
 have g0:∀l:List Tn,(∀u,u∈l->u∈ks)->(∃u,u∈ks/\(evs num e l).headD none=ev num e u)\/(evs num e l).headD none=none:=by
  intro l hl;cases l with
  |nil=>exact .inr rfl
  |cons u l=>exact .inl ⟨u,hl u (by simp),rfl⟩
 have a0:=hk _ (g0 ks λu h=>h);have e1:(evs num e ks).tail=evs num e ks.tail:=by cases ks<;>rfl
 have e2:(evs num e ks).tail.tail=evs num e ks.tail.tail:=by rw[e1];cases ks.tail<;>rfl
 have a1:∀w,(evs num e ks).tail.headD none=some w->SB w:=by rw[e1];exact hk _ (g0 ks.tail λu h=>List.mem_of_mem_tail h)
 have a2:∀w,(evs num e ks).tail.tail.headD none=some w->SB w:=by rw[e2];exact hk _ (g0 ks.tail.tail λu h=>List.mem_of_mem_tail (List.mem_of_mem_tail h))
 rw[ev,evN] at h;generalize (evs num e ks).headD none=o0 at *;generalize (evs num e ks).tail.headD none=o1 at *;generalize (evs num e ks).tail.tail.headD none=o2 at *;cases h1:k==1 with
 |true=>rw[h1,bZ] at h;obtain⟨rfl,h2⟩:=abe h;exact h2
 |false=>
 rw[h1,dX] at h;cases h2:k==2 with
 |true=>rw[h2,bZ] at h;exact hr _ _ h
 |false=>
 rw[h2,dX] at h;cases h3:k==11 with
 |true=>
  rw[h3,bZ] at h;cases o0 with
  |none=>cases h
  |some w=>
   have hw:=a0 w rfl;rw[Option.bind_some] at h;cases h4:op==61 with
   |true=>rw[h4] at h;cases h;exact Ko _
   |false=>
    rw[h4,dX] at h;cases h5:op==56 with
    |true=>rw[h5] at h;cases h;unfold SB at *;omega
    |false=>rw[h5] at h;cases h;exact hw
 |false=>
 rw[h3,dX] at h;cases h4:k==14 with
 |true=>
  rw[h4,bZ] at h;cases o0 with
  |none=>cases h
  |some w=>
   rw[Option.bind_some] at h;cases h5:w !=0 with
   |true=>rw[h5] at h;exact a1 v h
   |false=>rw[h5] at h;exact a2 v h
 |false=>
 rw[h4,dX] at h;cases h5:k==12 with
 |false=>rw[h5] at h;cases h
 |true=>
  rw[h5,bZ] at h;cases o0 with
  |none=>cases h
  |some w=>
   rw[Option.bind_some] at h;cases h6:(op==44||op==45) with
   |true=>
    rw[h6,bZ] at h;cases h7:(w !=0)==(op==44) with
    |true=>rw[h7] at h;cases h;exact Ko _
    |false=>
     rw[h7,dX] at h;cases o1 with
     |none=>cases h
     |some z=>cases h;exact Ko _
   |false=>
    rw[h6,dX] at h;cases o1 with
    |none=>cases h
    |some z=>
     rw[Option.bind_some] at h;cases h7:two op w z with
     |none=>rw[h7] at h;cases h
     |some q=>rw[h7,Option.bind_some] at h;obtain⟨rfl,h8⟩:=abe h;exact h8
end
def aku(b:aT×Int):Row:=[D.str b.1,D.int .i64 b.2]
def xX(e:Env):ay:=e.map aku
def Dx(e:Env):(xX e).length=e.length:=by simp[xX]
def Yt{e:Env}{i:Nat}{b:aT×Int}(h:e[i]? =some b):(xX e)[i]? =some (aku b):=by simp[xX,h]
def b0(b:aT×Int):cStr (aku b) 0=some b.1:=rfl
def b1(b:aT×Int):gW .i64 (aku b) 1=some b.2:=rfl
def Yu(e:Env)(s:aT){b:Int->Option (Int⊕(Int⊕Int))}(hb:∀(i:Nat) x,e[i]? =some x->b (i:Int)=some (bif x.1==s then .inr (.inl x.2) else .inl ((i+1:Nat):Int)))(he:b (e.length:Int)=some (.inr (.inr (e.length:Int)))):
  ∀(r:Env) (i:Nat),e.drop i=r->i<=e.length->∃q,fG b (i:Int)=some q/\(match q with| .inl x=>x| .inr _=>0)=Zz r s:=by
 intro r;induction r with
 |nil=>
  intro i hr hi;have:i=e.length:=by have:=congrArg List.length hr;simp at this;omega
  subst this;exact⟨_,dJ he,rfl⟩
 |cons x r ih=>
  intro i hr hi;have hx:e[i]? =some x:=by have:=congrArg (λl=>l[0]?) hr;simpa using this
  have hlt:=(FK.1 hx).1;have hs:=hb i x hx;cases hc:x.1==s with
  |true=>rw[hc,bZ] at hs;exact⟨_,dJ hs,by rw[Zz,hc,bZ]⟩
  |false=>rw[hc,dX] at hs;obtain⟨q,q1,q2⟩:=ih (i+1) (by have:=congrArg List.tail hr;simpa[List.tail_drop] using this) au;exact⟨q,(iD hs).trans q1,by rw[Zz,hc,dX];exact q2⟩
def abf{e:Env}(h:e.length<=1000000)(s:aT):M.yC (xX e) s=some (Zz e s)/\M.yE (xX e) s=some (Zz e s):=by
 constructor
 ·obtain⟨q,q1,q2⟩:=Yu e s (b:=M.AP (xX e) s) (λi x hx=>by
   have hlt:=(FK.1 hx).1;simp only[M.AP,M.wO,Dx,bT,Yt hx,aj,b0,b1];rw[zdt au,bZ,aB au au];cases x.1==s<;>rfl) (by
   simp only[M.AP,M.wO,Dx];rw[pX au,dX]) e 0 rfl (Nat.zero_le _)
  have q1':M.E9 (xX e) s 0=some q:=q1;simp only[M.yC,M.Gv,q1',aj];rw[<-q2];cases q<;>rfl
 ·obtain⟨q,q1,q2⟩:=Yu e s (b:=M.AU s (xX e) (e.length:Int)) (λi x hx=>by
   have hlt:=(FK.1 hx).1;simp only[M.AU,M.wP,Dx,bT,Yt hx,aj,b0,b1];rw[zdt au,bZ,aB au au];cases x.1==s<;>rfl) (by
   simp only[M.AU,M.wP,Dx];rw[pX au,dX]) e 0 rfl (Nat.zero_le _)
  have q1':M.Fb s (xX e) (e.length:Int) 0=some q:=q1;simp only[M.yE,M.Gw,Dx,q1',aj];rw[<-q2];cases q<;>rfl
def ZA(b:Bool):M.jE b=some (J9 b):=by cases b<;>rfl
def ZB(b:Bool):M.gX b=some (J9 b):=by cases b<;>rfl
def FZ(v:Int):(bif !(decide (v>= -1000000000) && decide (v<=1000000000)) then some ((0:Int),false) else some (v,true))=some (vR (rng v)):=by unfold rng;have:decide (v>= -1000000000)=decide (-1000000000<=v):=rfl;rw[this];cases(decide (-1000000000<=v) && decide (v<=1000000000))<;>rfl
def adH{a b:Int}(ha:SB a)(hb:SB b):i64.wrap (a+b)=a+b/\i64.wrap (a - b)=a - b/\i64.wrap (a * b)=a * b:=by
 unfold SB at *;refine⟨aB au au,aB au au, ?_⟩;have h1:a * b<=1000000000 * 1000000000:=by have:=Int.natAbs_mul a b;have h2:a.natAbs<=1000000000:=au;have h3:b.natAbs<=1000000000:=au;have h4:a.natAbs * b.natAbs<=1000000000 * 1000000000:=Nat.mul_le_mul h2 h3;omega
 have h1': -(1000000000 * 1000000000)<=a * b:=by have:=Int.natAbs_mul a b;have h2:a.natAbs<=1000000000:=au;have h3:b.natAbs<=1000000000:=au;have h4:a.natAbs * b.natAbs<=1000000000 * 1000000000:=Nat.mul_le_mul h2 h3;omega
 exact aB au au
def acI{a b:Int}(op:Int)(ha:SB a)(hb:SB b):M.qP op a b=some (vR ((two op a b).bind rng)):=by
 obtain⟨w1,w2,w3⟩:=adH ha hb;have hw:∀v,M.aQ v (-1000000000) 1000000000=some (decide (v>= -1000000000) && decide (v<=1000000000)):=λv=>bP v _ _
 have hgt:decide (a>b)=decide (b<a):=rfl;have hge:decide (a>=b)=decide (b<=a):=rfl;have hdz:decide (b=0)=(b==0):=rfl;simp only[M.qP,M.Dk,w1,w2,w3,hw,ZA,aj,two,hgt,hge,hdz];cases op==55 with
 |true=>exact FZ _
 |false=>cases op==56 with
  |true=>exact FZ _
  |false=>cases op==57 with
   |true=>exact FZ _
   |false=>cases op==59 with
    |true=>cases hz:b==0 with
     |true=>rfl
     |false=>exact FZ _
    |false=>cases op==63 with
     |true=>exact FZ _
     |false=>cases op==48 with
      |true=>exact FZ _
      |false=>cases op==47 with
       |true=>exact FZ _
       |false=>cases op==50 with
        |true=>exact FZ _
        |false=>cases op==62 with
         |true=>exact FZ _
         |false=>cases op==49 with
          |true=>exact FZ _
          |false=>rfl
def aom{a b:Int}(op:Int)(ha:SB a)(hb:SB b):M.vG op a b=some (vR (two op a b)):=by
 obtain⟨w1,w2,w3⟩:=adH ha hb;have hgt:decide (a>b)=decide (b<a):=rfl;have hge:decide (a>=b)=decide (b<=a):=rfl;have hdz:decide (b=0)=(b==0):=rfl;simp only[M.vG,M.Fa,w1,w2,w3,ZB,aj,two,hgt,hge,hdz];cases op==55 with
 |true=>rfl
 |false=>cases op==56 with
  |true=>rfl
  |false=>cases op==57 with
   |true=>rfl
   |false=>cases op==59 with
    |true=>cases hz:b==0 with
     |true=>rfl
     |false=>rfl
    |false=>cases op==63 with
     |true=>rfl
     |false=>cases op==48 with
      |true=>rfl
      |false=>cases op==47 with
       |true=>rfl
       |false=>cases op==50 with
        |true=>rfl
        |false=>cases op==62 with
         |true=>rfl
         |false=>cases op==49 with
          |true=>rfl
          |false=>rfl
def c0T(u:Tn):gW .i64 (u.row false) 0=some u.kind:=by cases u;rfl
def c1T(u:Tn):gW .i64 (u.row false) 1=some u.op:=by cases u;rfl
def c2T(u:Tn):cStr (u.row false) 2=some u.text:=by cases u;rfl
def c3T(u:Tn):cStr (u.row false) 3=some u.other:=by cases u;rfl
def c4T(u:Tn):SE 5 (u.row false) 4=some (jc false u.kids):=by cases u;rfl
section
variable {num:aT->Option Int} {e:Env} (he:e.length<=1000000) (hn:∀x,x.length<=1048576->M.oK x=some (vR (num x))) (hr:∀x v,num x=some v->SB v)
include he hn hr
theorem akv(t:Tn):∀f,2 * t.size<=f->evK t->M.rF f t.kind t.op t.text t.other (jc false t.kids) (xX e)=some (vR (ev num e t)):=by
 refine Tn.ind (P:=λt=>∀f,2 * t.size<=f->evK t->M.rF f t.kind t.op t.text t.other (jc false t.kids) (xX e)=some (vR (ev num e t))) ?_ t;intro k op x y ks ih f hf hk;rw[Tn.size] at hf;obtain⟨g,rfl⟩:∃g,f=g+2:=⟨f - 2,au⟩
 rw[evK] at hk;obtain⟨⟨h11,h12,h14⟩,hx,hks⟩:=hk;have K:∀u,u∈ks->∀h,2 * sizes ks<=h->M.rF h u.kind u.op u.text u.other (jc false u.kids) (xX e)=some (vR (ev num e u)):=λu hu h hh=>ih u hu h (by have:=Qz hu;omega) (Ws hks u hu)
 have I:=fun(u:Tn) v (h:ev num e u=some v)=>ag9 hr u v h
 have hw:∀v,M.aQ v (-1000000000) 1000000000=some (decide (v>= -1000000000) && decide (v<=1000000000)):=λv=>bP v _ _
 rw[M.aaQ];simp only[BF,M.Bo,Tn.kind,Tn.op,Tn.text,Tn.other,Tn.kids,(abf he x).2,hn x hx,hw,aj];rw[ev,evN];cases k1:k==1 with
 |true=>exact FZ _
 |false=>
 cases k2:k==2 with
 |true=>rfl
 |false=>
 cases k3:k==11 with
 |true=>
  obtain⟨u,r,rfl⟩:∃u r,ks=u::r:=by
   cases ks with
   |nil=>have:=h11 (beq_iff_eq.1 k3);simp at this
   |cons u r=>exact⟨u,r,rfl⟩
  have i0:idx (jc false (u::r)) 0=some (u.row false):=rfl;have e0:(evs num e (u::r)).headD none=ev num e u:=rfl;simp only[dX,bZ,i0,c0T,c1T,c2T,c3T,c4T,aj,K u (by simp) _ (show 2 * sizes (u::r)<=g+1 by omega),e0];cases hv:ev num e u with
  |none=>rfl
  |some v=>
   have hi:=I u v hv;have w:i64.wrap (0 - v)= -v:=by unfold SB at hi;rw[aB au au];omega
   simp only[vR,zau,dX,w,ZA,aj,Option.bind_some];cases h1:op==56 with
   |true=>
    have:(op==61)=false:=by rw[beq_iff_eq.1 h1];rfl
    rw[this];rfl
   |false=>cases op==61<;>rfl
 |false=>
 cases k4:k==14 with
 |true=>
  obtain⟨u0,u1,u2,r,rfl⟩:∃u0 u1 u2 r,ks=u0::u1::u2::r:=by
   have:=h14 (beq_iff_eq.1 k4)
   match ks,this with
   |u0::u1::u2::r,_=>exact⟨u0,u1,u2,r,rfl⟩
  have i0:idx (jc false (u0::u1::u2::r)) 0=some (u0.row false):=rfl;have i1:idx (jc false (u0::u1::u2::r)) 1=some (u1.row false):=rfl;have i2:idx (jc false (u0::u1::u2::r)) 2=some (u2.row false):=rfl;have e0:(evs num e (u0::u1::u2::r)).headD none=ev num e u0:=rfl;have e1:(evs num e (u0::u1::u2::r)).tail.headD none=ev num e u1:=rfl;have e2:(evs num e (u0::u1::u2::r)).tail.tail.headD none=ev num e u2:=rfl;have hg:2 * sizes (u0::u1::u2::r)<=g+1:=au;simp only[dX,bZ,i0,i1,i2,c0T,c1T,c2T,c3T,c4T,aj,K u0 (by simp) _ hg,K u1 (by simp) _ hg,K u2 (by simp) _ hg,e0,e1,e2];cases hv:ev num e u0 with
  |none=>rfl
  |some v=>simp only[vR,zau,dX,Option.bind_some];cases v !=0<;>rfl
 |false=>
 cases k5:k==12 with
 |false=>rfl
 |true=>
  obtain⟨u0,u1,r,rfl⟩:∃u0 u1 r,ks=u0::u1::r:=by
   have:=h12 (beq_iff_eq.1 k5)
   match ks,this with
   |u0::u1::r,_=>exact⟨u0,u1,r,rfl⟩
  have i0:idx (jc false (u0::u1::r)) 0=some (u0.row false):=rfl;have i1:idx (jc false (u0::u1::r)) 1=some (u1.row false):=rfl;have e0:(evs num e (u0::u1::r)).headD none=ev num e u0:=rfl;have e1:(evs num e (u0::u1::r)).tail.headD none=ev num e u1:=rfl;have hg:2 * sizes (u0::u1::r)<=g:=au;rw[M.VL];simp only[BF,M.uy,dX,bZ,i0,i1,c0T,c1T,c2T,c3T,c4T,aj,K u0 (by simp) _ hg,K u1 (by simp) _ hg,e0,e1];cases hv:ev num e u0 with
  |none=>rfl
  |some v=>
   have hi:=I u0 v hv;simp only[vR,zau,dX,Option.bind_some,ZA,aj];cases h45:op==45 with
   |true=>
    have:(op==44)=false:=by rw[beq_iff_eq.1 h45];rfl
    simp only[this,Bool.or_true,bZ];cases(v !=0)==false with
    |true=>rfl
    |false=>cases ev num e u1<;>rfl
   |false=>
    cases h44:op==44 with
    |true=>
     simp only[Bool.true_or,bZ,dX];cases(v !=0)==true with
     |true=>rfl
     |false=>cases ev num e u1<;>rfl
    |false=>
     simp only[Bool.false_or,dX];cases hv1:ev num e u1 with
     |none=>rfl
     |some z=>simp only[zau,dX,acI op hi (I u1 z hv1),aj,Option.bind_some];rfl
end
def atR(r:Int×Bool):Int×Bool:=bif !r.2 then(0,false) else bif !(decide (r.1>= -1000000000) && decide (r.1<=1000000000)) then(0,false) else(r.1,true)
def Wu(v:Int):atR (v,true)=vR (rng v):=by
 have:=FZ v;unfold atR;simp only[zau,dX];cases h:(decide (v>= -1000000000) && decide (v<=1000000000)) with
 |true=>rw[h] at this;exact Option.some.inj this
 |false=>rw[h] at this;exact Option.some.inj this
def Kq{v:Int}(h:SB v):atR (v,true)=vR (some v):=by rw[Wu,ag7 h.1 h.2]
def MK{ks:List Tn}{b j:Nat}{u:Tn}(hu:ks[j]? =some u):idx (encI (ends ks b)) (j:Int)=some [D.int .i64 ((b+sizes (ks.take j)+sizes u.kids:Nat):Int)]:=by rw[bT,lM,P9 hu];rfl
section
variable {num:aT->Option Int} {e:Env} {l:List Nd} {o:Bool} (he:e.length<=1000000) (hn:∀x,x.length<=1048576->M.oJ x=some (vR (num x))) (hr:∀x v,num x=some v->SB v)
include he hn hr
theorem akw(t:Tn):∀f b,Lies l b t->3 * t.size<=f->evK t->M.mW f (aH o l) ((b+sizes t.kids:Nat):Int) (xX e)=some (vR (ev num e t)):=by
 refine Tn.ind (P:=λt=>∀f b,Lies l b t->3 * t.size<=f->evK t->M.mW f (aH o l) ((b+sizes t.kids:Nat):Int) (xX e)=some (vR (ev num e t))) ?_ t;intro k op x y ks ih f b hl hf hk;rw[Tn.size] at hf;obtain⟨g,rfl⟩:∃g,f=g+3:=⟨f - 3,au⟩
 rw[evK] at hk;obtain⟨⟨h11,h12,h14⟩,hx,hks⟩:=hk;have K:∀(j:Nat) u,ks[j]? =some u->∀h,3 * sizes ks<=h->M.mW h (aH o l) ((b+sizes (ks.take j)+sizes u.kids:Nat):Int) (xX e)=some (vR (ev num e u)):=λj u hu h hh=>ih u (OQ hu) h _ (Lies.QO hl hu) (by have:=Qz (OQ hu);omega) (Ws hks u (OQ hu))
 have I:=fun(u:Tn) v (h:ev num e u=some v)=>ag9 hr u v h
 have I0:∀u:Tn,SB (vR (ev num e u)).1:=by
  intro u;cases h:ev num e u with
  |none=>simp[vR,SB]
  |some v=>exact I u v h
 have hro:idx (aH o l) ((b+sizes ks:Nat):Int)=some (DC o ⟨k,op,x,y,ends ks b⟩):=by have:=Lies.root' hl;rw[bT,dQ];simp only[Tn.kids,Tn.kind,Tn.op,Tn.text,Tn.other] at this;rw[this];rfl
 have hin:∀v,M.bK v (-1000000000) 1000000000=some (decide (v>= -1000000000) && decide (v<=1000000000)):=λv=>dI v _ _
 have fin:∀r:Int×Bool,M.yN (g+2) (aH o l) k op x y (encI (ends ks b)) (xX e)=some r->atR r=vR (ev num e (.mk k op x y ks))->M.mW (g+3) (aH o l) ((b+sizes (Tn.mk k op x y ks).kids:Nat):Int) (xX e)=some (vR (ev num e (.mk k op x y ks))):=by
  intro r h1 h2;rw[M.Zn];simp only[BF,M.zI,Tn.kids,hro,Zd,cN1,cN2,cN3,RU,aj,h1,hin];rw[<-h2];unfold atR;cases r.2 with
  |false=>rfl
  |true=>simp only[zau,dX];cases(decide (r.1>= -1000000000) && decide (r.1<=1000000000))<;>rfl
 rw[M.VJ] at fin;simp only[M.uq,(abf he x).1,hn x hx,aj] at fin;rw[ev,evN] at fin|-;cases k1:k==1 with
 |true=>rw[k1] at fin;exact fin _ rfl (Wu _)
 |false=>
 cases k2:k==2 with
 |true=>
  rw[k1,k2] at fin;refine fin _ rfl ?_;cases hv:num x with
  |none=>rfl
  |some v=>exact Kq (hr x v hv)
 |false=>
 cases k3:k==11 with
 |true=>
  obtain⟨u,r,rfl⟩:∃u r,ks=u::r:=by
   cases ks with
   |nil=>have:=h11 (beq_iff_eq.1 k3);simp at this
   |cons u r=>exact⟨u,r,rfl⟩
  have i0:idx (encI (ends (u::r) b)) 0=_:=MK (j:=0) rfl;have e0:(evs num e (u::r)).headD none=ev num e u:=rfl;simp only[k1,k2,k3,dX,bZ,i0,U4,aj,K 0 u rfl _ (show 3 * sizes (u::r)<=g+1 by omega),e0,ZB] at fin|-;have hI:=I u;cases hv:ev num e u with
  |none=>
   rw[hv] at fin;cases h61:op==61 with
   |true=>rw[h61] at fin;exact fin _ rfl rfl
   |false=>
    rw[h61] at fin;cases h56:op==56 with
    |true=>rw[h56] at fin;exact fin _ rfl rfl
    |false=>rw[h56] at fin;exact fin _ rfl rfl
  |some v=>
   have hi:=hI v hv;have w:i64.wrap (0 - v)= -v:=by unfold SB at hi;rw[aB au au];omega
   rw[hv] at fin;simp only[vR,w] at fin;cases h61:op==61 with
   |true=>
    rw[h61] at fin;cases hz:v==0 with
    |true=>rw[hz] at fin;exact fin _ rfl (by simp only[Option.bind_some,hz,bZ];exact Kq (Ko true))
    |false=>rw[hz] at fin;exact fin _ rfl (by simp only[Option.bind_some,hz,bZ];exact Kq (Ko false))
   |false=>
    rw[h61] at fin;cases h56:op==56 with
    |true=>rw[h56] at fin;exact fin _ rfl (Kq (by unfold SB at *;omega))
    |false=>rw[h56] at fin;exact fin _ rfl (Kq hi)
 |false=>
 cases k4:k==14 with
 |true=>
  obtain⟨u0,u1,u2,r,rfl⟩:∃u0 u1 u2 r,ks=u0::u1::u2::r:=by
   have:=h14 (beq_iff_eq.1 k4)
   match ks,this with
   |u0::u1::u2::r,_=>exact⟨u0,u1,u2,r,rfl⟩
  have i0:idx (encI (ends (u0::u1::u2::r) b)) 0=_:=MK (j:=0) rfl;have i1:idx (encI (ends (u0::u1::u2::r) b)) 1=_:=MK (j:=1) rfl;have i2:idx (encI (ends (u0::u1::u2::r) b)) 2=_:=MK (j:=2) rfl;have e0:(evs num e (u0::u1::u2::r)).headD none=ev num e u0:=rfl;have e1:(evs num e (u0::u1::u2::r)).tail.headD none=ev num e u1:=rfl;have e2:(evs num e (u0::u1::u2::r)).tail.tail.headD none=ev num e u2:=rfl;have hg:3 * sizes (u0::u1::u2::r)<=g+1:=au;simp only[k1,k2,k3,k4,dX,bZ,i0,i1,i2,U4,aj,K 0 u0 rfl _ hg,K 1 u1 rfl _ hg,K 2 u2 rfl _ hg,e0,e1,e2] at fin|-;cases hv:ev num e u0 with
  |none=>rw[hv] at fin;exact fin _ rfl rfl
  |some v=>
   rw[hv] at fin;simp only[vR,zau,dX,Option.bind_some] at fin|-;cases hz:v !=0 with
   |true=>
    rw[hz] at fin;refine fin _ rfl ?_;cases hv1:ev num e u1 with
    |none=>rfl
    |some z=>exact Kq (I u1 z hv1)
   |false=>
    rw[hz] at fin;refine fin _ rfl ?_;cases hv1:ev num e u2 with
    |none=>rfl
    |some z=>exact Kq (I u2 z hv1)
 |false=>
 cases k5:k==12 with
 |false=>rw[k1,k2,k3,k4,k5] at fin;exact fin _ rfl rfl
 |true=>
  obtain⟨u0,u1,r,rfl⟩:∃u0 u1 r,ks=u0::u1::r:=by
   have:=h12 (beq_iff_eq.1 k5)
   match ks,this with
   |u0::u1::r,_=>exact⟨u0,u1,r,rfl⟩
  have i0:idx (encI (ends (u0::u1::r) b)) 0=_:=MK (j:=0) rfl;have i1:idx (encI (ends (u0::u1::r) b)) 1=_:=MK (j:=1) rfl;have e0:(evs num e (u0::u1::r)).headD none=ev num e u0:=rfl;have e1:(evs num e (u0::u1::r)).tail.headD none=ev num e u1:=rfl;have hg:3 * sizes (u0::u1::r)<=g:=au;have lz:M.yM (g+1) (aH o l) k op x y (encI (ends (u0::u1::r) b)) (xX e)=some (match ev num e u0 with
    |none=>(0,false)
    |some v=>bif(v !=0)==(op==44) then(J9 (v !=0),true) else(J9 ((vR (ev num e u1)).1 !=0),(vR (ev num e u1)).2)):=by
   rw[M.VI];simp only[M.uo,i0,i1,U4,aj,K 0 u0 rfl _ hg,K 1 u1 rfl _ hg,ZB];cases ev num e u0 with
   |none=>rfl
   |some v=>simp only[vR,zau,dX];cases(v !=0)==(op==44)<;>rfl
  have tw:=aom op (I0 u0) (I0 u1);simp only[k1,k2,k3,k4,k5,dX,bZ,i0,i1,U4,aj,K 0 u0 rfl _ (show 3 * sizes (u0::u1::r)<=g+1 by omega),K 1 u1 rfl _ (show 3 * sizes (u0::u1::r)<=g+1 by omega),e0,e1,lz,tw] at fin|-;have lazy:∀c:Bool,c=(op==44)->atR (match ev num e u0 with
    |none=>((0:Int),false)
    |some v=>bif(v !=0)==c then(J9 (v !=0),true) else(J9 ((vR (ev num e u1)).1 !=0),(vR (ev num e u1)).2))=vR ((ev num e u0).bind λa=>bif(a !=0)==c then some (J9 (a !=0)) else(ev num e u1).bind λb=>some (J9 (b !=0))):=by
   intro c _;cases ev num e u0 with
   |none=>rfl
   |some v=>
    simp only[Option.bind_some];cases(v !=0)==c with
    |true=>exact Kq (Ko _)
    |false=>
     cases ev num e u1 with
     |none=>rfl
     |some z=>exact Kq (Ko _)
  cases h45:op==45 with
  |true=>rw[h45] at fin;refine fin _ rfl ?_;simp only[Bool.or_true,bZ];exact lazy _ rfl
  |false=>
   rw[h45] at fin;cases h44:op==44 with
   |true=>rw[h44] at fin;refine fin _ rfl ?_;simp only[Bool.true_or,bZ];have:=lazy _ rfl;rw[h44] at this;exact this
   |false=>
    rw[h44] at fin;simp only[dX,Bool.or_false] at fin|-;have hq:∀T A B:Int×Bool,(bif T.2 then(bif A.2 then some (T.1,B.2) else some (T.1,false)) else some (T.1,false))=some (T.1,T.2 &&(A.2 && B.2)):=by rintro⟨_,a⟩ ⟨_,b⟩ ⟨_,c⟩;cases a<;>cases b<;>rfl
    refine fin _ (hq _ _ _) ?_;cases hv0:ev num e u0 with
    |none=>cases ht:two op (vR (none:Option Int)).1 (vR (ev num e u1)).1<;>rfl
    |some v=>
     cases hv1:ev num e u1 with
     |none=>cases ht:two op v 0<;>simp[vR,ht,atR]
     |some z=>
      cases ht:two op v z with
      |none=>simp[vR,ht,atR]
      |some q=>simp only[vR,ht,Bool.and_self,Option.bind_some];exact Wu q
end
def aha(neg:Bool)(n:Nat)(out:aT)(h0:0<n)(h3:n<1000000000000)(hl:out.length<=1000000):
  M.zZ neg ((n:Int),out)=some (.inl (((n / 10:Nat):Int),[UInt8.ofNat (48+n % 10)]++out))/\
  M.zZ neg (-(n:Int),out)=some (.inl (-((n / 10:Nat):Int),[UInt8.ofNat (48+n % 10)]++out)):=by
 have hm:(n:Int).tmod 10=((n % 10:Nat):Int):=rfl;have hd:(n:Int).tdiv 10=((n / 10:Nat):Int):=rfl;have hm':(-(n:Int)).tmod 10= -((n % 10:Nat):Int):=by rw[Int.neg_tmod];rfl
 have hd':(-(n:Int)).tdiv 10= -((n / 10:Nat):Int):=by rw[Int.neg_tdiv];rfl
 have hlt:n % 10<10:=Nat.mod_lt _ au;have hle:n / 10<=n:=Nat.div_le_self _ _;have hw1:i64.wrap (48+((n % 10:Nat):Int))=((48+n % 10:Nat):Int):=by rw[aB au au];omega
 have hw0:i64.wrap (0 - -((n % 10:Nat):Int))=((n % 10:Nat):Int):=by rw[aB au au];omega
 have hw2:IntKind.u8.wrap ((48+n % 10:Nat):Int)=((48+n % 10:Nat):Int):=by
  have:IntKind.u8.wrap ((48+n % 10:Nat):Int)=((48+n % 10:Nat):Int) % 256:=by simp[IntKind.wrap,IntKind.bits,IntKind.signed]
  rw[this];omega
 have hw3:i64.wrap ((n / 10:Nat):Int)=((n / 10:Nat):Int):=aB au au;have hw4:i64.wrap (-((n / 10:Nat):Int))= -((n / 10:Nat):Int):=aB au au;have hne:((n:Int) !=0)=true:=by simp;omega
 have hne':((-(n:Int)) !=0)=true:=by simp;omega
 constructor
 ·simp only[M.zZ,M.zY,hne,bZ,hm,hd,hw1,hw2,hw3,Qi,OL,zln];rw[pX au,dX,dV au,bZ]
 ·simp only[M.zZ,M.zY,hne',bZ,hm',hd',hw0,hw1,hw2,hw4,Qi,OL,zln]
  by_cases hz:n % 10=0
  ·rw[hz,pX (by simp),dX,dV au,bZ];rfl
  ·rw[zdt au,bZ,dV au,bZ]
def Wv(neg:Bool):∀(d n:Nat) (out:aT),0<n->n<10 ^ d->d<=12->out.length+d<=1000->M.vH neg ((n:Int),out)=some (0,Lib.decDigits n++out)/\M.vH neg (-(n:Int),out)=some (0,Lib.decDigits n++out)
 |0,n,out,h1,h2,_,_=>absurd h2 au
 |d+1,n,out,h1,h2,h3,hl=>by
  have hp:10 ^(d+1)<=10 ^ 12:=Nat.pow_le_pow_right au h3;obtain⟨s1,s2⟩:=aha neg n out h1 au au;rw[M.vH,iD s1,M.vH,iD s2,Lib.decDigits]
  by_cases h10:n<10
  ·rw[dif_pos h10];have e0:n / 10=0:=Nat.div_eq_of_lt h10;have em:n % 10=n:=Nat.mod_eq_of_lt h10;rw[e0,em];exact⟨dJ rfl,dJ rfl⟩
  ·rw[dif_neg h10];have h4:0<n / 10:=Nat.div_pos au au;obtain⟨r1,r2⟩:=Wv neg d (n / 10) ([UInt8.ofNat (48+n % 10)]++out) h4 (by rw[Nat.pow_succ] at h2;omega) au (by simp only[ZP,OL,zln];omega);rw[M.vH] at r1 r2;rw[r1,r2,BD];exact⟨rfl,rfl⟩
def akx{v:Int}(h:v.natAbs<1000000000000):M.yD v=some (Lib.itoa v):=by
 simp only[M.yD,M.JY]
 by_cases h0:v=0
 ·subst h0;have e:Lib.itoa 0=[48]:=by unfold Lib.itoa;rw[if_neg au,Lib.decDigits,dif_pos (by decide)];rfl
  rw[e];rfl
 ·have hne:(v==0)=false:=by simpa using h0
  rw[hne,dX];unfold Lib.itoa
  by_cases hv:v<0
  ·obtain⟨_,r⟩:=Wv true 12 v.natAbs [] au au au (by simp);rw[show -((v.natAbs:Nat):Int)=v by omega,List.append_nil] at r;have hl:=H7 12 v.natAbs au au;rw[if_pos hv,zdt hv,r,aj,bZ,dV (by rw[Lib.decDigits_length];omega),bZ];rfl
  ·obtain⟨r,_⟩:=Wv false 12 v.natAbs [] au au au (by simp);rw[show((v.natAbs:Nat):Int)=v by omega,List.append_nil] at r;rw[if_neg hv,pX hv,r,aj,dX,show v.toNat=v.natAbs by omega]
def stp(p:Nat×Nat)(c:UInt8):Nat×Nat:=if 48<=c.toNat/\c.toNat<=57 then(p.1 * 10+(c.toNat - 48),p.2+1) else p
def ML(l:aT):Nat×Nat:=l.foldl stp (0,0)
def abg(l:aT)(c:UInt8):ML (l++[c])=stp (ML l) c:=by simp[ML]
def ahb:∀l:aT,∀p:Nat×Nat,p.1<10 ^ p.2->(l.foldl stp p).1<10 ^(l.foldl stp p).2/\(l.foldl stp p).2<=p.2+l.length
 |[],p,h=>⟨h,zav _⟩
 |c::l,p,h=>by
  have h1:(stp p c).1<10 ^(stp p c).2/\(stp p c).2<=p.2+1:=by
   unfold stp;split
   ·refine⟨?_,zav _⟩;show p.1 * 10+(c.toNat - 48)<10 ^(p.2+1);rw[Nat.pow_succ];omega
   ·exact⟨h,au⟩
  obtain⟨r1,r2⟩:=ahb l (stp p c) h1.1;rw[List.foldl_cons,OL];exact⟨r1,au⟩
def acJ(l:aT):(ML l).1<10 ^(ML l).2/\(ML l).2<=l.length:=by have:=ahb l (0,0) (by decide);simpa[ML] using this
def Yv{p:Nat×Nat}{d:Nat}(h:d<10):stp p (UInt8.ofNat (48+d))=(p.1 * 10+d,p.2+1):=by
 have e:(UInt8.ofNat (48+d)).toNat=48+d:=by rw[UInt8.toNat_ofNat'];omega
 unfold stp;rw[e,if_pos au,show 48+d - 48=d by omega]
def Wx(u:Nat):ML (Lib.decDigits u)=(u,Lib.nDigits u):=by
 induction u using Nat.strongRecOn with
 |_ u ih=>
  rw[Lib.decDigits]
  by_cases h:u<10
  ·rw[dif_pos h,Lib.nDigits_small h];show stp (0,0) _=_;rw[Yv h];simp
  ·rw[dif_neg h,Lib.nDigits_big h,abg,ih (u / 10) au,Yv (Nat.mod_lt u au)];simp only[eH,and_true];omega
def abh(v:Int):ML (Lib.itoa v)=(v.natAbs,Lib.nDigits v.natAbs):=by
 unfold Lib.itoa;split
 ·have:ML (45::Lib.decDigits v.natAbs)=ML (Lib.decDigits v.natAbs):=rfl;rw[this,Wx]
 ·rw[show v.toNat=v.natAbs by omega,Wx]
def aky(s:aT)(hs:s.length<=1048576):M.AQ s (0,0,0)=some (((ML (s.take 11)).1:Int),((ML (s.take 11)).2:Int),((min s.length 11:Nat):Int)):=by
 have hloop:=lU (b:=M.xU s) (t:=(((ML (s.take 11)).1:Int),((ML (s.take 11)).2:Int),((min s.length 11:Nat):Int))) (λi=>(((ML (s.take i)).1:Int),((ML (s.take i)).2:Int),(i:Int))) (min s.length 11)
  (by
   intro i hi;obtain⟨c,hc⟩:∃c,s[i]? =some c:=⟨s[i]'au,by simp⟩
   have hb:=acJ (s.take i);have hl:(s.take i).length<=10:=by rw[MW];omega
   have hp:10 ^(ML (s.take i)).2<=10 ^ 10:=Nat.pow_le_pow_right au au;have hcl:=c.toNat_lt;have hw:i64.wrap ((i:Int)+1)=((i+1:Nat):Int):=by rw[aB au au];omega
   have hw1:i64.wrap (((ML (s.take i)).1:Int) * 10)=((ML (s.take i)).1:Int) * 10:=aB au au;have hw2:i64.wrap (((ML (s.take i)).2:Int)+1)=(((ML (s.take i)).2+1:Nat):Int):=by rw[aB au au];omega
   have hw3:48<=c.toNat->c.toNat<=57->i64.wrap (((ML (s.take i)).1:Int) * 10+i64.wrap (IntKind.u8.wrap ((c.toNat:Int) - 48)))=(((ML (s.take i)).1 * 10+(c.toNat - 48):Nat):Int):=by
    intro h1 h2;have:IntKind.u8.wrap ((c.toNat:Int) - 48)=(c.toNat:Int) - 48:=by
     have:IntKind.u8.wrap ((c.toNat:Int) - 48)=((c.toNat:Int) - 48) % 256:=by simp[IntKind.wrap,IntKind.bits,IntKind.signed]
     rw[this];omega
    rw[this,aB (n:=(c.toNat:Int) - 48) au au,aB au au];omega
   have ht:s.take (i+1)=s.take i++[c]:=by rw[List.take_add_one,hc];rfl
   simp only[M.xU,M.rE,bT,hc,aj,hw,hw1,hw2];rw[zdt au,bZ,zdt au,bZ,ht,abg];unfold stp
   by_cases h1:48<=c.toNat
   ·rw[zdt au,bZ]
    by_cases h2:c.toNat<=57
    ·rw[zdt au,bZ,if_pos ⟨h1,h2⟩,hw3 h1 h2]
    ·rw[pX au,dX,if_neg au]
   ·rw[pX au,dX,if_neg au])
  (by
   have e:s.take (min s.length 11)=s.take 11:=by
    by_cases h:s.length<=11
    ·rw[Nat.min_eq_left h,List.take_length,List.take_of_length_le h]
    ·rw[Nat.min_eq_right au]
   simp only[M.xU,M.rE,e]
   by_cases h:s.length<=11
   ·rw[pX au,dX]
   ·rw[zdt au,bZ,pX au,dX]) 0 (Nat.zero_le _)
 exact hloop
def ahc{s:aT}{v:Int}(hs:s.length<=1048576)(hv:v= -((ML (s.take 11)).1:Int)\/v=((ML (s.take 11)).1:Int))(hv2:∀w:Int,s=Lib.itoa w->w.natAbs<1000000000->v=w):
  (bif decide (((ML (s.take 11)).2:Int)>9) then some ((0:Int),false) else bif decide ((s.length:Int)>10) then some (0,false) else(M.yD v).bind λr=>bif !r==s then some (0,false) else some (v,true))=some (vR (zT s)):=by
 have hb:=acJ (s.take 11);have hl:(s.take 11).length<=11:=by rw[MW];omega
 have hp:10 ^(ML (s.take 11)).2<=10 ^ 11:=Nat.pow_le_pow_right au au;rw[akx au,aj];cases hr:zT s with
 |some w=>obtain⟨rfl,hw⟩:=QT.1 hr;have aDZ:=Wq hw;have hd:=H7 9 w.natAbs au au;have e:(Lib.itoa w).take 11=Lib.itoa w:=List.take_of_length_le au;have:=hv2 w rfl hw;subst this;rw[e,abh,pX au,dX,pX au,dX];simp[vR]
 |none=>
  by_cases h1:((ML (s.take 11)).2:Int)>9
  ·rw[zdt h1];rfl
  ·rw[pX h1,dX]
   by_cases h2:(s.length:Int)>10
   ·rw[zdt h2];rfl
   ·rw[pX h2,dX];cases he:Lib.itoa v==s with
    |false=>rfl
    |true=>exfalso;have hp9:10 ^(ML (s.take 11)).2<=10 ^ 9:=Nat.pow_le_pow_right au au;have:zT s=some v:=QT.2 ⟨(beq_iff_eq.1 he).symm,au⟩;rw[this] at hr;cases hr
def acK(s:aT)(hs:s.length<=1048576):M.qO s=some (vR (zT s)):=by
 have hb:=acJ (s.take 11);have hl:(s.take 11).length<=11:=by rw[MW];omega
 have hp:10 ^(ML (s.take 11)).2<=10 ^ 11:=Nat.pow_le_pow_right au au;have hw:i64.wrap (0 - ((ML (s.take 11)).1:Int))= -((ML (s.take 11)).1:Int):=by rw[aB au au];omega
 have hpos:∀w:Int,s=Lib.itoa w->w.natAbs<1000000000->((ML (s.take 11)).1:Int)=(w.natAbs:Int):=by rintro w rfl hw;have aDZ:=Wq hw;rw[List.take_of_length_le au,abh]
 simp only[M.qO,M.Dh,aky s hs,aj,hw];cases s with
 |nil=>rfl
 |cons c r=>
  rw[zdt (by rw[OL];omega),bZ,show idx (c::r) 0=some c from rfl,aj];cases hc:(c.toNat:Int)==45 with
  |true=>
   refine ahc hs (.inl rfl) λw e hw9=> ?_
   have:=hpos w e hw9;have hneg:w<0:=by
    refine Decidable.byContradiction λh=> ?_
    unfold Lib.itoa at e;rw[if_neg h] at e;obtain⟨d,q,e2,h1,h2⟩:=LQ w.toNat;rw[e2] at e;injection e with e3 _;rw[e3] at hc;have:=beq_iff_eq.1 hc;omega
   omega
  |false=>
   refine ahc hs (.inr rfl) λw e hw9=> ?_
   have:=hpos w e hw9;have hneg:¬w<0:=by intro h;unfold Lib.itoa at e;rw[if_pos h] at e;injection e with e3 _;rw[e3] at hc;cases hc
   omega
def ZC(s:aT):Option Int:=(zT s).bind λv=>bif decide (v<0) then none else some v
def ZE{s:aT}{v:Int}(h:ZC s=some v):SB v:=by
 unfold ZC at h;cases hr:zT s with
 |none=>rw[hr] at h;cases h
 |some w=>
  rw[hr,Option.bind_some] at h;have:=(QT.1 hr).2;cases hd:decide (w<0) with
  |true=>rw[hd] at h;cases h
  |false=>rw[hd] at h;cases h;unfold SB;omega
def acL(s:aT)(hs:s.length<=1048576):M.oJ s=some (vR (ZC s)):=by
 simp only[M.oJ,M.Di,acK s hs,aj,ZC];cases zT s with
 |none=>rfl
 |some v=>simp only[vR,zau,dX,Option.bind_some];by_cases hd:v<0<;>simp[hd]
def acM(s:aT)(hs:s.length<=1048576):M.oK s=some (vR (ZC s)):=by
 have:M.iK s=some (vR (zT s)):=by unfold M.iK;rw[dV hs];rfl
 simp only[M.oK,M.Dj,this,aj,ZC];cases zT s with
 |none=>rfl
 |some v=>simp only[vR,zau,dX,Option.bind_some];by_cases hd:v<0<;>simp[hd]
end Go.Proofs.YtcallmiaialhkaaGreatDoor
