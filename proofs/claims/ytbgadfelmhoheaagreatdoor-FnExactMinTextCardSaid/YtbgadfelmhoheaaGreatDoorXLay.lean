import Derived.Test.YtbgadfelmhoheaaGreatDoorZVal
import Derived.Test.YtbgadfelmhoheaaGreatDoorVm4
set_option linter.defProp false
namespace Go.Proofs.YtbgadfelmhoheaaGreatDoor
set_option linter.unusedVariables false
set_option linter.unusedSimpArgs false
open Go Go.Vm
open Go.IntKind (i64)
def mx:Int->List Int->Int
 |a,[]=>a
 |a,x::l=>mx (bif decide (a<x) then x else a) l
def aij(B:Int):∀(l:List Int) (a:Int),a<=B->(∀x,x∈l->x<=B)->a<=mx a l∧mx a l<=B
 |[],a,h,_=>⟨Int.le_refl _,h⟩
 |x::l,a,h,hl=>by
  have hx:=hl x ZK;rw[mx]
  by_cases c:a<x
  ·rw[zdt c,aI];have:=aij B l x hx λy hy=>hl y (Yw _ hy)
   omega
  ·rw[nZ c,aS];exact aij B l a h λy hy=>hl y (Yw _ hy)
def amE:∀(l:List Int) (a x:Int),mx a (l++[x])=(bif decide (mx a l<x) then x else mx a l)
 |[],a,x=>rfl
 |y::l,a,x=>by rw[VE,mx,mx,amE l]
def ayP:∀(l:List Int) (a:Int),mx (1+a) (l.map λd=>1+d)=1+mx a l
 |[],a=>rfl
 |x::l,a=>by
  rw[Rh,mx,mx,<-ayP l]
  by_cases c:a<x
  ·rw[zdt c,aI,zdt ak,aI]
  ·rw[nZ c,aS,nZ ak,aS]
def dep(l:List Nd):Nat->Nat->Int
 |0,_=>0
 |f+1,i=>mx 0 ((aii l i).map λk=>dep l f k.toNat)+1
def ad8(l:List Nd):∀f i,0<=dep l f i∧dep l f i<=f
 |0,i=>by simp[dep]
 |f+1,i=>by have:=aij (f:Int) ((aii l i).map λk=>dep l f k.toNat) 0 ak (λx hx=>by obtain⟨k,_,rfl⟩:=List.mem_map.1 hx;exact(ad8 l f k.toNat).2);rw[dep];omega
section
variable {l:List Nd} {r:List Int} {o:Bool}
def ap5(h:Val l r):∀(f f' i:Nat),i<f->i<f'->i<l.length->dep l f i=dep l f' i
 |0,_,i,h1,_,_=>absurd h1 (Nat.not_lt_zero _)
 |f+1,0,i,_,h2,_=>absurd h2 (Nat.not_lt_zero _)
 |f+1,f'+1,i,h1,h2,h3=>by
  obtain⟨n,hn⟩:∃n,l[i]? =some n:=⟨l[i],by simp⟩
  rw[dep,dep,RG hn];congr 2;refine List.map_congr_left λk hk=> ?_
  have hkr:=h.kids hn k hk;exact ap5 h f f' k.toNat ak ak ak
def aik(l:List Nd)(i:Nat):List Int:=(List.range i).map λj=>dep l (j+1) j
def ayQ(l:List Nd)(i:Nat):(aik l i).length=i:=by simp[aik]
def ap6(l:List Nd){i j:Nat}(h:j<i):(aik l i)[j]? =some (dep l (j+1) j):=by simp[aik,List.getElem?_range h]
def auG(l:List Nd)(i:Nat):aik l (i+1)=aik l i++[dep l (i+1) i]:=by simp[aik,List.range_succ]
def ap7(h:Val l r){i:Nat}{n:Nd}(hn:l[i]? =some n)(hk:n.kids.length<=1048576):M.GN (aT o l) (i:Int) (encI (aik l i)) (1,0)=some (dep l (i+1) i,(n.kids.length:Int)):=by
 have hil:=(Md.1 hn).1;have hle:=h.le;have hdk:∀k,k∈n.kids->dep l i k.toNat=dep l (k.toNat+1) k.toNat:=λk hkm=>by have:=h.kids hn k hkm;exact ap5 h _ _ _ ak ak ak
 have hval:∀(j:Nat),(1:Int)+mx 0 ((n.kids.take j).map λk=>dep l i k.toNat)=mx 1 ((n.kids.take j).map λk=>1+dep l i k.toNat):=λj=>by have:=ayP ((n.kids.take j).map λk=>dep l i k.toNat) 0;rw[List.map_map] at this;exact this.symm
 have hloop:=fJ (b:=M.Ih (aT o l) (i:Int) (encI (aik l i))) (t:=(dep l (i+1) i,(n.kids.length:Int))) (λj=>(mx 1 ((n.kids.take j).map λk=>1+dep l i k.toNat),(j:Int))) n.kids.length
  (by
   intro j hj;obtain⟨k,hkj⟩:∃k,n.kids[j]? =some k:=⟨n.kids[j],by simp⟩
   have hkm:=zZ hkj;have hkr:=h.kids hn k hkm;obtain⟨q,hq⟩:∃q:Nat,k=q:=⟨k.toNat,ak⟩
   have hd:=hdk k hkm;have hr:=ad8 l (q+1) q;subst hq;rw[U0] at hd;simp only[M.Ih,M.Bz,aW,kZ,hn,Jb,ah,GI,aU,lG,hkj,Lu,U0,ap6 l (show q<i by omega)];rw[zdt ak,aI,aC (n:=(j:Int)+1) ak ak,aC (n:=1+dep l (q+1) q) ak ak,List.take_add_one,hkj,Option.toList_some,List.map_append,Rh,List.map_nil,amE,U0,hd];rfl)
  (by simp only[M.Ih,M.Bz,aW,kZ,hn,Jb,ah,GI,aU];rw[nZ ak,aS,<-hval,List.take_length,dep,RG hn,Int.add_comm]) 0 (Nat.zero_le _)
 rw[M.GN];exact hloop
def depth(l:List Nd):Int:=if Jj l then dep l l.length (l.length - 1) else 0
def afX(l:List Nd)(o:Bool)(hl:l.length<=1048576)(hk:∀n,n∈l->n.kids.length<=1048576):M.AQ (aT o l)=some (depth l):=by
 simp only[M.AQ,M.Pm,Yl l o hl hk,ah,dW,depth];cases hs:Jj l with
 |false=>rfl
 |true=>
  obtain⟨r,h⟩:=amD hs;have h1:=h.pos;have h2:=h.le;have hloop:=fJ (b:=M.Ii (aT o l)) (t:=((l.length:Int),encI (aik l l.length))) (λi=>((i:Int),encI (aik l i))) l.length
   (by
    intro i hi;obtain⟨n,hn⟩:∃n,l[i]? =some n:=⟨l[i],by simp⟩
    have hin:=ap7 (o:=o) h hn (hk n (zZ hn));simp only[iY,M.Ii,M.BA,dW,hin,ah,aU,ayQ,J3];rw[zdt ak,aI,aJ ak,aI,aJ ak,aI,aC ak ak,auG];simp[encI])
   (by simp only[iY,M.Ii,M.BA,dW];rw[nZ ak,aS]) 0 (Nat.zero_le _)
  have xA:M.MR (aT o l) (0,[])=_:=hloop;rw[Bool.not_true,aS,xA,ah,aC ak ak,show(l.length:Int) - 1=((l.length - 1:Nat):Int) by omega,if_pos rfl];simp only[aW,U0,lG,ap6 l (show l.length - 1<l.length by omega),Jb,ah,Lu];rw[show l.length - 1+1=l.length by omega]
def aal(l:List Nd)(i:Nat):Nd:=match l[i]? with|some n=>n|none=>⟨0,0,[],[],[]⟩
def ail(n:Nd)(rows:aA):Row:=[.int .i64 n.kind,.int .i64 n.op,.str n.text,.str n.other,.sl true 5 rows]
def I9(l:List Nd):Nat->Nat->aA
 |0,_=>[]
 |f+1,i=>(aii l i).map λk=>ail (aal l k.toNat) (I9 l f k.toNat)
def akV(h:Val l r)(hk:∀n,n∈l->n.kids.length<=400):∀(f i:Nat) (n:Nd),i<f->l[i]? =some n->M.jX f (aT o l) (i:Int)=some (n.kind,n.op,n.text,n.other,I9 l f i)
 |0,i,n,hf,_=>absurd hf (Nat.not_lt_zero _)
 |f+1,i,n,hf,hn=>by
  have hkn:=hk n (zZ hn);have hil:=(Md.1 hn).1;have hkl:=h.kids hn;simp only[iY,M.jX,M.Hy,aW,kZ,hn,Jb,ah,Ji,Me,LV,MB,GI,aU];have hrec:∀(j:Nat) k,n.kids[j]? =some k->M.jX f (aT o l) k=some ((aal l k.toNat).kind,(aal l k.toNat).op,(aal l k.toNat).text,(aal l k.toNat).other,I9 l f k.toNat):=by
   intro j k hj;have hkr:=hkl k (zZ hj);obtain⟨q,hq⟩:∃q:Nat,k=q:=⟨k.toNat,ak⟩
   subst hq;obtain⟨m,hm⟩:∃m,l[q]? =some m:=⟨l[q]'ak,by simp⟩
   have:=akV h hk f q m ak hm;rw[this,U0,aal,hm]
  have hloop:=fJ (b:=M.mO (M.jX f))
   (t:=if n.kids=[] then .inl (aT o l,encI n.kids,(n.kids.length:Int),0,0,0,[],[],n.kind,n.op,n.text,n.other) else .inr (aT o l,encI n.kids,(n.kids.length:Int),(n.kids.length:Int),0,0,[],[],n.kind,n.op,n.text,n.other,I9 l (f+1) i))
   (λj=>if j=0 then .inl (aT o l,encI n.kids,(n.kids.length:Int),0,0,0,[],[],n.kind,n.op,n.text,n.other) else .inr (aT o l,encI n.kids,(n.kids.length:Int),(j:Int),0,0,[],[],n.kind,n.op,n.text,n.other,(n.kids.take j).map λk=>ail (aal l k.toNat) (I9 l f k.toNat))) n.kids.length
   (by
    intro j hj;obtain⟨k,hkj⟩:∃k,n.kids[j]? =some k:=⟨n.kids[j],by simp⟩
    have hr:=hrec j k hkj;have htk:(n.kids.take (j+1)).map (λk=>ail (aal l k.toNat) (I9 l f k.toNat))=(n.kids.take j).map (λk=>ail (aal l k.toNat) (I9 l f k.toNat))++[ail (aal l k.toNat) (I9 l f k.toNat)]:=by rw[List.take_add_one,hkj,Option.toList_some,List.map_append];rfl
    rw[if_neg (show¬j+1=0 by omega),htk]
    by_cases h0:j=0
    ·subst h0;rw[if_pos rfl];have bbV:idx (encI n.kids) 0=some [D.int .i64 k]:=by have:=aW (encI n.kids) 0;rw[pz] at this;rw[this,lG,hkj];rfl
     simp only[iY,M.mO,M.mM,bbV,ah,Lu,hr];rw[zdt ak,aI];rfl
    ·rw[if_neg h0];simp only[iY,M.mO,M.mM,aW,lG,hkj,Jb,ah,Lu,hr,List.length_map,Ud,J3];rw[zdt ak,aI,aJ ak,aI,aJ ak,aI,aC ak ak];rfl)
   (by
    by_cases h0:n.kids.length=0
    ·have he:n.kids=[]:=List.length_eq_zero_iff.1 h0;rw[if_pos h0,if_pos he];simp only[iY,M.mO,M.mM];rw[nZ ak,aS]
    ·have he:¬n.kids=[]:=λe=>h0 (by rw[e];rfl)
     rw[if_neg h0,if_neg he,List.take_length];simp only[iY,M.mO,M.mM];rw[nZ ak,aS,I9,RG hn]) 0 (Nat.zero_le _)
  rw[if_pos rfl] at hloop;rw[M.JB,hloop,ah]
  by_cases he:n.kids=[]
  ·rw[if_pos he,I9,RG hn,he];rfl
  ·rw[if_neg he];rfl
def X3:∀rows:aA,aP rows=rows.map qg
 |[]=>rfl
 |x::rows=>by rw[aP,X3 rows,Rh]
def ap8(h:Val l r)(hk:∀n,n∈l->n.kids.length<=400):∀(f i:Nat) (n:Nd) (a b:Int) (c d:aB),i<f->f<=1000->l[i]? =some n->M.kH f a b c d (aP (I9 l f i))=some (dep l f i)
 |0,i,n,a,b,c,d,hf,_,_=>absurd hf (Nat.not_lt_zero _)
 |f+1,i,n,a,b,c,d,hf,hf2,hn=>by
  have hkn:=hk n (zZ hn);have hil:=(Md.1 hn).1;have hkl:=h.kids hn;have hdr:=ad8 l (f+1) i;have hlen:(aP (I9 l (f+1) i)).length=n.kids.length:=by rw[X3,I9,RG hn];simp
  simp only[M.kH,M.Ci,hlen];have hloop:=fJ (b:=M.Ce (M.kH f) (aP (I9 l (f+1) i)) (n.kids.length:Int)) (t:=(mx 0 (n.kids.map λk=>dep l f k.toNat),(n.kids.length:Int)))
   (λj=>(mx 0 ((n.kids.take j).map λk=>dep l f k.toNat),(j:Int))) n.kids.length
   (by
    intro j hj;obtain⟨k,hkj⟩:∃k,n.kids[j]? =some k:=⟨n.kids[j],by simp⟩
    have hkr:=hkl k (zZ hkj);obtain⟨q,hq⟩:∃q:Nat,k=q:=⟨k.toNat,ak⟩
    subst hq;obtain⟨m,hm⟩:∃m,l[q]? =some m:=⟨l[q]'ak,by simp⟩
    have hrow:(aP (I9 l (f+1) i))[j]? =some (qg (ail m (I9 l f q))):=by rw[X3,I9,RG hn,List.getElem?_map,List.getElem?_map,hkj];simp only[Jb,U0,aal,hm]
    have hrec:=ap8 h hk f q m m.kind m.op m.text m.other ak ak hm;have k0:aY .i64 (qg (ail m (I9 l f q))) 0=some m.kind:=rfl;have k1:aY .i64 (qg (ail m (I9 l f q))) 1=some m.op:=rfl;have k2:cStr (qg (ail m (I9 l f q))) 2=some m.text:=rfl;have k3:cStr (qg (ail m (I9 l f q))) 3=some m.other:=rfl;have k4:OE 5 (qg (ail m (I9 l f q))) 4=some (aP (I9 l f q)):=rfl;simp only[iY,M.Ce,M.wF,aW,hrow,ah,k0,k1,k2,k3,k4,hrec];rw[zdt ak,aI,aC ak ak,List.take_add_one,hkj,Option.toList_some,List.map_append,Rh,List.map_nil,amE,U0];rfl)
   (by simp only[iY,M.Ce,M.wF];rw[nZ ak,aS,List.take_length]) 0 (Nat.zero_le _)
  have xA:M.F8 (M.kH f) (aP (I9 l (f+1) i)) (n.kids.length:Int) (0,0)=_:=hloop;rw[xA,ah];rw[dep,RG hn] at hdr⊢;rw[aC ak ak]
end
def Xi{α:Type}(p:Nat->α->Bool):List α->Nat->Bool
 |[],_=>true
 |x::l,i=>p i x && Xi p l (i+1)
def Xj{α:Type}(l:List α)(p:Nat->α->Bool){b:Int->Option (Int⊕(Unit⊕Int))}
  (hb:∀(i:Nat) x,l[i]? =some x->b (i:Int)=some (bif p i x then .inl ((i:Int)+1) else .inr (.inl ()))) (he:b (l.length:Int)=some (.inr (.inr (l.length:Int)))):
  dI b 0=some (bif Xi p l 0 then .inr (l.length:Int) else .inl ()):=by
 have key:∀(t:List α) (i:Nat),l.drop i=t->i<=l.length->dI b (i:Int)=some (bif Xi p t i then .inr (l.length:Int) else .inl ()):=by
  intro t;induction t with
  |nil=>
   intro i hd hi;have:i=l.length:=by have:=congrArg List.length hd;simp at this;omega
   subst this;exact bn he
  |cons x t ih=>
   intro i hd hi;have hx:l[i]? =some x:=by
    have:(l.drop i)[0]? =some x:=by rw[hd];rfl
    simpa using this
   have hlt:i<l.length:=(Md.1 hx).1;have hd':l.drop (i+1)=t:=by rw[<-List.drop_drop,hd];rfl
   have hs:=hb i x hx;rw[Xi];cases hw:p i x with
   |true=>rw[hw,aI] at hs;rw[bW hs,show(i:Int)+1=((i+1:Nat):Int) by omega,ih (i+1) hd' hlt,Bool.true_and]
   |false=>rw[hw,aS] at hs;rw[bn hs];rfl
 exact key l 0 rfl (Nat.zero_le _)
noncomputable def fOk(n:Nd):Bool:=(M.aK n.kind n.op n.text n.other (encI n.kids)).getD false
noncomputable def kOk(n:Nd)(j:Int)(d:Int):Bool:=(M.bI n.kind n.op n.text n.other (encI n.kids) j d).getD false
structure Small(n:Nd):Prop where
 text:n.text.length<=1048576
 other:n.other.length<=1048576
def amF{n:Nd}(hs:Small n)(hk:n.kids.length<=400):M.aK n.kind n.op n.text n.other (encI n.kids)=some (fOk n)∧M.je n.kind n.op n.text n.other (encI n.kids)=some (fOk n):=by obtain⟨b,h1,h2⟩:=apZ n.kind n.op n.text n.other (encI n.kids) hs.text hs.other (by rw[aU];exact hk);rw[fOk,h1];exact⟨rfl,h2⟩
def arI{n:Nd}(hs:Small n)(hk:n.kids.length<=400)(hf:fOk n=true)(j:Nat)(hj:j<n.kids.length)(d:Int):
  M.bI n.kind n.op n.text n.other (encI n.kids) (j:Int) d=some (kOk n j d)∧M.fQ n.kind n.op n.text n.other (encI n.kids) (j:Int) d=some (kOk n j d):=by
 have hc:=amB (k:=n.kind) (op:=n.op) (t:=n.text) (o:=n.other) (kids:=encI n.kids) (by rw[(amF hs hk).1,hf]);obtain⟨b,h1,h2⟩:=aHP n.kind n.op n.text n.other (encI n.kids) (j:Int) d ak (by rw[aU];omega) (by rw[aU];exact hk) hc;rw[kOk,h1];exact⟨rfl,h2⟩
def as9:∀(l:List Int),(∀x,x∈l->1<=x)->(l.length:Int)<=Zk l
 |[],_=>by simp[Zk]
 |x::l,h=>by
  have:=as9 l λy hy=>h y (Yw _ hy)
  have:=h x ZK;simp only[lU,Zk];omega
section
variable {l:List Nd} {r:List Int} {o:Bool}
def Val.acV(h:Val l r){i:Nat}{n:Nd}(hn:l[i]? =some n):n.kids.length<=400:=by have hil:=(Md.1 hn).1;have h1:=h.sum hn;have h2:=as9 (n.kids.map (sz r)) (λx hx=>by obtain⟨k,hk,rfl⟩:=List.mem_map.1 hx;exact(h.ayO (h.kids hn k hk).1).1);rw[List.length_map] at h2;have h3:=(h.ayO (k:=(i:Int)) ak).2;have:=h.le;omega
def Val.ain(h:Val l r):∀n,n∈l->n.kids.length<=400:=λn hn=>by obtain⟨i,hi⟩:=List.mem_iff_getElem?.1 hn;exact h.acV hi
noncomputable def kp(l:List Nd)(n:Nd)(j:Nat)(k:Int):Bool:=kOk n j (aal l k.toNat).kind
def aio(h:Val l r)(hsm:∀n,n∈l->Small n){i:Nat}{n:Nd}(hn:l[i]? =some n)(hf:fOk n=true)(v10:aA)(v11 v12:Int):
  M.Js (aT o l) (i:Int) 0=some (bif Xi (kp l n) n.kids 0 then .inr (n.kids.length:Int) else .inl ())∧
  M.JC (aT o l) v10 v11 v12 (encI n.kids) (n.kids.length:Int) n.kind n.op n.text n.other (encI n.kids) 0=some (bif Xi (kp l n) n.kids 0 then .inr (n.kids.length:Int) else .inl ()):=by
 have hkl:=h.acV hn;have hs:=hsm n (zZ hn);have step:∀(j:Nat) k,n.kids[j]? =some k->∃(q:Nat) (m:Nd),k=(q:Int)∧l[q]? =some m∧(aal l k.toNat).kind=m.kind:=by
  intro j k hj;have hkr:=h.kids hn k (zZ hj);have hil:=(Md.1 hn).1;obtain⟨q,hq⟩:∃q:Nat,k=q:=⟨k.toNat,ak⟩
  obtain⟨m,hm⟩:∃m,l[q]? =some m:=⟨l[q]'ak,by simp⟩
  refine⟨q,m,hq,hm, ?_⟩;rw[hq,U0,aal,hm]
 constructor
 ·rw[M.Js];refine Xj n.kids (kp l n) (λj k hj=> ?_) ?_
  ·obtain⟨q,m,hq,hm,he⟩:=step j k hj;have hjl:=(Md.1 hj).1;have hok:=(arI hs hkl hf j hjl m.kind).1;rw[kp,he];subst hq;simp only[iY,M.Rx,M.Ee,aW,kZ,hn,hm,Jb,ah,Ji,Me,LV,MB,GI,aU,lG,hj,Lu,hok];rw[zdt ak,aI,aC ak ak];cases kOk n j m.kind<;>rfl
  ·simp only[iY,M.Rx,M.Ee,aW,kZ,hn,Jb,ah,GI,aU];rw[nZ ak,aS]
 ·rw[M.JC];refine Xj n.kids (kp l n) (λj k hj=> ?_) ?_
  ·obtain⟨q,m,hq,hm,he⟩:=step j k hj;have hjl:=(Md.1 hj).1;have hok:=(arI hs hkl hf j hjl m.kind).2;rw[kp,he];subst hq;simp only[M.Rz,M.EF,aW,kZ,hm,Jb,ah,Ji,lG,hj,Lu,hok];rw[zdt ak,aI,aC ak ak];cases kOk n j m.kind<;>rfl
  ·simp only[M.Rz,M.EF];rw[nZ ak,aS]
noncomputable def np(l:List Nd)(_:Nat)(n:Nd):Bool:=fOk n && Xi (kp l n) n.kids 0
def afb(h:Val l r)(hsm:∀n,n∈l->Small n):
  M.Jt (aT o l) 0=some (bif Xi (np l) l 0 then .inr (l.length:Int) else .inl ())∧
  M.JD (aT o l) (aT o l) (l.length:Int) 0=some (bif Xi (np l) l 0 then .inr (l.length:Int) else .inl ()):=by
 have hle:=h.le;constructor
 ·rw[M.Jt];refine Xj l (np l) (λi n hi=> ?_) ?_
  ·have hil:=(Md.1 hi).1;have hf:=(amF (hsm n (zZ hi)) (h.acV hi)).1;simp only[iY,M.Ry,M.Ef,dW,aW,kZ,hi,Jb,ah,Ji,Me,LV,MB,GI,hf,np];rw[zdt ak,aI,aC ak ak];cases hff:fOk n with
   |false=>rfl
   |true=>have:=(aio (o:=o) h hsm hi hff [] 0 0).1;rw[Bool.not_true,aS,this,ah];cases Xi (kp l n) n.kids 0<;>rfl
  ·simp only[iY,M.Ry,M.Ef,dW];rw[nZ ak,aS]
 ·rw[M.JD];refine Xj l (np l) (λi n hi=> ?_) ?_
  ·have hil:=(Md.1 hi).1;have hf:=(amF (hsm n (zZ hi)) (h.acV hi)).2;simp only[iY,M.RD,M.EH,aW,kZ,hi,Jb,ah,Ji,Me,LV,MB,GI,hf,np,aU];rw[zdt ak,aI,aC ak ak];cases hff:fOk n with
   |false=>rfl
   |true=>have:=(aio (o:=o) h hsm hi hff (aT o l) (l.length:Int) (i:Int)).2;rw[Bool.not_true,aS,this,ah];cases Xi (kp l n) n.kids 0<;>rfl
  ·simp only[iY,M.RD,M.EH];rw[nZ ak,aS]
end
noncomputable def JJ(l:List Nd):Bool:=Jj l &&(decide (depth l<=40) && Xi (np l) l 0)
section
variable (l:List Nd) (o:Bool) (hl:l.length<=1048576) (hk:∀n,n∈l->n.kids.length<=1048576) (hsm:∀n,n∈l->Small n)
include hl hk hsm
theorem Vx:M.yD (aT o l)=some (JJ l):=by
 simp only[M.yD,M.SB,Yl l o hl hk,afX l o hl hk,ah,JJ];cases hs:Jj l with
 |false=>rfl
 |true=>
  obtain⟨r,h⟩:=amD hs;rw[Bool.not_true,aS,(afb (o:=o) h hsm).1,ah,Bool.true_and]
  by_cases hd:depth l<=40
  ·rw[nZ (show¬depth l>40 by omega),aS,zdt hd,Bool.true_and];cases Xi (np l) l 0<;>rfl
  ·rw[zdt (show depth l>40 by omega),aI,nZ hd];rfl
theorem Vy:M.yM (aT o l)=some (JJ l):=by
 simp only[M.yM,M.Td,afW l o hl hk,ah,JJ,dW];cases hs:Jj l with
 |false=>rfl
 |true=>
  obtain⟨r,h⟩:=amD hs;have h1:=h.pos;have h2:=h.le;obtain⟨n,hn⟩:∃n,l[l.length - 1]? =some n:=⟨l[l.length - 1]'ak,by simp⟩
  have ht:=akV (o:=o) h h.ain l.length (l.length - 1) n ak hn;have hd:=ap8 h h.ain l.length (l.length - 1) n n.kind n.op n.text n.other ak ak hn;rw[Bool.not_true,aS,(afb (o:=o) h hsm).2,ah,Bool.true_and];simp only[M.ru,M.MK,dW];rw[aC ak ak,show(l.length:Int) - 1=((l.length - 1:Nat):Int) by omega,M.Y2 ht,ah,ah];simp only;rw[M.abx hd,ah,depth,if_pos hs];cases Xi (np l) l 0<;>simp[o8,letE]
theorem afc(ht:JJ l=true):∃n,l.getLast? =some n∧idx (aT o l) (i64.wrap ((l.length:Int) - 1))=some (TK o n):=by
 unfold JJ at ht;rw[EU] at ht;have hp:=akT ht.1;have hn:l≠[]:=by rintro rfl;simp at hp
 obtain⟨n,hn⟩:∃n,l.getLast? =some n:=⟨_,List.getLast?_eq_some_getLast hn⟩
 have hn':l[l.length - 1]? =some n:=by rw[<-List.getLast?_eq_getElem?];exact hn
 refine⟨n,hn, ?_⟩;rw[aC ak ak,show(l.length:Int) - 1=((l.length - 1:Nat):Int) by omega,aW,kZ,hn'];rfl
end
@[simp] theorem aIF(l:List Int):Az (encI l)=true:=by
 induction l with
 |nil=>rfl
 |cons x l ih=>simp only[encI,Rh] at ih⊢;simp[Az,bM,D.pure,ih]
@[simp] theorem aIG(l:List Int):[[D.sl true 1 (encI l)]].all bM=true:=by simp[bM,D.pure]
def QL(o:Bool)(a b:List Nd):aT o (a++b)=aT o a++aT o b:=by simp[aT]
def aHQ(w:Bool):∀t:Tn,t.row w=[.int .i64 t.kind,.int .i64 t.op,.str t.text,.str t.other,.sl w 5 (cZ w t.kids)]
 | .mk k o x y ks=>rfl
def amG(w:Bool)(a b:List Tn):cZ w (a++b)=cZ w a++cZ w b:=by simp[Ru]
def fB(w:Bool)(a:List Tn):(cZ w a).length=a.length:=by simp[Ru]
def dP{α:Type}{l:List α}{j:Nat}{t:α}(h:l[j]? =some t):l.take (j+1)=l.take j++[t]:=by rw[List.take_add_one,h];rfl
def ap9{α:Type}{l:List α}{j:Nat}{t:α}(h:l[j]? =some t):l=l.take j++t::l.drop (j+1):=by obtain⟨hj,rfl⟩:=Md.1 h;rw[<-List.drop_eq_getElem_cons hj,List.take_append_drop]
def zQ{ks:List Tn}{j:Nat}{t:Tn}(h:ks[j]? =some t):sizes (ks.take j)+t.size<=sizes ks:=by have:=congrArg sizes (ap9 h);rw[jP,sizes] at this;omega
section
variable {l:List Nd} {b:Nat} {k op:Int} {x y:aB} {ks:List Tn}
def Lies.QM(h:Lies l b (.mk k op x y ks)){j:Nat}{t:Tn}(hj:ks[j]? =some t):Lies l (b+sizes (ks.take j)) t:=by have e:=ap9 hj;rw[e] at h;exact h.kid
def VX{j:Nat}{t:Tn}(hj:ks[j]? =some t):(ends ks b)[j]? =some ((b+sizes (ks.take j)+sizes t.kids:Nat):Int):=by have hlt:=(Md.1 hj).1;have hs:=t.tZ;rw[avY hlt,dP hj,jP,sizes,sizes];congr 1;omega
def Lies.root'{t:Tn}(h:Lies l b t):l[b+sizes t.kids]? =some ⟨t.kind,t.op,t.text,t.other,ends t.kids b⟩:=by cases t;exact h.root
def ZX{j:Nat}{t:Tn}(hj:ks[j]? =some t):ends (ks.take (j+1)) b=ends (ks.take j) b++[((b+sizes (ks.take j)+t.size:Nat):Int) - 1]:=by rw[dP hj,VT,ends,ends];congr 2<;>omega
def X4{j:Nat}{t:Tn}(hj:ks[j]? =some t):iW (ks.take (j+1)) b=iW (ks.take j) b++t.flat (b+sizes (ks.take j)):=by rw[dP hj,O7,iW,iW,List.append_nil]
def arJ{w:Bool}{j:Nat}{t:Tn}(hj:ks[j]? =some t):cZ w (ks.take (j+1))=cZ w (ks.take j)++[t.row w]:=by rw[dP hj,amG];rfl
def ends_range:∀(ks:List Tn) (b:Nat),∀e,e∈ends ks b->(b:Int)<=e∧e<b+sizes ks
 |[],b,e,h=>by simp[ends] at h
 |t::ts,b,e,h=>by
  have hp:=t.size_pos;rw[ends] at h;have hs:(sizes (t::ts):Int)=t.size+sizes ts:=by rw[sizes];omega
  rcases List.mem_cons.1 h with rfl|h
  ·omega
  ·have:=ends_range ts _ e h;omega
end
mutual
def Xk:∀(t:Tn) (b:Nat),∀n,n∈t.flat b->n.kids.length<=t.size∧∀e,e∈n.kids->(0:Int)<=e∧e<b+t.size
 | .mk k o x y ks,b,n,h=>by
  rw[Tn.flat] at h;rw[Tn.size];rcases List.mem_append.1 h with h|h
  ·have:=aip ks b n h;exact⟨ak,λe he=>by have:=this.2 e he;omega⟩
  ·simp only[List.mem_singleton] at h;subst h;refine⟨by simp only[dQ];have:=iZ ks;omega,λe he=> ?_⟩;have:=ends_range ks b e he;omega
def aip:∀(ks:List Tn) (b:Nat),∀n,n∈iW ks b->n.kids.length<=sizes ks∧∀e,e∈n.kids->(0:Int)<=e∧e<b+sizes ks
 |[],b,n,h=>by simp[iW] at h
 |t::ts,b,n,h=>by
  rw[iW] at h;rw[sizes];rcases List.mem_append.1 h with h|h
  ·have:=Xk t b n h;exact⟨ak,λe he=>by have:=this.2 e he;omega⟩
  ·have:=aip ts _ n h;exact⟨ak,λe he=>by have:=this.2 e he;omega⟩
end
structure Ps where
 level:Int
 ny:Bool
 tN:Bool
 tV:Bool
 lV:Bool
 deriving DecidableEq,Inhabited
def Ps.top:Ps:=⟨1,false,false,false,false⟩
def Ps.zero:Ps:=⟨0,false,false,false,false⟩
def Aa(op:Int):Int:=bif op==44 then 3 else bif op==45 then 4 else bif op==67||op==46 then 6 else
 bif op==63||(op==48||(op==47||(op==50||(op==62||op==49)))) then 7 else bif op==99 then 8 else bif op==55||op==56 then 9 else
 bif op==57||(op==58||op==59) then 10 else bif op==60 then 12 else 0
def lvl(k op:Int):Int:=bif k==15 then 1 else bif k==14 then 2 else bif k==13 then 5 else bif k==12 then Aa op else bif k==11 then 11 else
 bif k==9||k==10 then 13 else bif k==6 then 14 else bif k==1||(k==2||(k==3||(k==4||(k==5||(k==7||k==8))))) then 15 else 0
def nJ(p:Ps):Bool:=(decide (1<=p.level) && decide (p.level<=15)) &&(!p.ny||p.level==14)
def fits(k op:Int)(p:Ps):Bool:=bif !(nJ p)||lvl k op==0 then false else bif p.tN && k==13 then false else bif p.tV &&(k==12 && op==62) then false else
 bif p.lV &&(k==11||(k==9||k==4)) then false else(p.ny && k==9)||decide (p.level<=lvl k op)
def sides(op:Int):Int×Int:=bif Aa op==3 then(3,4) else bif Aa op==4 then(4,5) else bif Aa op==6 then(7,7) else bif Aa op==7 then(8,8) else
 bif Aa op==8 then(8,9) else bif Aa op==9 then(9,10) else bif Aa op==10 then(10,11) else(13,11)
def X5(k op:Int)(j:Nat):Int:=bif k==15 then(bif Nat.beq j 0 then 14 else 1) else bif k==14 then(bif Nat.beq j 0 then 3 else 2) else bif k==13 then 5 else bif k==11 then 11 else
 bif k==12 then(bif Nat.beq j 0 then(sides op).1 else(sides op).2) else 14
def dN(k op:Int)(n j:Nat)(p:Ps):Ps:=bif !(nJ p)||(!(Nat.blt j n)||lvl k op==0) then .zero else bif lvl k op==15||(k==13 && Nat.blt 1 n) then .top else
 ⟨X5 k op j,k==6,p.tN,p.tV,bif k==11||(k==9||(k==10||k==6)) then false else(Nat.beq j 0 && p.lV)||(Nat.beq j 1 &&(k==12 && op==99))⟩
def qP(k:Int)(j:Nat):Bool:=Nat.beq j 0 &&(k==9||(k==10||k==15))
def tok(k:Int):Tk:=⟨k,spell k,0⟩
def H8:Bool->List (List Tk)->List Tk
 |_,[]=>[]
 |b,x::l=>(bif b then x else tok 36::x)++H8 false l
def CZ{α:Type}(L:List (List α))(j:Nat):List α:=(L[j]?).getD []
def Jd(k op:Int)(n:Nat)(x:aB)(L:List (List Tk)):List Tk:=
 bif k==1 then[⟨6,x,0⟩] else bif k==2 then[⟨3,x,0⟩] else bif k==3 then[⟨4,x,0⟩] else bif k==4 then[⟨5,x,0⟩] else
 bif k==5 then⟨6,x,0⟩::tok 34::(H8 true L++[tok 35]) else bif k==7 then⟨7,x,0⟩::tok 32::(H8 true L++[tok 33]) else bif k==8 then⟨8,x,0⟩::tok 32::(H8 true L++[tok 33]) else
 bif k==9||k==11 then tok op::CZ L 0 else bif k==6 then tok 68::CZ L 0 else bif k==10 then CZ L 0++[tok op] else
 bif k==13 then(bif Nat.blt 1 n then tok 32::(H8 true L++[tok 33]) else CZ L 0)++[tok 24,⟨6,x,0⟩] else
 bif k==14 then CZ L 0++(tok 65::(CZ L 1++(tok 66::CZ L 2))) else CZ L 0++((bif op==99 then[] else[tok op])++CZ L 1)
mutual
def wS:Tn->Ps->List Tk
 | .mk k op x _ ks,p=>Jd k op ks.length x (jI k op ks.length p ks 0)
def jI(k op:Int)(n:Nat)(p:Ps):List Tn->Nat->List (List Tk)
 |[],_=>[]
 |t::ts,j=>(bif qP k j||fits t.kind t.op (dN k op n j p) then wS t (dN k op n j p) else tok 32::(wS t .top++[tok 33]))::jI k op n p ts (j+1)
end
def aaK(t:Tn)(p:Ps):List Tk:=bif fits t.kind t.op p then wS t p else tok 32::(wS t .top++[tok 33])
def mP(s:aB):Tn:=.mk 1 0 s [] []
def VY:Tn:=.mk 2 0 [] [] []
def TU:Tn:=.mk 3 0 [] [] []
def Ym(d:Tn):Tn:=.mk 4 4 [] [] [d]
def aqa(d:Tn):Tn:=.mk 5 0 [] [] [d]
def o7(l:List Tn):Tn:=.mk 6 0 [] [] l
def Um:Bool->List Tn->List Tn
 |_,[]=>[]
 |b,x::l=>(bif b then[x] else[mP [44],VY,x])++Um false l
def acW(L:List Tn):Tn:=aqa (Ym (o7 (Um true L)))
def yZ(L:List Tn)(j:Nat):Tn:=(L[j]?).getD (mP [])
def aiq(s:aB):List (aB)->Nat->Nat
 |[],m=>m
 |g::l,m=>aiq s l (bif Nat.blt m g.length && g.isPrefixOf s then g.length else m)
def lastB(s:aB):Int:=match s.getLast? with|some c=>(c.toNat:Int)|none=> -1
def arK(s:aB):Int:=match s with|c::_=>(c.toNat:Int)|[]=> -1
def wJ(a b:Tk):Bool:=
 bif a.text==[]||(b.text==[]||(a.kind==2||(a.kind==1||b.kind==1))) then false else
 bif isW (lastB a.text) && isW (arK b.text) then true else
 bif a.kind==3 &&(isW (arK b.text)||arK b.text==46) then true else
 bif a.kind==6 && b.kind==32 then true else
 bif !(decide (30<=a.kind) && decide (a.kind<=68)) then false else Nat.blt a.text.length (aiq (a.text++b.text) RF 0)
def Zl(k op:Int)(n:Nat)(x:aB)(gap:Bool)(L:List Tn):Tn:=
 bif k==1||(k==2||(k==3||k==4)) then mP x else bif k==5 then o7 [mP (x++[91]),acW L,mP [93]] else
 bif k==7||k==8 then o7 [mP (x++[40]),acW L,mP [41]] else bif k==9 then o7 [mP (spell op),yZ L 0] else bif k==10 then o7 [yZ L 0,mP (spell op)] else
 bif k==6 then o7 [mP [36],yZ L 0] else bif k==11 then o7 [mP (bif gap then spell op++[32] else spell op),yZ L 0] else
 bif k==14 then o7 [yZ L 0,mP [32,63,32],yZ L 1,mP [32,58,32],yZ L 2] else
 bif k==13 then(bif Nat.blt 1 n then o7 [mP [40],acW L,mP ([41,32,105,110,32]++x)] else o7 [yZ L 0,mP ([32,105,110,32]++x)]) else
 bif k==12 && op==99 then o7 [yZ L 0,mP [32],yZ L 1] else
 bif k==12 &&(op==45||op==44) then aqa (Ym (o7 [yZ L 0,mP (32::spell op),VY,yZ L 1])) else
 o7 [yZ L 0,mP ((32::spell op)++[32]),yZ L 1]
def akW(op:Int)(L:List (List Tk)):Bool:=match L with
 |(b::_)::_=>wJ (tok op) b
 |_=>false
mutual
def qQ:Tn->Ps->Tn
 | .mk k op x _ ks,p=>Zl k op ks.length x (akW op (jI k op ks.length p ks 0)) (tX k op ks.length p ks 0)
def tX(k op:Int)(n:Nat)(p:Ps):List Tn->Nat->List Tn
 |[],_=>[]
 |t::ts,j=>(bif qP k j||fits t.kind t.op (dN k op n j p) then qQ t (dN k op n j p) else o7 [mP [40],qQ t .top,mP [41]])::tX k op n p ts (j+1)
end
def C9(t:Tn)(p:Ps):Tn:=bif fits t.kind t.op p then qQ t p else o7 [mP [40],qQ t .top,mP [41]]
def Lr(t:Tn):Tn:=C9 t .top
def Vz(t:Tn):Tn:=bif t.kind==16 then mP [] else o7 [mP [32],Lr t]
def Gt:List Tn->List Tn
 |[]=>[]
 |d::l=>TU::d::Gt l
def amH(L:List Tn):Tn:=o7 [mP [123],Ym (o7 (Gt L)),TU,mP [125]]
def zS(L:List Tn)(j:Nat):Tn:=(L[j]?).getD (.mk 0 0 [] [] [])
def Rf(p:Ps)(L:List Tn):Tn:=acW (L.map λt=>C9 t p)
def amI(op:Int)(y:aB)(ks:List Tn):Tn:=
 let args:=bif y==[] then ks else ks.take (ks.length - 1)
 o7 ([mP (bif op==0 then[112,114,105,110,116] else[112,114,105,110,116,102])]++
  ((bif Nat.blt 0 args.length then[mP [32],Rf ⟨1,false,false,true,false⟩ args] else[])++
   (bif y==[] then[] else[mP (([32]++y)++[32]),(C9 (zS ks (ks.length - 1))) ⟨9,false,false,false,false⟩])))
def aaL(w:aB)(ks:List Tn):Tn:=match ks with
 |[]=>mP w
 |t::_=>o7 [mP w,Vz t]
def afY(k op:Int)(x y:aB)(ks L:List Tn):Tn:=
 bif k==20 then Lr (zS ks 0) else bif k==21 then amI op y ks else bif k==22 then mP [110,101,120,116] else bif k==25 then mP [98,114,101,97,107] else bif k==26 then mP [99,111,110,116,105,110,117,101] else
 bif k==23 then aaL [101,120,105,116] ks else bif k==24 then aaL [114,101,116,117,114,110] ks else
 bif k==27 then(match ks with
  |[]=>mP ([100,101,108,101,116,101,32]++x)
  |_::_=>o7 [mP (([100,101,108,101,116,101,32]++x)++[91]),Rf .top ks,mP [93]]) else
 bif k==28 then(let d:=o7 [mP [105,102,32,40],Lr (zS ks 0),mP [41,32],yZ L 1];bif Nat.blt 2 ks.length then o7 [d,mP [32,101,108,115,101,32],yZ L 2] else d) else
 bif k==29 then o7 [mP [119,104,105,108,101,32,40],Lr (zS ks 0),mP [41,32],yZ L 1] else
 bif k==30 then o7 [mP [100,111,32],yZ L 0,mP [32,119,104,105,108,101,32,40],Lr (zS ks 1),mP [41]] else
 bif k==31 then o7 [mP [102,111,114,32,40],(bif(zS ks 0).kind==16 then mP [] else(C9 (zS ks 0)) ⟨1,false,true,false,false⟩),mP [59],Vz (zS ks 1),mP [59],Vz (zS ks 2),mP [41,32],yZ L 3] else
 bif k==32 then o7 [mP (((([102,111,114,32,40]++x)++[32,105,110,32])++y)++[41,32]),yZ L 0] else
 bif k==33 then amH L else mP x
mutual
def iU:Tn->Tn
 | .mk k op x y ks=>afY k op x y ks (oL ks)
def oL:List Tn->List Tn
 |[]=>[]
 |t::ts=>(iU t)::oL ts
end
def Hq:List Tn->Bool->List Tn
 |[],_=>[]
 |t::ts,b=>(bif t.kind==33 then(bif b then[(iU t)] else[mP [32],(iU t)]) else(bif b then[Lr t] else[mP [44,32],Lr t]))++Hq ts false
def JK:List (aB)->Bool->aB
 |[],_=>[]
 |x::l,b=>(bif b then x else[44,32]++x)++JK l false
def Yn(x:aB)(ks:List Tn):aB:=(([102,117,110,99,116,105,111,110,32]++x)++[40])++(JK ((ks.take (ks.length - 1)).map Tn.text) true++[41])
def itemD(t:Tn):Tn:=
 bif t.kind==40 then o7 [mP [66,69,71,73,78,32],(iU (zS t.kids 0))] else bif t.kind==41 then o7 [mP [69,78,68,32],(iU (zS t.kids 0))] else
 bif t.kind==42||t.kind==43 then o7 (Hq t.kids true) else bif t.kind==44 then o7 [mP (Yn t.text t.kids++[32]),(iU (zS t.kids (t.kids.length - 1)))] else(iU t)
def H9:List Tn->List Tn
 |[]=>[]
 |t::ts=>(itemD t)::TU::H9 ts
def VZ(t:Tn):Tn:=o7 (H9 t.kids)
structure Cnt(k op:Int)(y:aB)(n:Nat):Prop where
 one:k=6∨k=9∨k=10∨k=11∨k=20∨k=32∨k=40∨k=41->n=1
 two:k=12∨k=15∨k=29∨k=30->n=2
 some_:k=5∨k=13∨k=44->1<=n
 three:k=14->n=3
 four:k=31->n=4
 cnd:k=28->n=2∨n=3
 prn:k=21->(op=0∨op=1)∧(y≠[]->1<=n)
 wrd:k=23∨k=24->n<=1
 non:k=1∨k=2∨k=3∨k=4∨k=16∨k=22∨k=25∨k=26∨k=34->n=0
 rule:k=42->(op=1∧n=1)∨(op=2∧n=1)∨(op=3∧n=2)
 range:k=43->(op=1∧n=2)∨(op=3∧n=3)
 few:k≠33->k≠45->n<=7
 bin:k=12->Aa op≠0∧op≠61
 asg:k=15->op=54∨(38<=op∧op<=43)
 stp:k=9∨k=10->op=51∨op=52
 una:k=11->op=55∨op=56∨op=61
def cls(k op:Int)(n j:Nat):Nat:=
 if k=9∨k=10∨(k=15∧j=0) then 6 else if k=28∨k=29 then(if j=0 then 0 else 1) else if k=30 then(if j=0 then 1 else 0) else
 if k=31 then(if j<3 then 3 else 1) else if k=32∨k=40∨k=41 then 1 else if k=33 then 2 else if k=42 then(if op=2∨(op=3∧j+1=n) then 1 else 0) else
 if k=43 then(if j=2 then 1 else 0) else if k=44 then(if j+1=n then 1 else 4) else if k=45 then 5 else 0
def DJ(c:Nat)(d:Int):Prop:=match c with
 |0=>1<=d∧d<=15
 |1=>d=33
 |2=>20<=d∧d<=34
 |3=>d=16∨(1<=d∧d<=15)
 |4=>d=1
 |5=>(40<=d∧d<=44)∨d=34
 |_=>d=1∨d=5∨d=6
def ad9(k:Int):Prop:=(1<=k∧k<=16)∨(20<=k∧k<=34)∨(40<=k∧k<=45)
mutual
def Gw:Tn->Prop
 | .mk k op x y ks=>ad9 k∧Cnt k op y ks.length∧oks k op ks.length ks 0
def oks(k op:Int)(n:Nat):List Tn->Nat->Prop
 |[],_=>True
 |t::ts,j=>DJ (cls k op n j) t.kind∧(Gw t)∧oks k op n ts (j+1)
end
def ata{k op:Int}{n:Nat}:∀{ks:List Tn} {j i:Nat} {t:Tn},oks k op n ks j->ks[i]? =some t->DJ (cls k op n (j+i)) t.kind∧(Gw t)
 |[],_,i,_,_,h=>by simp at h
 |u::ts,j,0,t,h,e=>by rw[oks] at h;cases e;exact⟨h.1,h.2.1⟩
 |u::ts,j,i+1,t,h,e=>by rw[oks] at h;rw[List.getElem?_cons_succ] at e;have:=ata h.2.2 e;rw[show j+1+i=j+(i+1) by omega] at this;exact this
def Oz{k op:Int}{x y:aB}{ks:List Tn}(h:(Gw (Tn.mk k op x y ks))){i:Nat}{t:Tn}(e:ks[i]? =some t):DJ (cls k op ks.length i) t.kind∧(Gw t):=by
 rw[Gw] at h;have:=ata h.2.2 e
 rwa [Nat.zero_add] at this
def RH{k op:Int}{x y:aB}{ks:List Tn}(h:(Gw (Tn.mk k op x y ks))):Cnt k op y ks.length:=by rw[Gw] at h;exact h.2.1
def Yv(t:Tn):Prop:=1<=t.kind∧t.kind<=15
def acX{k op:Int}{x y:aB}{ks:List Tn}(h:(Gw (Tn.mk k op x y ks)))(he:1<=k∧k<=15){i:Nat}{t:Tn}(e:ks[i]? =some t):(Yv t)∧(Gw t):=by
 obtain⟨h1,h2⟩:=Oz h e;refine⟨?_,h2⟩;unfold Yv;have:cls k op ks.length i=6∨cls k op ks.length i=0:=by
  unfold cls;split
  ·exact .inl rfl
  ·repeat(rw[if_neg ak])
   exact .inr rfl
 rcases this with h|h<;>rw[h] at h1<;>simp only[DJ] at h1<;>omega
def L6{a b lo hi:Int}(c:Bool)(ha:lo<=a∧a<=hi)(hb:lo<=b∧b<=hi):lo<=(bif c then a else b)∧(bif c then a else b)<=hi:=by cases c<;>assumption
def air(op:Int):0<=Aa op∧Aa op<=12:=by unfold Aa;exact L6 _ ⟨by decide,by decide⟩ (L6 _ ⟨by decide,by decide⟩ (L6 _ ⟨by decide,by decide⟩ (L6 _ ⟨by decide,by decide⟩ (L6 _ ⟨by decide,by decide⟩ (L6 _ ⟨by decide,by decide⟩ (L6 _ ⟨by decide,by decide⟩ (L6 _ ⟨by decide,by decide⟩ ⟨by decide,by decide⟩)))))))
def V3{k op:Int}{y:aB}{n:Nat}(he:1<=k∧k<=15)(hc:Cnt k op y n):1<=lvl k op∧lvl k op<=15:=by
 obtain⟨h1,h2⟩:=he;have hk:k=1∨k=2∨k=3∨k=4∨k=5∨k=6∨k=7∨k=8∨k=9∨k=10∨k=11∨k=13∨k=14∨k=15∨k=12:=ak;rcases hk with rfl|rfl|rfl|rfl|rfl|rfl|rfl|rfl|rfl|rfl|rfl|rfl|rfl|rfl|rfl
 case inr.inr.inr.inr.inr.inr.inr.inr.inr.inr.inr.inr.inr.inr=>have hb:=(hc.bin rfl).1;have:=air op;change 1<=Aa op∧Aa op<=15;omega
 all_goals simp[lvl]
def abE{a b:Int×Int}(c:Bool)(ha:(1<=a.1∧a.1<=14)∧1<=a.2∧a.2<=14)(hb:(1<=b.1∧b.1<=14)∧1<=b.2∧b.2<=14):(1<=(bif c then a else b).1∧(bif c then a else b).1<=14)∧1<=(bif c then a else b).2∧(bif c then a else b).2<=14:=by cases c<;>assumption
def aqb(op:Int):(1<=(sides op).1∧(sides op).1<=14)∧1<=(sides op).2∧(sides op).2<=14:=by unfold sides;exact abE _ (by decide) (abE _ (by decide) (abE _ (by decide) (abE _ (by decide) (abE _ (by decide) (abE _ (by decide) (abE _ (by decide) (by decide)))))))
def amJ(k op:Int)(j:Nat):1<=X5 k op j∧X5 k op j<=14:=by have h:=aqb op;unfold X5;exact L6 _ (L6 _ (by decide) (by decide)) (L6 _ (L6 _ (by decide) (by decide)) (L6 _ (by decide) (L6 _ (by decide) (L6 _ (L6 _ h.1 h.2) (by decide)))))
def wU{k op:Int}{n j:Nat}{p:Ps}(hp:nJ p=true)(hj:j<n)(hl:lvl k op≠0):nJ (dN k op n j p)=true:=by
 have h1:Nat.blt j n=true:=by rw[Nat.blt_eq];exact hj
 have h2:(lvl k op==0)=false:=by simpa using hl
 unfold dN;rw[hp,h1,h2];simp only[Bool.not_true,Bool.or_false,aS];cases(lvl k op==15||(k==13 && Nat.blt 1 n)) with
 |true=>rfl
 |false=>
  have hr:=amJ k op j;simp only[aS,nJ];rw[zdt hr.1,zdt (show X5 k op j<=15 by omega)]
  by_cases h6:k=6
  ·subst h6;rfl
  ·have:(k==6)=false:=by simpa using h6
   rw[this];rfl
def Zm{k op:Int}{n:Nat}{p q:Ps}(h:∀j,j<n->dN k op n j p=dN k op n j q):∀(ts:List Tn) (j:Nat),j+ts.length=n->jI k op n p ts j=jI k op n q ts j
 |[],_,_=>by rw[jI,jI]
 |t::ts,j,hj=>by rw[lU] at hj;rw[jI,jI,h j ak,Zm h ts (j+1) ak]
def afd{k op:Int}{n:Nat}{p q:Ps}(h:∀j,j<n->dN k op n j p=dN k op n j q):∀(ts:List Tn) (j:Nat),j+ts.length=n->tX k op n p ts j=tX k op n q ts j
 |[],_,_=>by rw[tX,tX]
 |t::ts,j,hj=>by rw[lU] at hj;rw[tX,tX,h j ak,afd h ts (j+1) ak]
def JL{k op:Int}{n j:Nat}{p:Ps}(hp:nJ p=true)(hj:j<n)(hl:lvl k op=15):dN k op n j p=.top:=by
 have h1:Nat.blt j n=true:=by rw[Nat.blt_eq];exact hj
 unfold dN;rw[hp,h1,hl];rfl
def X6{k op:Int}(h:13<=lvl k op)(he:1<=k∧k<=15):lvl k op=15∨k=6∨k=9∨k=10:=by
 have hk:k=1∨k=2∨k=3∨k=4∨k=5∨k=6∨k=7∨k=8∨k=9∨k=10∨k=11∨k=12∨k=13∨k=14∨k=15:=ak;rcases hk with rfl|rfl|rfl|rfl|rfl|rfl|rfl|rfl|rfl|rfl|rfl|rfl|rfl|rfl|rfl
 all_goals first
  |(left;rfl)
  |(right;simp;done)
  |(exfalso;have h2:=(air op).2;have h3:lvl 12 op=Aa op:=rfl;omega)
  |(exfalso;revert h;simp[lvl];done)
def amK{k op:Int}(h:k=1∨k=5∨k=6):13<=lvl k op∧(1<=k∧k<=15):=by rcases h with rfl|rfl|rfl<;>simp[lvl]
def afe{k op:Int}{a b c:Bool}{i j:Bool}(hl:lvl k op≠0):fits k op ⟨14,true,a,b,false⟩=fits k op ⟨14,true,i,j,false⟩:=by
 have e:∀a b,fits k op ⟨14,true,a,b,false⟩=(k==9||decide (14<=lvl k op)):=by
  intro a b;have h2:(lvl k op==0)=false:=by simpa using hl
  unfold fits;rw[h2,show nJ ⟨14,true,a,b,false⟩=true from rfl];simp only[Bool.not_true,Bool.or_false,aS,Bool.false_and,Bool.true_and]
  by_cases h13:k=13
  ·subst h13;have:lvl 13 op=5:=rfl;rw[this];cases a<;>cases b<;>rfl
  ·have e13:(k==13)=false:=by simpa using h13
   rw[e13,Bool.and_false,aS]
   by_cases h12:k=12∧op=62
   ·obtain⟨rfl,rfl⟩:=h12;cases b<;>rfl
   ·have e12:(k==12 && op==62)=false:=by rw[Bool.and_eq_false_iff,JX,JX];omega
    rw[e12,Bool.and_false,aS]
 rw[e,e]
def arL(t:Tn):(Gw t)->13<=lvl t.kind t.op->(Yv t)->∀p q,nJ p=true->nJ q=true->wS t p=wS t q:=by
 refine Tn.ind (P:=λt=>(Gw t)->13<=lvl t.kind t.op->(Yv t)->∀p q,nJ p=true->nJ q=true->wS t p=wS t q) ?_ t;intro k op x y ks ih hok hl he p q hp hq;simp only[Tn.kind,Tn.op] at hl;simp only[Yv,Tn.kind] at he;rw[wS,wS];congr 1;rcases X6 hl he with h|h
 ·exact Zm (λj hj=>by rw[JL hp hj h,JL hq hj h]) ks 0 ak
 ·have hn:ks.length=1:=(RH hok).one ak;obtain⟨u,rfl⟩:=zlo.1 hn;obtain⟨hue,huo⟩:=acX hok he (i:=0) (t:=u) rfl;obtain⟨huc,_⟩:=Oz hok (i:=0) (t:=u) rfl;have hlu:1<=lvl u.kind u.op∧lvl u.kind u.op<=15:=by cases u;exact V3 hue (RH huo)
  have hlk:lvl k op≠0:=ak;have kp:=wU (n:=[u].length) (j:=0) hp (by simp) hlk;have kq:=wU (n:=[u].length) (j:=0) hq (by simp) hlk;rw[jI,jI,jI,jI];congr 1;rcases h with rfl|h
  ·have e1:∀r:Ps,nJ r=true->dN 6 op [u].length 0 r=⟨14,true,r.tN,r.tV,false⟩:=by intro r hr;unfold dN;rw[hr];rfl
   rw[e1 p hp] at kp⊢;rw[e1 q hq] at kq⊢;have ht:qP 6 0=false:=rfl;rw[ht,Bool.false_or,Bool.false_or,afe (c:=false) (i:=q.tN) (j:=q.tV) ak];cases hf:fits u.kind u.op ⟨14,true,q.tN,q.tV,false⟩ with
   |false=>rfl
   |true=>
    have aHR:13<=lvl u.kind u.op:=by
     unfold fits at hf;revert hf;cases(!(nJ ⟨14,true,q.tN,q.tV,false⟩)||lvl u.kind u.op==0)<;>cases(q.tN && u.kind==13)<;>cases(q.tV &&(u.kind==12 && u.op==62))<;>simp;intro hf;rcases hf with h9|h14
     ·rw[h9];exact(show(13:Int)<=13 by omega)
     ·omega
    rw[aI,aI];exact ih u (by simp) huo aHR hue _ _ kp kq
  ·have ht:qP k 0=true:=by rcases h with rfl|rfl<;>rfl
   rw[ht,Bool.true_or,aI,Bool.true_or,aI];have hc6:cls k op [u].length 0=6:=by unfold cls;rw[if_pos ak]
   rw[hc6] at huc;exact ih u (by simp) huo (amK huc).1 hue _ _ kp kq
def arM(t:Tn):(Gw t)->13<=lvl t.kind t.op->(Yv t)->∀p q,nJ p=true->nJ q=true->qQ t p=qQ t q:=by
 refine Tn.ind (P:=λt=>(Gw t)->13<=lvl t.kind t.op->(Yv t)->∀p q,nJ p=true->nJ q=true->qQ t p=qQ t q) ?_ t;intro k op x y ks ih hok hl he p q hp hq;simp only[Tn.kind,Tn.op] at hl;simp only[Yv,Tn.kind] at he;have hT:jI k op ks.length p ks 0=jI k op ks.length q ks 0∨k=6∨k=9∨k=10:=by
  rcases X6 hl he with h|h
  ·exact .inl (Zm (λj hj=>by rw[JL hp hj h,JL hq hj h]) ks 0 ak)
  ·exact .inr h
 rw[qQ,qQ];have hg:∀g g' L,k≠11->Zl k op ks.length x g L=Zl k op ks.length x g' L:=by
  intro g g' L h11;have:(k==11)=false:=by simpa using h11
  unfold Zl;rw[this];rfl
 have h11:k≠11:=by
  rcases X6 hl he with h|h
  ·rintro rfl;exact absurd h (by change¬(11:Int)=15;decide)
  ·omega
 rw[hg _ (akW op (jI k op ks.length q ks 0)) _ h11];congr 1;rcases X6 hl he with h|h
 ·exact afd (λj hj=>by rw[JL hp hj h,JL hq hj h]) ks 0 ak
 ·have hn:ks.length=1:=(RH hok).one ak;obtain⟨u,rfl⟩:=zlo.1 hn;obtain⟨hue,huo⟩:=acX hok he (i:=0) (t:=u) rfl;obtain⟨huc,_⟩:=Oz hok (i:=0) (t:=u) rfl;have hlu:1<=lvl u.kind u.op∧lvl u.kind u.op<=15:=by cases u;exact V3 hue (RH huo)
  have hlk:lvl k op≠0:=ak;have kp:=wU (n:=[u].length) (j:=0) hp (by simp) hlk;have kq:=wU (n:=[u].length) (j:=0) hq (by simp) hlk;rw[tX,tX,tX,tX];congr 1;rcases h with rfl|h
  ·have e1:∀r:Ps,nJ r=true->dN 6 op [u].length 0 r=⟨14,true,r.tN,r.tV,false⟩:=by intro r hr;unfold dN;rw[hr];rfl
   rw[e1 p hp] at kp⊢;rw[e1 q hq] at kq⊢;have ht:qP 6 0=false:=rfl;rw[ht,Bool.false_or,Bool.false_or,afe (c:=false) (i:=q.tN) (j:=q.tV) ak];cases hf:fits u.kind u.op ⟨14,true,q.tN,q.tV,false⟩ with
   |false=>rfl
   |true=>
    have aHR:13<=lvl u.kind u.op:=by
     unfold fits at hf;revert hf;cases(!(nJ ⟨14,true,q.tN,q.tV,false⟩)||lvl u.kind u.op==0)<;>cases(q.tN && u.kind==13)<;>cases(q.tV &&(u.kind==12 && u.op==62))<;>simp;intro hf;rcases hf with h9|h14
     ·rw[h9];exact(show(13:Int)<=13 by omega)
     ·omega
    rw[aI,aI];exact ih u (by simp) huo aHR hue _ _ kp kq
  ·have ht:qP k 0=true:=by rcases h with rfl|rfl<;>rfl
   rw[ht,Bool.true_or,aI,Bool.true_or,aI];have hc6:cls k op [u].length 0=6:=by unfold cls;rw[if_pos ak]
   rw[hc6] at huc;exact ih u (by simp) huo (amK huc).1 hue _ _ kp kq
def abG{α:Type}(a b:Bool)(x y:α):(bif a||b then x else y)=bif a then x else bif b then x else y:=by cases a<;>rfl
def amL{α:Type}(a b:Bool)(x y:α):(bif a && b then x else y)=bif a then(bif b then x else y) else y:=by cases a<;>rfl
def Xl{α:Type}(a:Bool)(x y:α):some (bif a then x else y)=bif a then some x else some y:=by cases a<;>rfl
def X7(op:Int):M.nU op=some (Aa op)∧M.vH op=some (Aa op):=by simp only[M.nU,M.JA,M.vH,M.PL,Aa,abG,Xl];constructor<;>first|trivial|rfl
def X8(k op:Int)(x y:aB)(r:aA):M.oU k op x y r=some (lvl k op)∧M.dF k op x y r=some (lvl k op):=by simp only[M.oU,M.Qn,M.dF,M.PN,lvl,abG,Xl,(X7 op).1,(X7 op).2,ah];constructor<;>first|trivial|rfl
def acY(p:Ps):M.Dw p.level p.ny p.tN p.tV p.lV=some (nJ p)∧M.Dn p.level p.ny p.tN p.tV p.lV=some (nJ p):=by simp only[M.Dw,M.UJ,M.Dn,M.UE,gG,dH,ah,nJ,ge_iff_le];cases(decide (1<=p.level) && decide (p.level<=15))<;>cases p.ny<;>exact⟨rfl,rfl⟩
def DF:M.uJ=some (1,false,false,false,false)∧M.iy=some (1,false,false,false,false):=⟨rfl,rfl⟩
def aB9(k op:Int)(p:Ps):fits k op p=bif !(nJ p) then false else bif lvl k op==0 then false else bif p.tN && k==13 then false else bif p.tV &&(k==12 && op==62) then false else
  bif p.lV &&(k==11||(k==9||k==4)) then false else bif p.ny && k==9 then true else decide (p.level<=lvl k op):=by
 unfold fits;rw[abG];cases(p.ny && k==9)<;>rfl
def ags(k op:Int)(x y:aB)(r:aA)(p:Ps):M.Hw k op x y r p.level p.ny p.tN p.tV p.lV=some (fits k op p)∧M.Hu k op x y r p.level p.ny p.tN p.tV p.lV=some (fits k op p):=by rw[aB9];simp only[M.Hw,M.VW,M.Hu,M.VU,(X8 k op x y r).1,(X8 k op x y r).2,(acY p).1,(acY p).2,ah,abG,amL,Xl];constructor<;>first|trivial|rfl
def nb0(j:Nat):((j:Int)==0)=Nat.beq j 0:=by cases j<;>rfl
def nb1(j:Nat):((j:Int)==1)=Nat.beq j 1:=by
 rcases j with _|_|j
 ·rfl
 ·rfl
 ·rw[JX.2 ak];rfl
def gt0(j:Nat):decide ((j:Int)>0)= !(Nat.beq j 0):=by
 cases j with
 |zero=>rfl
 |succ j=>rw[zdt ak];rfl
def aqc(op:Int)(j:Nat):M.yN op (j:Int)=some (bif Nat.beq j 0 then(sides op).1 else(sides op).2):=by simp only[M.yN,M.NV,(X7 op).1,ah,nb0,sides];cases Aa op==3<;>cases Aa op==4<;>cases Aa op==6<;>cases Aa op==7<;>cases Aa op==8<;>cases Aa op==9<;>cases Aa op==10<;>cases Nat.beq j 0<;>rfl
def arN(op:Int):M.xZ op=some (sides op):=by simp only[M.xZ,M.PU,(X7 op).2,ah,sides,Xl]
def aqd(k op:Int)(x y:aB)(r:aA)(j:Nat):M.vJ k op x y r (j:Int)=some (X5 k op j):=by simp only[M.vJ,M.NW,aqc,ah,X5,gt0];cases k==15<;>cases k==14<;>cases k==13<;>cases k==11<;>cases k==12<;>cases Nat.beq j 0<;>rfl
def Ps.DL(p:Ps):Int×Bool×Bool×Bool×Bool:=(p.level,p.ny,p.tN,p.tV,p.lV)
def atb(j n:Nat)(h:n<=1048576):(decide ((j:Int)>=0) && decide ((j:Int)<=i64.wrap ((n:Int) - 1)))=Nat.blt j n:=by
 rw[aC ak ak];cases hb:Nat.blt j n with
 |true=>rw[Nat.blt_eq] at hb;rw[zdt ak,zdt ak];rfl
 |false=>
  have:¬j<n:=by rw[<-Nat.blt_eq,hb];simp
  rw[nZ (show¬(j:Int)<=(n:Int) - 1 by omega),Bool.and_false]
def many(n:Nat):decide ((n:Int)>1)=Nat.blt 1 n:=by
 cases hb:Nat.blt 1 n with
 |true=>rw[Nat.blt_eq] at hb;exact zdt ak
 |false=>
  have:¬1<n:=by rw[<-Nat.blt_eq,hb];simp
  exact nZ ak
def Zn(k op:Int)(x y:aB)(r:aA)(j:Nat)(p:Ps)(hr:r.length<=1048576):M.yO k op x y r (j:Int) p.level p.ny p.tN p.tV p.lV=some (dN k op r.length j p).DL:=by
 simp only[M.yO,M.Tf,(acY p).1,dH,(X8 k op x y r).1,aqd,DF.1,ah,atb j r.length hr,many,nb0,nb1,dN];cases nJ p with
 |false=>rfl
 |true=>
  cases Nat.blt j r.length with
  |false=>rfl
  |true=>
   cases hz:(lvl k op==0) with
   |true=>rfl
   |false=>
    cases h15:(lvl k op==15) with
    |true=>rfl
    |false=>
     simp only[Bool.not_true,aS,Bool.false_or];have fin:∀z:Int,(bif k==11 then some (z,k==6,p.tN,p.tV,false) else bif k==9 then some (z,k==6,p.tN,p.tV,false) else bif k==10 then some (z,k==6,p.tN,p.tV,false) else bif k==6 then some (z,k==6,p.tN,p.tV,false) else
       bif Nat.beq j 0 then(bif p.lV then some (z,k==6,p.tN,p.tV,true) else bif Nat.beq j 1 then(bif k==12 then some (z,k==6,p.tN,p.tV,op==99) else some (z,k==6,p.tN,p.tV,false)) else some (z,k==6,p.tN,p.tV,false)) else
       bif Nat.beq j 1 then(bif k==12 then some (z,k==6,p.tN,p.tV,op==99) else some (z,k==6,p.tN,p.tV,false)) else some (z,k==6,p.tN,p.tV,false))=
       some (z,k==6,p.tN,p.tV,bif k==11||(k==9||(k==10||k==6)) then false else(Nat.beq j 0 && p.lV)||(Nat.beq j 1 &&(k==12 && op==99))):=by
      intro z;cases h11:(k==11) with
      |true=>rfl
      |false=>cases h9:(k==9) with
       |true=>rfl
       |false=>cases h10:(k==10) with
        |true=>rfl
        |false=>cases h6:(k==6) with
         |true=>rfl
         |false=>simp only[aS,Bool.or_false];cases Nat.beq j 0<;>cases p.lV<;>cases Nat.beq j 1<;>cases(k==12)<;>simp
     cases h13:(k==13) with
     |true=>
      cases Nat.blt 1 r.length with
      |true=>rfl
      |false=>exact fin _
     |false=>exact fin _
def aff(k op:Int)(x y:aB)(r:aA)(j:Nat):M.su k op x y r (j:Int)=some (qP k j):=by simp only[M.su,M.NY,nb0,qP];cases Nat.beq j 0<;>cases k==9<;>cases k==10<;>rfl
def mX(k:Int)(hk:I64 k):M.iM k=some (k,spell k,0)∧M.bH k=some (k,spell k,0):=by simp only[M.iM,M.TR,M.bH,M.MG,(nP k hk).1,(nP k hk).2,ah];constructor<;>first|trivial|rfl
def opF(s:aB):List (aB)->Nat->Int->Nat->Int×Nat
 |[],_,k,m=>(k,m)
 |g::l,i,k,m=>bif Nat.blt m g.length && g.isPrefixOf s then opF s l (i+1) (30+(i:Int)) g.length else opF s l (i+1) k m
def agt(s:aB):∀(l:List (aB)) (i:Nat) (k:Int) (m:Nat),(opF s l i k m).2=aiq s l m
 |[],_,_,_=>rfl
 |g::l,i,k,m=>by
  rw[opF,aiq];cases(Nat.blt m g.length && g.isPrefixOf s) with
  |true=>rw[aI,aI,agt s l]
  |false=>rw[aS,aS,agt s l]
def agu(s:aB)(L:List (aB)){b:Int×Int×Int->Option (Int×Int×Int⊕Int×Int×Int)}
  (hb:∀(i:Nat) g k (m:Nat),L[i]? =some g->m<=2->b (k,(m:Int),(i:Int))=some (.inl (bif Nat.blt m g.length && g.isPrefixOf s then(30+(i:Int),(g.length:Int),(i:Int)+1) else(k,(m:Int),(i:Int)+1))))
  (he:∀k m,b (k,m,(L.length:Int))=some (.inr (k,m,(L.length:Int)))) (h2:∀g,g∈L->g.length<=2):
  dI b (0,0,0)=some ((opF s L 0 0 0).1,((opF s L 0 0 0).2:Int),(L.length:Int)):=by
 have key:∀(t:List (aB)) (i:Nat) (k:Int) (m:Nat),L.drop i=t->i<=L.length->m<=2->dI b (k,(m:Int),(i:Int))=some ((opF s t i k m).1,((opF s t i k m).2:Int),(L.length:Int)):=by
  intro t;induction t with
  |nil=>
   intro i k m hd hi hm;have:i=L.length:=by have:=congrArg List.length hd;simp at this;omega
   subst this;exact bn (he _ _)
  |cons g t ih=>
   intro i k m hd hi hm;have hx:L[i]? =some g:=by
    have:(L.drop i)[0]? =some g:=by rw[hd];rfl
    simpa using this
   have hlt:i<L.length:=(Md.1 hx).1;have hd':L.drop (i+1)=t:=by rw[<-List.drop_drop,hd];rfl
   have hs:=hb i g k m hx hm;have hg:=h2 g (zZ hx);rw[opF];cases hc:(Nat.blt m g.length && g.isPrefixOf s) with
   |true=>rw[hc,aI] at hs;rw[bW hs,aI,show(i:Int)+1=((i+1:Nat):Int) by omega,ih (i+1) _ _ hd' hlt hg]
   |false=>rw[hc,aS] at hs;rw[bW hs,aS,show(i:Int)+1=((i+1:Nat):Int) by omega,ih (i+1) _ _ hd' hlt hm]
 have:=key L 0 0 0 rfl (Nat.zero_le _) ak;rw[pz] at this;exact this
def auH{α:Type}(s:List α)(n:Nat)(h:n<=s.length):cut s 0 (n:Int)=some (s.take n):=by unfold cut;rw[zdt ak,zdt ak,zdt ak];simp
def pre_eq:∀(g s:aB),g.length<=s.length->(s.take g.length==g)=g.isPrefixOf s
 |[],s,_=>by simp
 |x::g,[],h=>by simp at h
 |x::g,y::s,h=>by
  have hr:=pre_eq g s (by simpa using h);have hxy:(y==x)=(x==y):=by rw[Bool.eq_iff_iff,beq_iff_eq,beq_iff_eq];exact⟨Eq.symm,Eq.symm⟩
  rw[List.isPrefixOf,lU,List.take_succ_cons,<-hr,<-hxy];rfl
def aea(g s:aB)(h:s.length<g.length):g.isPrefixOf s=false:=by
 cases hp:g.isPrefixOf s with
 |false=>rfl
 |true=>have:=(List.isPrefixOf_iff_prefix.1 hp).length_le;omega
def acZ(s g:aB):M.strings_HasPrefix s g=some (g.isPrefixOf s):=by
 simp only[M.strings_HasPrefix,M.DX,M.jk,M.nX]
 by_cases h:g.length<=s.length
 ·rw[zdt ak,aI,auH s g.length h,ah,ah,pre_eq g s h]
 ·rw[nZ ak,aS,ah,aea g s ak]
def akX:∀g,g∈RF->g.length<=2:=by decide+kernel
def V4(m n:Nat):decide ((n:Int)>(m:Int))=Nat.blt m n:=by
 cases hb:Nat.blt m n with
 |true=>rw[Nat.blt_eq] at hb;exact zdt ak
 |false=>
  have:¬m<n:=by rw[<-Nat.blt_eq,hb];simp
  exact nZ ak
def amM(s:aB)(h0:s≠[])(hs:s.length<=4000000):M.nN s 0=some ((opF s RF 0 0 0).1,((aiq s RF 0:Nat):Int)):=by
 have hl:RF.length=39:=rfl;have hn:1<=s.length:=by cases s with|nil=>exact absurd rfl h0|cons=>simp
 simp only[M.nN,M.TS,M.Qp,dH,ah];rw[aC ak ak,zdt ak,zdt ak,Bool.and_self,Bool.not_true,aS];have hc:=auH s s.length (Nat.le_refl _);rw[List.take_length] at hc;rw[agu s RF (λi g k m hg hm=> ?_) (λk m=> ?_) akX,ah,agt]
 ·have hi:=(Md.1 hg).1;rw[hl] at hi;have hsc:=amA i hi;simp only[TM,hg] at hsc;simp only[M.Vr,M.JF,U0,hsc,ah,hc,acZ,V4];rw[zdt ak,zdt ak,aC ak ak,aC ak ak];cases Nat.blt m g.length<;>cases g.isPrefixOf s<;>rfl
 ·rw[hl];rfl
def aqe{s:aB}(h:s≠[])(hl:s.length<=2000000):∃c,idx s (i64.wrap ((s.length:Int) - 1))=some c∧lastB s=(c.toNat:Int):=by
 have hn:1<=s.length:=by cases s with|nil=>exact absurd rfl h|cons=>simp
 obtain⟨c,hc⟩:∃c,s[s.length - 1]? =some c:=⟨s[s.length - 1],by simp⟩
 refine⟨c, ?_, ?_⟩
 ·rw[aC ak ak,show((s.length:Int) - 1)=((s.length - 1:Nat):Int) by omega,aW,hc]
 ·rw[lastB,List.getLast?_eq_getElem?,hc]
def atc{s:aB}(h:s≠[]):∃c,idx s 0=some c∧arK s=(c.toNat:Int):=by
 cases s with
 |nil=>exact absurd rfl h
 |cons c s=>exact⟨c,rfl,rfl⟩
def ZY(c:UInt8):i64.wrap (c.toNat:Int)=(c.toNat:Int):=by have:=apU c;exact aC ak ak
def afg(a b:Tk):wJ a b=bif a.text==[] then false else bif b.text==[] then false else bif a.kind==2 then false else bif a.kind==1 then false else bif b.kind==1 then false else
 bif isW (lastB a.text) && isW (arK b.text) then true else
 bif a.kind==3 &&(isW (arK b.text)||arK b.text==46) then true else
 bif a.kind==6 && b.kind==32 then true else
 bif !(decide (30<=a.kind) && decide (a.kind<=68)) then false else Nat.blt a.text.length (aiq (a.text++b.text) RF 0):=by
 unfold wJ;simp only[abG]
def Xm(a b:Tk)(ha:a.text.length<=2000000)(hb:b.text.length<=2000000):M.qo a.kind a.text a.at_ b.kind b.text b.at_=some (wJ a b):=by
 rw[afg];simp only[M.qo,M.NZ]
 by_cases h1:a.text=[]
 ·rw[show(a.text==[])=true by simpa using h1,aI,aI]
 ·rw[show(a.text==[])=false by simpa using h1,aS,aS]
  by_cases h2:b.text=[]
  ·rw[show(b.text==[])=true by simpa using h2,aI,aI]
  ·obtain⟨c,hc,hc'⟩:=aqe h1 ha;obtain⟨d,hd,hd'⟩:=atc h2;have hop:=amM (a.text++b.text) (by simp[h1]) (by simp only[pF];omega);rw[show(b.text==[])=false by simpa using h2,aS,aS,hc',hd'];simp only[hc,hd,ah,ZY,yT,M.jc,M.Cc,dH,hop,V4,ge_iff_le,abG,amL,Xl,aJ (show a.text.length+b.text.length<=9223372036854775807 by omega),aI]
def amN(s:aB)(h0:s≠[])(hs:s.length<=4000000):M.nM s 0=some ((opF s RF 0 0 0).1,((aiq s RF 0:Nat):Int)):=by
 have hl:RF.length=39:=rfl;have hn:1<=s.length:=by cases s with|nil=>exact absurd rfl h0|cons=>simp
 simp only[M.nM,M.TQ,M.PV,ah8,ah];rw[agu s RF (λi g k m hg hm=> ?_) (λk m=> ?_) akX,ah,agt]
 ·have hi:=(Md.1 hg).1;rw[hl] at hi;have hg2:=akX g (zZ hg);have hw1:i64.wrap (30+(i:Int))=30+(i:Int):=aC ak ak;have hw2:i64.wrap ((i:Int)+1)=(i:Int)+1:=aC ak ak;have hw3:i64.wrap ((s.length:Int) - 0)=(s.length:Int):=by rw[aC ak ak];omega
  have hw4:i64.wrap (0+(g.length:Int))=(g.length:Int):=by rw[aC ak ak];omega
  simp only[M.Jv,M.zx,JI,aW,Xh,U0,hg,Jb,ah,cS0,hw1,hw2,hw3,hw4,hl];rw[zdt (show((i:Int))<((39:Nat):Int) by omega),aI,zdt (show(0:Int)>=0 by omega),aI,zdt (show(0:Int)<=(s.length:Int) by omega),aI]
  by_cases hq:g.length<=s.length
  ·rw[zdt ak,aI,auH s g.length hq,ah,pre_eq g s hq,V4];cases Nat.blt m g.length<;>cases g.isPrefixOf s<;>rfl
  ·rw[nZ ak,aS,aea g s ak,Bool.and_false];rfl
 ·simp only[M.Jv,M.zx,JI];rw[nZ ak,aS]
def Xn(a b:Tk)(ha:a.text.length<=2000000)(hb:b.text.length<=2000000):M.ql a.kind a.text a.at_ b.kind b.text b.at_=some (wJ a b):=by
 rw[afg];simp only[M.ql,M.Ny]
 by_cases h1:a.text=[]
 ·rw[show(a.text==[])=true by simpa using h1,aI,aI]
 ·rw[show(a.text==[])=false by simpa using h1,aS,aS]
  by_cases h2:b.text=[]
  ·rw[show(b.text==[])=true by simpa using h2,aI,aI]
  ·obtain⟨c,hc,hc'⟩:=aqe h1 ha;obtain⟨d,hd,hd'⟩:=atc h2;have hop:=amN (a.text++b.text) (by simp[h1]) (by simp only[pF];omega);rw[show(b.text==[])=false by simpa using h2,aS,aS,hc',hd'];have hnn:∀(c:Bool) (r:Bool),some (bif !c then false else r)=bif c then some r else some false:=by intro c r;cases c<;>rfl
   simp only[hc,hd,ah,ZY,yT,gG,hop,V4,ge_iff_le,abG,amL,Xl,hnn,aJ (show a.text.length+b.text.length<=9223372036854775807 by omega),aI]
def sub(s:aB)(i e:Nat):aB:=(s.drop i).take (e - i)
def Z4{s:aB}{i e:Nat}(h1:i<=e)(h2:e<=s.length):(sub s i e).length=e - i:=by rw[sub,Ud,List.length_drop];omega
def QN{s:aB}{i e:Nat}(h1:i<=e)(h2:e<=s.length):cut s (i:Int) (e:Int)=some (sub s i e):=by unfold cut;rw[zdt ak,zdt ak,zdt ak];simp[sub]
def amO(s:aB)(i:Nat):sub s i s.length=s.drop i:=by rw[sub,List.take_of_length_le];rw[List.length_drop];omega
def OV(s:aB)(i:Nat):Nat:=i+((s.drop i).takeWhile λc=>isW (c.toNat:Int)).length
def Zo(s:aB)(i:Nat):Nat:=i+((s.drop i).takeWhile λc=> !(c==10)).length
def amP{s:aB}{i:Nat}(h:i<=s.length):OV s i<=s.length:=by have:=(List.takeWhile_prefix (l:=s.drop i) λc=>isW (c.toNat:Int)).length_le;rw[List.length_drop] at this;unfold OV;omega
def amQ{s:aB}{i:Nat}(h:i<=s.length):Zo s i<=s.length:=by have:=(List.takeWhile_prefix (l:=s.drop i) λc=> !(c==10)).length_le;rw[List.length_drop] at this;unfold Zo;omega
def aqf(p:UInt8->Bool){s:aB}{i:Nat}{c:UInt8}(h:s[i]? =some c):((s.drop i).takeWhile p).length=bif p c then((s.drop (i+1)).takeWhile p).length+1 else 0:=by have hl:=(Md.1 h).1;rw[List.drop_eq_getElem_cons hl];have hc:s[i]=c:=(Md.1 h).2;rw[hc,List.takeWhile_cons];cases p c<;>simp
def aeb{s:aB}{i:Nat}{c:UInt8}(h:s[i]? =some c):OV s i=bif isW (c.toNat:Int) then OV s (i+1) else i:=by
 unfold OV;rw[aqf (λc=>isW (c.toNat:Int)) h];cases isW (c.toNat:Int)
 ·rfl
 ·simp only[aI];omega
def akY{s:aB}{i:Nat}{c:UInt8}(h:s[i]? =some c):Zo s i=bif c==10 then i else Zo s (i+1):=by
 unfold Zo;rw[aqf (λc=> !(c==10)) h];cases c==10
 ·simp only[Bool.not_false,aI,aS];omega
 ·rfl
def X9(k:Int):Bool:=k==3||(k==4||(k==5||(k==6||(k==8||(k==33||(k==35||(k==51||k==52)))))))
def Zp(k:Int):M.oQ k=some (X9 k)∧M.rE k=some (X9 k):=by simp only[M.oQ,M.F7,M.rE,M.Gq,X9];cases k==3<;>cases k==4<;>cases k==5<;>cases k==6<;>cases k==8<;>cases k==33<;>cases k==35<;>cases k==51<;>cases k==52<;>exact⟨rfl,rfl⟩
def ais(b:Int):Bool:=b==32||b==9
def ait(b:Int):M.Ba b=some (ais b)∧M.Bh b=some (ais b):=by simp only[M.Ba,M.Qa,M.Bh,M.Qy,ais];cases b==32<;>cases b==9<;>exact⟨rfl,rfl⟩
def ac0{s:aB}(h:s.length<=1048576){r:Int}(h0:0<=r):r<=Ws s r∧(Ws s r<=r∨Ws s r<=s.length):=by
 have r1:=JH h (a:=r+1) ak;have r2:=JH h (a:=r+1+1) ak;unfold Ws;cases(qO s r==101)||(qO s r==69) with
 |false=>rw[aS];omega
 |true=>
  rw[aI];cases(qO s (r+1)==43)||(qO s (r+1)==45) with
  |true=>
   rw[aI];cases hd:decide (CW s (r+1+1)>r+1+1) with
   |true=>rw[aI];rw[decide_eq_true_eq] at hd;omega
   |false=>rw[aS];omega
  |false=>
   rw[aS];cases hd:decide (CW s (r+1)>r+1) with
   |true=>rw[aI];rw[decide_eq_true_eq] at hd;omega
   |false=>rw[aS];omega
def Z5{s:aB}{a:Int}(h:(s.length:Int)<=a):qO s a= -1:=by unfold qO;rw[if_pos ak,List.getElem?_eq_none ak]
def UQ{s:aB}(h:s.length<=1048576){i:Nat}(hi:i<s.length):Vw s i<0∨((i:Int)<Vw s i∧Vw s i<=s.length):=by
 have r1:=JH h (a:=(i:Int)) ak;have r2:=JH h (a:=CW s i+1) ak;have e1:=ac0 h (r:=CW s (CW s i+1)) ak;have e2:=ac0 h (r:=CW s i) ak;unfold Vw;rw[if_neg ak];cases hp:qO s (CW s i)==46 with
 |true=>
  rw[aI];have hlt:CW s i<s.length:=by
   by_cases hc:CW s i<s.length
   ·exact hc
   ·rw[Z5 ak] at hp;cases hp
  cases hq:(CW s i==(i:Int)) &&(CW s (CW s i+1)==CW s i+1) with
  |true=>rw[aI];omega
  |false=>rw[aS];omega
 |false=>
  rw[aS];cases hq:CW s i==(i:Int) with
  |true=>rw[aI];omega
  |false=>rw[aS];rw[JX] at hq;omega
def abH(q:Int):∀(n:Nat) (l:aB) (i:Int),l.length<=n->0<=i->acR q l i<0∨(i<acR q l i∧acR q l i<=i+(l.length:Int))
 |n,[],i,_,h0=>by rw[acR];omega
 |0,c::l,i,hn,_=>by simp at hn
 |n+1,c::l,i,hn,h0=>by
  rw[ad4];rw[lU] at hn⊢
  by_cases h1:(c.toNat:Int)=q
  ·rw[if_pos h1];omega
  rw[if_neg h1]
  by_cases h2:(c.toNat:Int)=10
  ·rw[if_pos h2];omega
  rw[if_neg h2]
  by_cases h3:(c.toNat:Int)=92
  ·rw[if_pos h3];cases l with
   |nil=>simp only[];omega
   |cons d l=>
    simp only[];rw[lU] at hn⊢
    by_cases h4:(d.toNat:Int)=10
    ·rw[if_pos h4];omega
    ·rw[if_neg h4];have:=abH q n l (i+2) ak ak;omega
  ·rw[if_neg h3];have:=abH q n l (i+1) ak ak;omega
def UR{s:aB}{q:Int}{i:Nat}(hi:i<s.length):quoted s i q<0∨((i:Int)<quoted s i q∧quoted s i q<=s.length):=by
 unfold quoted;split
 ·have:=abH q _ (s.drop ((i:Int)+1).toNat) ((i:Int)+1) (Nat.le_refl _) ak;rw[List.length_drop] at this;omega
 ·omega
def aec{s:aB}{i:Nat}(hi:i<s.length):Wu s i<0∨((i:Int)<Wu s i∧Wu s i<=s.length):=by
 have:=UR (s:=s) (q:=47) hi;unfold Wu;cases quoted s i 47==(i:Int)+2 with
 |true=>rw[aI];omega
 |false=>rw[aS];exact this
def aiu(s:aB):∀(l:List (aB)) (i:Nat) (k:Int) (m:Nat),((k=0∧m=0)∨(30<=k∧1<=m))->(((opF s l i k m).1=0∧(opF s l i k m).2=0)∨(30<=(opF s l i k m).1∧1<=(opF s l i k m).2))
 |[],_,_,_,h=>h
 |g::l,i,k,m,h=>by
  rw[opF];cases hc:(Nat.blt m g.length && g.isPrefixOf s) with
  |false=>rw[aS];exact aiu s l (i+1) k m h
  |true=>rw[aI];rw[EU,Nat.blt_eq] at hc;exact aiu s l (i+1) _ _ (.inr ak)
def amR(s:aB):∀(l:List (aB)) (i:Nat) (k:Int) (m:Nat),m<=s.length->(opF s l i k m).2<=s.length
 |[],_,_,_,h=>h
 |g::l,i,k,m,h=>by
  rw[opF];cases hc:(Nat.blt m g.length && g.isPrefixOf s) with
  |false=>rw[aS];exact amR s l (i+1) k m h
  |true=>rw[aI];rw[EU] at hc;exact amR s l (i+1) _ _ (List.isPrefixOf_iff_prefix.1 hc.2).length_le
def opK(s:aB)(i:Nat):Int:=(opF (s.drop i) RF 0 0 0).1
def opN(s:aB)(i:Nat):Nat:=(opF (s.drop i) RF 0 0 0).2
def atd(s:aB)(i:Nat):(opK s i=0∧opN s i=0)∨(30<=opK s i∧1<=opN s i):=aiu _ _ _ _ _ (.inl ⟨rfl,rfl⟩)
def arO{s:aB}{i:Nat}(h:i<=s.length):i+opN s i<=s.length:=by have:=amR (s.drop i) RF 0 0 0 (Nat.zero_le _);rw[List.length_drop] at this;unfold opN;omega
def amS(s:aB)(i:Nat)(h0:i<s.length)(hs:s.length<=4000000):M.nN s (i:Int)=some (opK s i,(opN s i:Int)):=by
 have hl:RF.length=39:=rfl;simp only[M.nN,M.TS,M.Qp,dH,ah];rw[aC ak ak,zdt ak,zdt ak,Bool.and_self,Bool.not_true,aS];have hc:=QN (s:=s) (i:=i) (Nat.le_of_lt h0) (Nat.le_refl _);rw[amO] at hc;rw[agu (s.drop i) RF (λj g k m hg hm=> ?_) (λk m=> ?_) akX,ah]
 ·rfl
 ·have hi:=(Md.1 hg).1;rw[hl] at hi;have hsc:=amA j hi;simp only[TM,hg] at hsc;simp only[M.Vr,M.JF,U0,hsc,ah,hc,acZ,V4];rw[zdt ak,zdt ak,aC ak ak,aC ak ak];cases Nat.blt m g.length<;>cases g.isPrefixOf (s.drop i)<;>rfl
 ·rw[hl];rfl
def amT(s:aB)(i:Nat)(h0:i<s.length)(hs:s.length<=4000000):M.nM s (i:Int)=some (opK s i,(opN s i:Int)):=by
 have hl:RF.length=39:=rfl;simp only[M.nM,M.TQ,M.PV,ah8,ah];rw[agu (s.drop i) RF (λj g k m hg hm=> ?_) (λk m=> ?_) akX,ah]
 ·rfl
 ·have hi:=(Md.1 hg).1;rw[hl] at hi;have hg2:=akX g (zZ hg);have hw1:i64.wrap (30+(j:Int))=30+(j:Int):=aC ak ak;have hw2:i64.wrap ((j:Int)+1)=(j:Int)+1:=aC ak ak;have hw3:i64.wrap ((s.length:Int) - (i:Int))=((s.length - i:Nat):Int):=by rw[aC ak ak];omega
  have hw4:i64.wrap ((i:Int)+(g.length:Int))=((i+g.length:Nat):Int):=by rw[aC ak ak];omega
  simp only[M.Jv,M.zx,JI,aW,Xh,U0,hg,Jb,ah,cS0,hw1,hw2,hw3,hw4,hl];rw[zdt (show((j:Int))<((39:Nat):Int) by omega),aI,zdt (show(i:Int)>=0 by omega),aI,zdt (show(i:Int)<=(s.length:Int) by omega),aI]
  by_cases hq:g.length<=s.length - i
  ·have hcs:=QN (s:=s) (i:=i) (e:=i+g.length) ak ak;have hpe:=pre_eq g (s.drop i) (by rw[List.length_drop];exact hq);have hse:sub s i (i+g.length)=(s.drop i).take g.length:=by rw[sub,show i+g.length - i=g.length by omega]
   rw[zdt ak,aI,hcs,ah,hse,hpe,V4];cases Nat.blt m g.length<;>cases g.isPrefixOf (s.drop i)<;>rfl
  ·rw[nZ ak,aS,aea g (s.drop i) (by rw[List.length_drop];omega),Bool.and_false];rfl
 ·simp only[M.Jv,M.zx,JI];rw[nZ ak,aS]
def akZ{s:aB}{b:(aB×Int×Bool)⊕(aB×Int)->Option (((aB×Int×Bool)⊕(aB×Int))⊕(aB×Int))}(hs:s.length<=1048576)
  (h1:∀(a:Int) (v:Bool),b (.inl (s,a,v))=some (bif isW (qO s a) then .inl (.inr (s,i64.wrap (a+1))) else .inr (s,a)))
  (h2:∀(a:Int),b (.inr (s,a))=some (bif isW (qO s a) then .inl (.inr (s,i64.wrap (a+1))) else .inr (s,a))) (v:Bool) {i:Nat} (hi:i<=s.length):dI b (.inl (s,(i:Int),v))=some (s,(OV s i:Int)):=by
 have key:∀(n i:Nat),s.length - i<=n->i<=s.length->dI b (.inr (s,(i:Int)))=some (s,(OV s i:Int)):=by
  intro n;induction n with
  |zero=>
   intro i hn hi;have e:i=s.length:=ak;subst e;refine bn ?_;rw[h2,Z5 (Int.le_refl _)];have:OV s s.length=s.length:=by unfold OV;simp
   rw[this];rfl
  |succ n ih=>
   intro i hn hi
   by_cases hlt:i<s.length
   ·obtain⟨c,hc⟩:∃c,s[i]? =some c:=⟨s[i],by simp[hlt]⟩
    have hb:qO s (i:Int)=(c.toNat:Int):=by rw[Gs,hc]
    have hst:=aeb hc;cases hw:isW (c.toNat:Int) with
    |true=>rw[hw,aI] at hst;have hx:=h2 (i:Int);rw[hb,hw,aI,aC ak ak] at hx;rw[bW hx,hst,show(i:Int)+1=((i+1:Nat):Int) by omega];exact ih (i+1) ak ak
    |false=>rw[hw,aS] at hst;refine bn ?_;rw[h2,hb,hw,aS,hst]
   ·exact ih i ak hi
 by_cases hlt:i<s.length
 ·obtain⟨c,hc⟩:∃c,s[i]? =some c:=⟨s[i],by simp[hlt]⟩
  have hb:qO s (i:Int)=(c.toNat:Int):=by rw[Gs,hc]
  have hst:=aeb hc;cases hw:isW (c.toNat:Int) with
  |true=>rw[hw,aI] at hst;have hx:=h1 (i:Int) v;rw[hb,hw,aI,aC ak ak] at hx;rw[bW hx,hst,show(i:Int)+1=((i+1:Nat):Int) by omega];exact key _ (i+1) (Nat.le_refl _) ak
  |false=>rw[hw,aS] at hst;refine bn ?_;rw[h1,hb,hw,aS,hst]
 ·have e:i=s.length:=ak;subst e;refine bn ?_;rw[h1,Z5 (Int.le_refl _)];have:OV s s.length=s.length:=by unfold OV;simp
  rw[this];rfl
def aiv{s:aB}(hs:s.length<=1048576){i:Nat}(hi:i<=s.length)(hL:isL (qO s i)=true):M.vI s (i:Int)=some (OV s i:Int)∧M.vM s (i:Int)=some (OV s i:Int):=by
 have hb1:=λa=>zN hs a
 have hb2:=λa=>zO hs a
 constructor
 ·simp only[M.vI,M.Qc,hb1,ah,(OO _).1,hL,Bool.not_true,aS,M.NM];rw[akZ hs (λa v=> ?_) (λa=> ?_) false hi,ah]
  ·simp only[M.Qb,M.BR,hb1,ah,(yT _).1];cases isW (qO s a)<;>rfl
  ·simp only[M.Qb,M.BR,hb1,ah,(yT _).1];cases isW (qO s a)<;>rfl
 ·simp only[M.vM,M.QA,hb2,ah,(OO _).2,hL,Bool.not_true,aS,M.Oe];rw[akZ hs (λa v=> ?_) (λa=> ?_) false hi,ah]
  ·simp only[M.Qz,M.CS,hb2,ah,(yT _).2];cases isW (qO s a)<;>rfl
  ·simp only[M.Qz,M.CS,hb2,ah,(yT _).2];cases isW (qO s a)<;>rfl
def ak0(s w:aB)(e:Nat):Int:=bif amy w !=0 then amy w else bif Zi w then 8 else bif qO s e==40 then 7 else 6
def ate{s:aB}(hs:s.length<=1048576){i e:Nat}(h1:i<=e)(h2:e<=s.length):M.yH s (i:Int) (e:Int)=some (ak0 s (sub s i e) e,sub s i e,(i:Int))∧M.qw s (i:Int) (e:Int)=some (ak0 s (sub s i e) e,sub s i e,(i:Int)):=by
 have hb1:=λa=>zN hs a
 have hb2:=λa=>zO hs a
 simp only[M.yH,M.SI,M.qw,M.Lj,QN h1 h2,(XU _).1,(XU _).2,(QH _).1,(QH _).2,hb1,hb2,ah,ak0];cases amy (sub s i e) !=0<;>cases Zi (sub s i e)<;>cases qO s (e:Int)==40<;>exact⟨rfl,rfl⟩
def n10'{c:UInt8}(h:(c.toNat:Int)≠10):(c==10)=false:=JX.2 λe=>h (by rw[e];rfl)
def ayR(s w:aB)(e:Nat):ak0 s w e≠0:=by
 unfold ak0;cases h:amy w !=0 with
 |true=>rw[aI];simpa using h
 |false=>
  rw[aS];cases Zi w
  ·rw[aS];cases qO s (e:Int)==40<;>decide
  ·rw[aI];decide
def aqg(s:aB)(i:Nat)(k e:Int):Option (Int×aB):=bif decide (e<0) then none else some (k,sub s i e.toNat)
def atf(s:aB)(i:Nat):Option (Int×aB):=bif Lp (sub s i (OV s i)) then some (ak0 s (sub s i (OV s i)) (OV s i),sub s i (OV s i)) else none
def opT(s:aB)(i:Nat):Option (Int×aB):=bif opK s i==0 then none else some (opK s i,sub s i (i+opN s i))
def afh(s:aB)(i:Nat):Option (Int×aB):=bif isL (qO s i) then atf s i else opT s i
def L8(s:aB)(i:Nat)(bf:Int):Option (Int×aB):=
 bif qO s i==10 then some (1,[10]) else bif qO s i==35 then some (2,sub s i (Zo s i)) else bif isD (qO s i) then aqg s i 3 (Vw s i) else bif qO s i==46 then aqg s i 3 (Vw s i) else
 bif qO s i==34 then aqg s i 4 (quoted s i 34) else bif qO s i==47 then(bif !(X9 bf) then aqg s i 5 (Wu s i) else afh s i) else afh s i
def arP(i j:Int):Option (Int×aB)->Int×aB×Int
 |none=>(0,[],j)
 |some p=>(p.1,p.2,i)
def aqh(c:UInt8):∀l:aB,(Lib.indexByte l c<0∧(l.takeWhile λx=> !(x==c)).length=l.length)∨Lib.indexByte l c=((l.takeWhile λx=> !(x==c)).length:Int)
 |[]=> .inl ⟨by rw[Lib.indexByte];omega,rfl⟩
 |b::l=>by
  have ih:=aqh c l;rw[Lib.indexByte,List.takeWhile_cons];cases hb:b==c with
  |true=>right;simp
  |false=>
   simp only[Bool.not_false,if_true,Bool.false_eq_true,if_false,lU];have hge:=Lib.indexByte_ge l c;rcases ih with⟨h1,h2⟩|h
   ·left;have:Lib.indexByte l c= -1:=ak;rw[this,h2];exact⟨by decide,rfl⟩
   ·right;rw[h];have:((((l.takeWhile λx=> !(x==c)).length:Nat):Int)== -1)=false:=JX.2 ak;rw[this];simp
section
variable {s:aB} (hs:s.length<=1048576) {i:Nat} (hi:i<s.length) (bf:Int)
include hs hi
omit hs hi in
theorem Z7{k e:Int}{j:Int}(h:e<0∨((i:Int)<e∧e<=s.length)):(bif decide (e<0) then some ((0:Int),([]:aB),j) else(cut s (i:Int) e).bind λw=>some (k,w,(i:Int)))=some (arP i j (aqg s i k e)):=by
 unfold aqg;rcases h with h|⟨h1,h2⟩
 ·rw[zdt h,aI,aI];rfl
 ·rw[nZ ak,aS,aS];obtain⟨n,rfl⟩:=Int.eq_ofNat_of_zero_le (show 0<=e by omega);rw[QN ak ak,ah,U0];rfl
theorem auI:((M.kW (qO s i)).bind λr=>bif r then(M.vM s (i:Int)).bind λe=>(cut s (i:Int) e).bind λw=>(M.nI w).bind λq=>bif q then(M.qw s (i:Int) e).bind λt=>some (t.fst,t.snd.fst,t.snd.snd) else some (0,[],0)
  else(M.nN s (i:Int)).bind λr=>bif r.fst==0 then some (0,[],0) else bif decide (i64.wrap ((i:Int)+r.snd)<0) then some (0,[],0) else(cut s (i:Int) (i64.wrap ((i:Int)+r.snd))).bind λw=>some (r.fst,w,(i:Int)))=some (arP i 0 (afh s i)):=by
 unfold afh;rw[(OO _).2,ah];cases hL:isL (qO s i) with
 |true=>
  have hw:=amP (Nat.le_of_lt hi);have hle:i<=OV s i:=by unfold OV;omega
  have hne:=(aiv hs (Nat.le_of_lt hi) hL).2;have hwd:=(ate hs hle hw).2;have hns:=(XV (sub s i (OV s i)) (by rw[Z4 hle hw];omega)).2;simp only[aI,hne,ah,QN hle hw,hns,hwd,atf];cases Lp (sub s i (OV s i))<;>rfl
 |false=>
  have hop:=amS s i hi ak;have hln:=arO (Nat.le_of_lt hi);have hw:i64.wrap ((i:Int)+(opN s i:Int))=((i+opN s i:Nat):Int):=by rw[aC ak ak];omega
  simp only[aS,hop,ah,hw,opT];rw[nZ ak,QN ak hln];cases opK s i==0<;>rfl
theorem auJ:((M.kV (qO s i)).bind λr=>bif r then(M.vI s (i:Int)).bind λe=>(M.yH s (i:Int) e).bind λt=>(M.nH t.snd.fst).bind λq=>bif !q then some (0,[],(i:Int)) else some (t.fst,t.snd.fst,t.snd.snd)
  else(M.nM s (i:Int)).bind λr=>bif r.snd==0 then some (0,[],(i:Int)) else bif decide (i64.wrap ((i:Int)+r.snd)<0) then some (0,[],(i:Int)) else(cut s (i:Int) (i64.wrap ((i:Int)+r.snd))).bind λw=>some (r.fst,w,(i:Int)))=some (arP i i (afh s i)):=by
 unfold afh;rw[(OO _).1,ah];cases hL:isL (qO s i) with
 |true=>
  have hw:=amP (Nat.le_of_lt hi);have hle:i<=OV s i:=by unfold OV;omega
  have hne:=(aiv hs (Nat.le_of_lt hi) hL).1;have hwd:=(ate hs hle hw).1;have hns:=(XV (sub s i (OV s i)) (by rw[Z4 hle hw];omega)).1;simp only[aI,hne,ah,hns,hwd,atf];cases Lp (sub s i (OV s i))<;>rfl
 |false=>
  have hop:=amT s i hi ak;have hln:=arO (Nat.le_of_lt hi);have hz:=atd s i;have hw:i64.wrap ((i:Int)+(opN s i:Int))=((i+opN s i:Nat):Int):=by rw[aC ak ak];omega
  simp only[aS,hop,ah,hw,opT];rw[nZ ak,QN ak hln];rcases hz with⟨h1,h2⟩|⟨h1,h2⟩
  ·rw[h1,h2];rfl
  ·have e1:(opK s i==0)=false:=JX.2 ak;have e2:((opN s i:Int)==0)=false:=JX.2 ak;rw[e1,e2];rfl
theorem arQ:M.vN s (i:Int) bf=some (arP i 0 (L8 s i bf)):=by
 obtain⟨c,hc⟩:∃c,s[i]? =some c:=⟨s[i],by simp[hi]⟩
 have hb:qO s (i:Int)=(c.toNat:Int):=by rw[Gs,hc]
 have hR:=auI hs hi;have hw1:i64.wrap ((i:Int)+1)=((i+1:Nat):Int):=by rw[aC ak ak];omega
 have hnum:=Zf hs (i:Int) ak;have hstr:=(ad5 hs (i:Int) ak ak).2;have here:=(ad6 hs (i:Int) ak ak).2;have c3:=Z7 (s:=s) (i:=i) (j:=0) (k:=3) (UQ hs hi);have c4:=Z7 (s:=s) (i:=i) (j:=0) (k:=4) (UR (q:=34) hi);have c5:=Z7 (s:=s) (i:=i) (j:=0) (k:=5) (aec hi);simp only[M.vN,M.QB,aW,hc,ah,ZY,<-hb,ah6,hnum,hstr,here,(Zp bf).2,c3,c4,c5];unfold L8;cases h10:qO s i==10 with
 |true=>
  have bbW:c=10:=by
   rw[hb,beq_iff_eq] at h10
   have h9:c.toNat=10:=by omega
   exact UInt8.toNat_inj.1 (by rw[h9];rfl)
  rw[aI,aI,hw1,nZ ak,aS,QN ak ak,ah,sub,show i+1 - i=1 by omega,List.drop_eq_getElem_cons hi,(Md.1 hc).2,bbW];rfl
 |false=>
 rw[aS,aS];cases h35:qO s i==35 with
 |true=>
  have hcl:=amQ (Nat.le_of_lt hi);have hix:M.strings_IndexByte (s.drop i) 10=some (Lib.indexByte (s.drop i) 10):=rfl;rw[aI,aI,QN (Nat.le_of_lt hi) (Nat.le_refl _),ah,amO,hix,ah];rcases aqh 10 (s.drop i) with⟨h1,h2⟩|h1
  ·rw[nZ ak,aS,ah];have:Zo s i=s.length:=by unfold Zo;rw[h2,List.length_drop];omega
   rw[this,amO];rfl
  ·have hce:((i:Int)+Lib.indexByte (s.drop i) 10)=((Zo s i:Nat):Int):=by rw[h1];unfold Zo;omega
   rw[hce,h1,zdt ak,aI,aC ak ak,nZ ak,aS,QN (by unfold Zo;omega) hcl,ah];rfl
 |false=>
 rw[aS,aS];cases isD (qO s i) with
 |true=>rfl
 |false=>
 rw[aS,aS];cases qO s i==46 with
 |true=>rfl
 |false=>
 rw[aS,aS];cases qO s i==34 with
 |true=>rfl
 |false=>
 rw[aS,aS];cases qO s i==47 with
 |true=>
  rw[aI,aI];cases X9 bf with
  |false=>rfl
  |true=>exact hR
 |false=>exact hR
omit hi in
theorem ayS(x y:Int)(a b:aB)(u v w:Int):∀(n j:Nat),s.length - j<=n->j<=s.length->M.uG s x y a u v b w (j:Int)=some ((Zo s j:Nat):Int):=by
 intro n;induction n with
 |zero=>
  intro j hn hj;have e:j=s.length:=ak;subst e;rw[M.uG];refine bn ?_;simp only[M.BU,M.wQ];rw[nZ ak,aS];have:Zo s s.length=s.length:=by unfold Zo;simp
  rw[this]
 |succ n ih=>
  intro j hn hj
  by_cases hlt:j<s.length
  ·obtain⟨c,hc⟩:∃c,s[j]? =some c:=⟨s[j],by simp[hlt]⟩
   have hst:=akY hc;have hcc:((c.toNat:Int) !=10)= !(c==10):=by have:=aEi c 10 ak;simp only[bne];exact congrArg (!·) this
   cases h10:c==10 with
   |true=>rw[h10,aI] at hst;rw[M.uG];refine bn ?_;simp only[M.BU,M.wQ,aW,hc,ah,hcc,h10,Bool.not_true];rw[zdt ak,aI,aS,hst]
   |false=>
    rw[h10,aS] at hst;have hb:M.BU s x y a u v b w (j:Int)=some (.inl ((j+1:Nat):Int)):=by simp only[M.BU,M.wQ,aW,hc,ah,hcc,h10,Bool.not_false];rw[zdt ak,aI,aI,aC ak ak];rfl
    have:=ih (j+1) ak ak;rw[M.uG] at this;rw[M.uG,bW hb,this,hst]
  ·exact ih j ak hj
theorem auK:M.yI s (i:Int) (!(X9 bf))=some (arP i i (L8 s i bf)):=by
 obtain⟨c,hc⟩:∃c,s[i]? =some c:=⟨s[i],by simp[hi]⟩
 have hb:qO s (i:Int)=(c.toNat:Int):=by rw[Gs,hc]
 have hR:=auJ hs hi;have hnum:=Zg hs (i:Int) ak;have hstr:=(ad5 hs (i:Int) ak ak).1;have here:=(ad6 hs (i:Int) ak ak).1;have c3:=Z7 (s:=s) (i:=i) (j:=(i:Int)) (k:=3) (UQ hs hi);have c4:=Z7 (s:=s) (i:=i) (j:=(i:Int)) (k:=4) (UR (q:=34) hi);have c5:=Z7 (s:=s) (i:=i) (j:=(i:Int)) (k:=5) (aec hi);have hcl:=amQ (Nat.le_of_lt hi);have hcm:=ayS hs (i:Int) 0 [] [] 0 0 (i:Int) _ i (Nat.le_refl _) (Nat.le_of_lt hi);simp only[M.yI,M.SK,aW,hc,ah,ZY,<-hb,ah5,hnum,hstr,here,c3,c4,c5,hcm];unfold L8;cases h10:qO s i==10 with
 |true=>rfl
 |false=>
 rw[aS,aS];cases h35:qO s i==35 with
 |true=>rw[aI,aI,nZ ak,aS,QN (by unfold Zo;omega) hcl,ah];rfl
 |false=>
 rw[aS,aS];cases isD (qO s i) with
 |true=>rfl
 |false=>
 rw[aS,aS];cases qO s i==46 with
 |true=>rfl
 |false=>
 rw[aS,aS];cases qO s i==34 with
 |true=>rfl
 |false=>
 rw[aS,aS];cases qO s i==47 with
 |true=>
  rw[aI,aI];cases X9 bf with
  |false=>rfl
  |true=>exact hR
 |false=>exact hR
theorem VA{k:Int}{w:aB}(h:L8 s i bf=some (k,w)):k≠0∧1<=w.length∧i+w.length<=s.length:=by
 obtain⟨c,hc⟩:∃c,s[i]? =some c:=⟨s[i],by simp[hi]⟩
 have hb:qO s (i:Int)=(c.toNat:Int):=by rw[Gs,hc]
 have hE:∀{k' e:Int},k'≠0->(e<0∨((i:Int)<e∧e<=s.length))->aqg s i k' e=some (k,w)->k≠0∧1<=w.length∧i+w.length<=s.length:=by
  intro k' e hk he hx;unfold aqg at hx;rcases he with he|⟨h1,h2⟩
  ·rw[zdt he] at hx;cases hx
  ·rw[nZ ak,aS] at hx;cases hx;rw[Z4 ak ak];exact⟨hk,ak,ak⟩
 have hR:afh s i=some (k,w)->k≠0∧1<=w.length∧i+w.length<=s.length:=by
  intro hx;unfold afh at hx;cases hL:isL (qO s i) with
  |true=>
   rw[hL,aI] at hx;unfold atf at hx;cases hn:Lp (sub s i (OV s i)) with
   |false=>rw[hn] at hx;cases hx
   |true=>
    rw[hn,aI] at hx;cases hx;have hw:=amP (Nat.le_of_lt hi);have hle:i<=OV s i:=by unfold OV;omega
    have hst:=aeb hc;rw[<-hb,show isW (qO s i)=true by unfold isW;rw[hL];rfl,aI] at hst;have:i+1<=OV s i:=by rw[hst];unfold OV;omega
    rw[Z4 hle hw];exact⟨ayR _ _ _,ak,ak⟩
  |false=>
   rw[hL,aS] at hx;unfold opT at hx;cases hz:opK s i==0 with
   |true=>rw[hz] at hx;cases hx
   |false=>rw[hz,aS] at hx;cases hx;rw[JX] at hz;have h0:=atd s i;have hln:=arO (Nat.le_of_lt hi);rw[Z4 ak hln];exact⟨hz,ak,ak⟩
 unfold L8 at h;cases h10:qO s i==10 with
 |true=>rw[h10,aI] at h;cases h;exact⟨by decide,by simp,by simp;omega⟩
 |false=>
 rw[h10,aS] at h;cases h35:qO s i==35 with
 |true=>
  rw[h35,aI] at h;cases h;have hcl:=amQ (Nat.le_of_lt hi);have hst:=akY hc;have hn:(c==10)=false:=n10' (by rw[<-hb];rw[JX] at h10;exact h10);rw[hn,aS] at hst;have:i+1<=Zo s i:=by rw[hst];unfold Zo;omega
  rw[Z4 ak hcl];exact⟨by decide,ak,ak⟩
 |false=>
 rw[h35,aS] at h;cases hD:isD (qO s i) with
 |true=>rw[hD,aI] at h;exact hE (by decide) (UQ hs hi) h
 |false=>
 rw[hD,aS] at h;cases h46:qO s i==46 with
 |true=>rw[h46,aI] at h;exact hE (by decide) (UQ hs hi) h
 |false=>
 rw[h46,aS] at h;cases h34:qO s i==34 with
 |true=>rw[h34,aI] at h;exact hE (by decide) (UR hi) h
 |false=>
 rw[h34,aS] at h;cases h47:qO s i==47 with
 |true=>
  rw[h47,aI] at h;cases he:X9 bf with
  |false=>rw[he,Bool.not_false,aI] at h;exact hE (by decide) (aec hi) h
  |true=>rw[he,Bool.not_true,aS] at h;exact hR h
 |false=>rw[h47,aS] at h;exact hR h
end
def JM(l:List Tk):ay (bZ l)=true:=by simp[ay,bZ,YU,D.flat]
def afZ(s:aB):Nat->Nat->Int->List Tk->List Tk⊕Nat
 |0,_,_,acc=> .inl acc
 |f+1,i,bf,acc=>bif Nat.ble s.length i then .inl acc else bif ais (qO s i) then afZ s f (i+1) bf acc else
  bif qO s i==92 && qO s ((i+1:Nat):Int)==10 then afZ s f (i+2) bf acc else
  match L8 s i bf with
  |none=> .inr i
  |some p=>afZ s f (i+p.2.length) p.1 (acc++[⟨p.1,p.2,(i:Int)⟩])
def Ya(n:Nat)(l:List Tk):Prop:=∀t,t∈l->t.text.length<=n
def Ya.snoc{n:Nat}{l:List Tk}{t:Tk}(h:Ya n l)(ht:t.text.length<=n):Ya n (l++[t]):=by
 intro u hu;rcases List.mem_append.1 hu with hu|hu
 ·exact h u hu
 ·rw[List.mem_singleton] at hu;rw[hu];exact ht
def agv{s:aB}(hs:s.length<=1048576):∀(f i:Nat) (bf:Int) (acc l:List Tk),i<=s.length->acc.length<=i->Ya s.length acc->afZ s f i bf acc=.inl l->l.length<=s.length∧Ya s.length l
 |0,i,bf,acc,l,hi,hl,ht,h=>by cases h;exact⟨ak,ht⟩
 |f+1,i,bf,acc,l,hi,hl,ht,h=>by
  rw[afZ] at h;cases hb:Nat.ble s.length i with
  |true=>rw[hb,aI] at h;cases h;exact⟨ak,ht⟩
  |false=>
   have hlt:i<s.length:=by
    have:¬(Nat.ble s.length i=true):=by rw[hb];simp
    rw[Nat.ble_eq] at this;omega
   rw[hb,aS] at h;cases h1:ais (qO s i) with
   |true=>rw[h1,aI] at h;exact agv hs f (i+1) bf acc l ak ak ht h
   |false=>
    rw[h1,aS] at h;cases h2:(qO s i==92 && qO s ((i+1:Nat):Int)==10) with
    |true=>
     rw[h2,aI] at h;have:i+1<s.length:=by
      by_cases hc:i+1<s.length
      ·exact hc
      ·rw[Z5 (a:=((i+1:Nat):Int)) ak] at h2;rw[EU] at h2;cases h2.2
     exact agv hs f (i+2) bf acc l ak ak ht h
    |false=>
     rw[h2,aS] at h;cases hk:L8 s i bf with
     |none=>rw[hk] at h;cases h
     |some p=>obtain⟨k,w⟩:=p;rw[hk] at h;have hp:=VA hs hlt bf hk;exact agv hs f _ _ _ l hp.2.2 (by rw[pF,J3];have:=hp.2.1;omega) (ht.snoc (by show w.length<=_;omega)) h
section
variable {s:aB} (hs:s.length<=3000)
include hs
theorem atg(x y:Int):∀(f i:Nat) (bf:Int) (acc:List Tk),s.length<i+f->i<=s.length->acc.length<=i->
  match afZ s f i bf acc with
  | .inl l=>∃b',M.oK s x y ((i:Int),bf,bZ acc)=some (.inr ((s.length:Int),b',bZ l))
  | .inr a=>M.oK s x y ((i:Int),bf,bZ acc)=some (.inl (a:Int))
 |0,i,bf,acc,hf,hi,hl=>absurd hf ak
 |f+1,i,bf,acc,hf,hi,hl=>by
  rw[afZ]
  by_cases hlt:i<s.length
  ·have hb:Nat.ble s.length i=false:=by
    cases hb:Nat.ble s.length i with
    |false=>rfl
    |true=>rw[Nat.ble_eq] at hb;omega
   obtain⟨c,hc⟩:∃c,s[i]? =some c:=⟨s[i],by simp[hlt]⟩
   have hbc:qO s (i:Int)=(c.toNat:Int):=by rw[Gs,hc]
   have hw1:i64.wrap ((i:Int)+1)=((i+1:Nat):Int):=by rw[aC ak ak];omega
   have hw2:i64.wrap ((i:Int)+2)=((i+2:Nat):Int):=by rw[aC ak ak];omega
   have hby:=λa=>zO (s:=s) (by omega:s.length<=1048576) a
   have htk:=arQ (s:=s) ak hlt bf;have hbody:M.I5 s x y ((i:Int),bf,bZ acc)=some (bif ais (qO s i) then .inl (((i+1:Nat):Int),bf,bZ acc) else
     bif qO s i==92 && qO s ((i+1:Nat):Int)==10 then .inl (((i+2:Nat):Int),bf,bZ acc) else
     match L8 s i bf with
     |none=> .inr (.inl (i:Int))
     |some p=> .inl (((i+p.2.length:Nat):Int),p.1,bZ (acc++[⟨p.1,p.2,(i:Int)⟩]))):=by
    have tail:((M.vN s (i:Int) bf).bind λr=>bif r.fst==0 then some (Sum.inr (Sum.inl (i:Int))) else
      bif(((bZ acc).length+[[D.int IntKind.i64 r.fst,D.str r.snd.fst,D.int IntKind.i64 r.snd.snd]].length) * 32).ble 140737488355328 then
      bif((bZ acc).length+[[D.int IntKind.i64 r.fst,D.str r.snd.fst,D.int IntKind.i64 r.snd.snd]].length).ble 140737488355328 then
       some (Sum.inl (i64.wrap ((i:Int)+(r.snd.fst.length:Int)),r.fst,bZ acc++[[D.int IntKind.i64 r.fst,D.str r.snd.fst,D.int IntKind.i64 r.snd.snd]])) else none else none)=
      some (match L8 s i bf with
       |none=>(Sum.inr (Sum.inl (i:Int)):(Int×Int×aA)⊕(Int⊕(Int×Int×aA)))
       |some p=> .inl (((i+p.2.length:Nat):Int),p.1,bZ (acc++[⟨p.1,p.2,(i:Int)⟩]))):=by
     rw[htk,ah];cases hk:L8 s i bf with
     |none=>rfl
     |some p=>obtain⟨k,w⟩:=p;have hp:=VA ak hlt bf hk;simp only[arP,dD,lU,qX];rw[JX.2 hp.1,aS,aJ ak,aI,aJ ak,aI,aC ak ak];simp only[bZ,List.map_append];rfl
    simp only[iY,M.I5,M.CU,aW,hc,ah,ZY,<-hbc,(ait _).2,hw1,hw2,hby];rw[zdt ak,aI];cases ais (qO s i) with
    |true=>rfl
    |false=>
     rw[aS,aS];cases qO s i==92 with
     |true=>
      rw[aI,Bool.true_and];cases qO s ((i+1:Nat):Int)==10 with
      |true=>rfl
      |false=>exact tail
     |false=>exact tail
   rw[hb,aS];cases h1:ais (qO s i) with
   |true=>rw[h1,aI] at hbody;have:=atg x y f (i+1) bf acc ak ak ak;rw[aI];rw[M.oK] at this⊢;rw[bW hbody];exact this
   |false=>
    rw[h1,aS] at hbody;rw[aS];cases h2:(qO s i==92 && qO s ((i+1:Nat):Int)==10) with
    |true=>
     rw[h2,aI] at hbody;have hlt2:i+1<s.length:=by
      by_cases hcc:i+1<s.length
      ·exact hcc
      ·rw[Z5 (a:=((i+1:Nat):Int)) ak] at h2;rw[EU] at h2;cases h2.2
     have:=atg x y f (i+2) bf acc ak ak ak;rw[aI];rw[M.oK] at this⊢;rw[bW hbody];exact this
    |false=>
     rw[h2,aS] at hbody;rw[aS];cases hk:L8 s i bf with
     |none=>rw[hk] at hbody;rw[M.oK];exact bn hbody
     |some p=>obtain⟨k,w⟩:=p;rw[hk] at hbody;have hp:=VA ak hlt bf hk;have:=atg x y f (i+w.length) k (acc++[⟨k,w,(i:Int)⟩]) ak ak (by rw[pF,J3];omega);rw[M.oK] at this⊢;simp only[] at hbody⊢;rw[bW hbody];exact this
  ·have hb:Nat.ble s.length i=true:=by rw[Nat.ble_eq];omega
   rw[hb,aI];refine⟨bf, ?_⟩;rw[M.oK];refine bn ?_;simp only[iY,M.I5,M.CU];rw[nZ ak,aS,show(i:Int)=(s.length:Int) by omega]
theorem ath(x y:Int):∀(f i:Nat) (bf:Int) (acc:List Tk),s.length<i+f->i<=s.length->acc.length<=i->
  match afZ s f i bf acc with
  | .inl l=>∃b',M.yR s x y (bf,(i:Int),bZ acc)=some (.inr (b',(s.length:Int),bZ l))
  | .inr a=>M.yR s x y (bf,(i:Int),bZ acc)=some (.inl (2,(a:Int)))
 |0,i,bf,acc,hf,hi,hl=>absurd hf ak
 |f+1,i,bf,acc,hf,hi,hl=>by
  rw[afZ]
  by_cases hlt:i<s.length
  ·have hb:Nat.ble s.length i=false:=by
    cases hb:Nat.ble s.length i with
    |false=>rfl
    |true=>rw[Nat.ble_eq] at hb;omega
   obtain⟨c,hc⟩:∃c,s[i]? =some c:=⟨s[i],by simp[hlt]⟩
   have hbc:qO s (i:Int)=(c.toNat:Int):=by rw[Gs,hc]
   have hw1:i64.wrap ((i:Int)+1)=((i+1:Nat):Int):=by rw[aC ak ak];omega
   have hw2:i64.wrap ((i:Int)+2)=((i+2:Nat):Int):=by rw[aC ak ak];omega
   have hby:=λa=>zN (s:=s) (by omega:s.length<=1048576) a
   have htk:=auK (s:=s) ak hlt bf;have hbody:M.SL s x y (bf,(i:Int),bZ acc)=some (bif ais (qO s i) then .inl (bf,((i+1:Nat):Int),bZ acc) else
     bif qO s i==92 && qO s ((i+1:Nat):Int)==10 then .inl (bf,((i+2:Nat):Int),bZ acc) else
     match L8 s i bf with
     |none=> .inr (.inl (2,(i:Int)))
     |some p=> .inl (p.1,((i+p.2.length:Nat):Int),bZ (acc++[⟨p.1,p.2,(i:Int)⟩]))):=by
    have tail:((M.yI s (i:Int) !(X9 bf)).bind λr=>bif r.fst==0 then some (Sum.inr (Sum.inl (2,(i:Int)))) else
      bif((bZ acc).length:Int)==3000 then some (Sum.inr (Sum.inl (1,0))) else
      bif(((bZ acc).length+[[D.int IntKind.i64 r.fst,D.str r.snd.fst,D.int IntKind.i64 r.snd.snd]].length) * 32).ble 140737488355328 then
      bif((bZ acc).length+[[D.int IntKind.i64 r.fst,D.str r.snd.fst,D.int IntKind.i64 r.snd.snd]].length).ble 140737488355328 then
       some (Sum.inl (r.fst,i64.wrap ((i:Int)+(r.snd.fst.length:Int)),bZ acc++[[D.int IntKind.i64 r.fst,D.str r.snd.fst,D.int IntKind.i64 r.snd.snd]])) else none else none)=
      some (match L8 s i bf with
       |none=>(Sum.inr (Sum.inl (2,(i:Int))):(Int×Int×aA)⊕((Int×Int)⊕(Int×Int×aA)))
       |some p=> .inl (p.1,((i+p.2.length:Nat):Int),bZ (acc++[⟨p.1,p.2,(i:Int)⟩]))):=by
     rw[htk,ah];cases hk:L8 s i bf with
     |none=>rfl
     |some p=>obtain⟨k,w⟩:=p;have hp:=VA ak hlt bf hk;simp only[arP,dD,lU,qX];rw[JX.2 hp.1,aS,show((acc.length:Int)==3000)=false from JX.2 ak,aS,aJ ak,aI,aJ ak,aI,aC ak ak];simp only[bZ,List.map_append];rfl
    simp only[iY,M.SL,M.MJ,aW,hc,ah,ZY,<-hbc,(ait _).1,hw1,hw2,hby,(Zp bf).1];rw[zdt ak,aI];cases ais (qO s i) with
    |true=>rfl
    |false=>
     rw[aS,aS];cases qO s i==92 with
     |true=>
      rw[aI,Bool.true_and];cases qO s ((i+1:Nat):Int)==10 with
      |true=>rfl
      |false=>exact tail
     |false=>exact tail
   rw[hb,aS];cases h1:ais (qO s i) with
   |true=>rw[h1,aI] at hbody;have:=ath x y f (i+1) bf acc ak ak ak;rw[aI];rw[M.yR] at this⊢;rw[bW hbody];exact this
   |false=>
    rw[h1,aS] at hbody;rw[aS];cases h2:(qO s i==92 && qO s ((i+1:Nat):Int)==10) with
    |true=>
     rw[h2,aI] at hbody;have hlt2:i+1<s.length:=by
      by_cases hcc:i+1<s.length
      ·exact hcc
      ·rw[Z5 (a:=((i+1:Nat):Int)) ak] at h2;rw[EU] at h2;cases h2.2
     have:=ath x y f (i+2) bf acc ak ak ak;rw[aI];rw[M.yR] at this⊢;rw[bW hbody];exact this
    |false=>
     rw[h2,aS] at hbody;rw[aS];cases hk:L8 s i bf with
     |none=>rw[hk] at hbody;rw[M.yR];exact bn hbody
     |some p=>obtain⟨k,w⟩:=p;rw[hk] at hbody;have hp:=VA ak hlt bf hk;have:=ath x y f (i+w.length) k (acc++[⟨k,w,(i:Int)⟩]) ak ak (by rw[pF,J3];omega);rw[M.yR] at this⊢;simp only[] at hbody⊢;rw[bW hbody];exact this
  ·have hb:Nat.ble s.length i=true:=by rw[Nat.ble_eq];omega
   rw[hb,aI];refine⟨bf, ?_⟩;rw[M.yR];refine bn ?_;simp only[iY,M.SL,M.MJ];rw[nZ ak,aS,show(i:Int)=(s.length:Int) by omega]
end
def ac1(s:aB):List Tk×Int×Int:=if s.length>3000 then([],1,0) else match afZ s (s.length+1) 0 0 [] with
 | .inl l=>(l,0,0)
 | .inr a=>([],2,(a:Int))
def aCa(s:aB):(ac1 s).1.length<=3000∧Ya 3000 (ac1 s).1:=by
 have h0:Ya 3000 []:=λt h=>by cases h
 unfold ac1;split
 ·exact⟨Nat.zero_le _,h0⟩
 ·next hn=>
  cases hx:afZ s (s.length+1) 0 0 [] with
  |inr a=>exact⟨Nat.zero_le _,h0⟩
  |inl l=>have:=agv (s:=s) ak _ 0 0 [] l (Nat.zero_le _) (Nat.zero_le _) (λt h=>by cases h) hx;exact⟨by show l.length<=3000;omega,λt ht=>by have:=this.2 t ht;omega⟩
def aHS(s:aB):M.TN s=some (bZ (ac1 s).1,(ac1 s).2.1,(ac1 s).2.2)∧M.TP s=some (bZ (ac1 s).1,(ac1 s).2.1,(ac1 s).2.2):=by
 simp only[M.TN,M.XO,M.TP,M.XT,M.FI,M.QC,ac1]
 by_cases h:s.length>3000
 ·rw[if_pos h,zdt ak,aI,aI];exact⟨rfl,rfl⟩
 ·rw[if_neg h,nZ ak,aS,aS];have h1:=atg (s:=s) ak 0 0 (s.length+1) 0 0 [] ak ak (by simp);have h2:=ath (s:=s) ak 0 0 (s.length+1) 0 0 [] ak ak (by simp);have e0:bZ []=[]:=rfl;rw[e0,pz] at h1 h2;cases hx:afZ s (s.length+1) 0 0 [] with
  |inl l=>rw[hx] at h1 h2;obtain⟨b1,h1⟩:=h1;obtain⟨b2,h2⟩:=h2;rw[h1,h2];simp only[ah,o8,letE,JM,aI];refine⟨?_, ?_⟩<;>first|rfl|trivial
  |inr a=>rw[hx] at h1 h2;rw[h1,h2];simp only[ah,o8,letE];refine⟨?_, ?_⟩<;>first|rfl|trivial
def Yb(k n:Int)(x:aB)(c:Nat):Bool:=
 bif(!(k==4) && !(n==0))||(!(k==1) && !(x==[])) then false else
 bif k==1 then !(hasB 10 x) && Nat.beq c 0 else bif k==2||k==3 then Nat.beq c 0 else bif k==4 then(decide (0<=n) && decide (n<=40)) && Nat.beq c 1 else
 bif k==5 then Nat.beq c 1 else k==6
mutual
def dOk:Tn->Bool
 | .mk k n x _ ks=>aqi ks && Yb k n x ks.length
def aqi:List Tn->Bool
 |[]=>true
 |t::ts=>(dOk t) && aqi ts
end
mutual
def DK:Tn->Option (aB)
 | .mk k _ x _ ks=>bif k==1 then some x else bif k==2 then some [32] else bif k==3 then none else Ag ks
def Ag:List Tn->Option (aB)
 |[]=>some []
 |t::ts=>match(DK t) with
  |none=>none
  |some a=>match Ag ts with
   |none=>none
   |some b=>some (a++b)
end
mutual
def bh:Tn->Nat×Bool
 | .mk k _ x _ ks=>bif k==2||k==3 then(0,true) else((bif k==1 then x.length else 0)+(VB ks).1,(VB ks).2)
def VB:List Tn->Nat×Bool
 |[]=>(0,false)
 |t::ts=>bif(bh t).2 then(bh t) else((bh t).1+(VB ts).1,(VB ts).2)
end
abbrev Pc:=Tn×Int×Bool
def aiw(w col:Int)(t:Tn)(st:List Pc):Bool:=match(DK t) with
 |some s=>decide ((s.length:Int)+(VB (st.map (·.1))).1<=w - col)
 |none=>false
def brk(out:aB)(i:Int):aB:=out++(10::List.replicate i.toNat 32)
def lay(w:Int):Nat->List Pc->aB->Int->aB
 |0,_,out,_=>out
 |_+1,[],out,_=>out
 |n+1,(.mk k m x y ks,i,f)::st,out,col=>
  bif k==1 then lay w n st (out++x) (col+x.length) else
  bif k==2 && f then lay w n st (out++[32]) (col+1) else
  bif k==2||k==3 then lay w n st (brk out i) i else
  bif k==4 then lay w n (ks.map (λt=>(t,i+m,f))++st) out col else
  bif k==5 then lay w n (ks.map (λt=>(t,i,f||aiw w col (.mk k m x y ks) st))++st) out col else
  lay w n (ks.map (λt=>(t,i,f))++st) out col
def render(t:Tn)(w:Int):Option (aB):=bif(Nat.ble t.size 4000 &&(dOk t)) &&(decide (0<=w) && decide (w<=10000)) then some (lay w t.size [(t,0,false)] [] 0) else none
end Go.Proofs.YtbgadfelmhoheaaGreatDoor
