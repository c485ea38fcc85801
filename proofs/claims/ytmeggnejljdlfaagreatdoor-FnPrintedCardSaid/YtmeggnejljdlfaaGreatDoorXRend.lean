import Derived.Test.YtmeggnejljdlfaaGreatDoorZVal
set_option linter.defProp false
set_option linter.unusedVariables false
set_option linter.unusedSimpArgs false
open Go.IntKind (i64)
namespace Go.Proofs.YtmeggnejljdlfaaGreatDoor
open Go Go.Vm
open Int (reduceLE reduceLT reduceSub reduceAdd)
def mx:Int->List Int->Int
 |a,[]=>a
 |a,x::l=>mx (bif decide (a<x) then x else a) l
def ajz(B:Int):∀(l:List Int) (a:Int),a<=B->(∀x,x∈l->x<=B)->a<=mx a l/\mx a l<=B
 |[],a,h,_=>⟨Int.le_refl _,h⟩
 |x::l,a,h,hl=>by
  have hx:=hl x zmf;rw[mx]
  by_cases c:a<x
  ·rw[zdt c,aK];have:=ajz B l x hx λy hy=>hl y (zmm _ hy)
   omega
  ·rw[rH c,bg];exact ajz B l a h λy hy=>hl y (zmm _ hy)
def aoo:∀(l:List Int) (a x:Int),mx a (l++[x])=(bif decide (mx a l<x) then x else mx a l)
 |[],a,x=>rfl
 |y::l,a,x=>by rw[VE,mx,mx,aoo l]
def aA0:∀(l:List Int) (a:Int),mx (1+a) (l.map λd=>1+d)=1+mx a l
 |[],a=>rfl
 |x::l,a=>by
  rw[PO,mx,mx,<-aA0 l]
  by_cases c:a<x
  ·rw[zdt c,aK,zdt ak,aK]
  ·rw[rH c,bg,rH ak,bg]
def dep(l:List Nd):Nat->Nat->Int
 |0,_=>0
 |f+1,i=>mx 0 ((ajy l i).map λk=>dep l f k.toNat)+1
def aeU(l:List Nd):∀f i,0<=dep l f i/\dep l f i<=f
 |0,i=>by simp[dep]
 |f+1,i=>by have:=ajz (f:Int) ((ajy l i).map λk=>dep l f k.toNat) 0 ak (λx hx=>by obtain⟨k,_,rfl⟩:=List.mem_map.1 hx;exact(aeU l f k.toNat).2);rw[dep];omega
section
variable {l:List Nd} {r:List Int} {o:Bool}
def ara(h:Val l r):∀(f f' i:Nat),i<f->i<f'->i<l.length->dep l f i=dep l f' i
 |0,_,i,h1,_,_=>absurd h1 (Nat.not_lt_zero _)
 |f+1,0,i,_,h2,_=>absurd h2 (Nat.not_lt_zero _)
 |f+1,f'+1,i,h1,h2,h3=>by
  obtain⟨n,hn⟩:∃n,l[i]? =some n:=⟨l[i],by simp⟩
  rw[dep,dep,SX hn];congr 2;refine List.map_congr_left λk hk=> ?_
  have hkr:=h.kids hn k hk;exact ara h f f' k.toNat ak ak ak
def ajA(l:List Nd)(i:Nat):List Int:=(List.range i).map λj=>dep l (j+1) j
def aA1(l:List Nd)(i:Nat):(ajA l i).length=i:=by simp[ajA]
def arb(l:List Nd){i j:Nat}(h:j<i):(ajA l i)[j]? =some (dep l (j+1) j):=by simp[ajA,List.getElem?_range h]
def awx(l:List Nd)(i:Nat):ajA l (i+1)=ajA l i++[dep l (i+1) i]:=by simp[ajA,List.range_succ]
def ard(h:Val l r){i:Nat}{n:Nd}(hn:l[i]? =some n)(hk:n.kids.length<=1048576):M.Iu (aZ o l) (i:Int) (encI (ajA l i)) (1,0)=some (dep l (i+1) i,(n.kids.length:Int)):=by
 have hil:=(PN.1 hn).1;have hle:=h.le;have hdk:∀k,k∈n.kids->dep l i k.toNat=dep l (k.toNat+1) k.toNat:=λk hkm=>by have:=h.kids hn k hkm;exact ara h _ _ _ ak ak ak
 have hval:∀(j:Nat),(1:Int)+mx 0 ((n.kids.take j).map λk=>dep l i k.toNat)=mx 1 ((n.kids.take j).map λk=>1+dep l i k.toNat):=λj=>by have:=aA0 ((n.kids.take j).map λk=>dep l i k.toNat) 0;rw[List.map_map] at this;exact this.symm
 have hloop:=ji (b:=M.Jv (aZ o l) (i:Int) (encI (ajA l i))) (t:=(dep l (i+1) i,(n.kids.length:Int))) (λj=>(mx 1 ((n.kids.take j).map λk=>1+dep l i k.toNat),(j:Int))) n.kids.length
  (by
   intro j hj;obtain⟨k,hkj⟩:∃k,n.kids[j]? =some k:=⟨n.kids[j],by simp⟩
   have hkm:=AU hkj;have hkr:=h.kids hn k hkm;obtain⟨q,hq⟩:∃q:Nat,k=q:=⟨k.toNat,ak⟩
   have hd:=hdk k hkm;have hr:=aeU l (q+1) q;subst hq;rw[VO] at hd;simp only[M.Jv,M.CY,bC,kZ,hn,Oa,ah,JM,bf,nI,hkj,NV,VO,arb l (show q<i by omega)];rw[zdt ak,aK,aB (n:=(j:Int)+1) ak ak,aB (n:=1+dep l (q+1) q) ak ak,List.take_add_one,hkj,Option.toList_some,List.map_append,PO,List.map_nil,aoo,VO,hd];rfl)
  (by simp only[M.Jv,M.CY,bC,kZ,hn,Oa,ah,JM,bf];rw[rH ak,bg,<-hval,List.take_length,dep,SX hn,Int.add_comm]) 0 (Nat.zero_le _)
 rw[M.Iu];exact hloop
def depth(l:List Nd):Int:=if J4 l then dep l l.length (l.length - 1) else 0
def agZ(l:List Nd)(o:Bool)(hl:l.length<=1048576)(hk:∀n,n∈l->n.kids.length<=1048576):M.BP (aZ o l)=some (depth l):=by
 simp only[M.BP,M.QN,Zi l o hl hk,ah,fO,depth];cases hs:J4 l with
 |false=>rfl
 |true=>
  obtain⟨r,h⟩:=aeT hs;have h1:=h.pos;have h2:=h.le;have hloop:=ji (b:=M.Jw (aZ o l)) (t:=((l.length:Int),encI (ajA l l.length))) (λi=>((i:Int),encI (ajA l i))) l.length
   (by
    intro i hi;obtain⟨n,hn⟩:∃n,l[i]? =some n:=⟨l[i],by simp⟩
    have hin:=ard (o:=o) h hn (hk n (AU hn));simp only[jU,M.Jw,M.CZ,fO,hin,ah,bf,aA1,JU];rw[zdt ak,aK,aS ak,aK,aS ak,aK,aB ak ak,awx];simp[encI])
   (by simp only[jU,M.Jw,M.CZ,fO];rw[rH ak,bg]) 0 (Nat.zero_le _)
  have xY:M.OJ (aZ o l) (0,[])=_:=hloop;rw[zaN,bg,xY,ah,aB ak ak,show(l.length:Int) - 1=((l.length - 1:Nat):Int) by omega,if_pos rfl];simp only[bC,VO,nI,arb l (show l.length - 1<l.length by omega),Oa,ah,NV];rw[show l.length - 1+1=l.length by omega]
def abj(l:List Nd)(i:Nat):Nd:=match l[i]? with|some n=>n|none=>⟨0,0,[],[],[]⟩
def ajB(n:Nd)(rows:au):Row:=[.int .i64 n.kind,.int .i64 n.op,.str n.text,.str n.other,.sl true 5 rows]
def JJ(l:List Nd):Nat->Nat->au
 |0,_=>[]
 |f+1,i=>(ajy l i).map λk=>ajB (abj l k.toNat) (JJ l f k.toNat)
def amF(h:Val l r)(hk:∀n,n∈l->n.kids.length<=400):∀(f i:Nat) (n:Nd),i<f->l[i]? =some n->M.kG f (aZ o l) (i:Int)=some (n.kind,n.op,n.text,n.other,JJ l f i)
 |0,i,n,hf,_=>absurd hf (Nat.not_lt_zero _)
 |f+1,i,n,hf,hn=>by
  have hkn:=hk n (AU hn);have hil:=(PN.1 hn).1;have hkl:=h.kids hn;simp only[jU,M.kG,M.IW,bC,kZ,hn,Oa,ah,Nw,PU,Pz,PV,JM,bf];have hrec:∀(j:Nat) k,n.kids[j]? =some k->M.kG f (aZ o l) k=some ((abj l k.toNat).kind,(abj l k.toNat).op,(abj l k.toNat).text,(abj l k.toNat).other,JJ l f k.toNat):=by
   intro j k hj;have hkr:=hkl k (AU hj);obtain⟨q,hq⟩:∃q:Nat,k=q:=⟨k.toNat,ak⟩
   subst hq;obtain⟨m,hm⟩:∃m,l[q]? =some m:=⟨l[q]'ak,by simp⟩
   have:=amF h hk f q m ak hm;rw[this,VO,abj,hm]
  have hloop:=ji (b:=M.ng (M.kG f))
   (t:=if n.kids=[] then .inl (aZ o l,encI n.kids,(n.kids.length:Int),0,0,0,[],[],n.kind,n.op,n.text,n.other) else .inr (aZ o l,encI n.kids,(n.kids.length:Int),(n.kids.length:Int),0,0,[],[],n.kind,n.op,n.text,n.other,JJ l (f+1) i))
   (λj=>if j=0 then .inl (aZ o l,encI n.kids,(n.kids.length:Int),0,0,0,[],[],n.kind,n.op,n.text,n.other) else .inr (aZ o l,encI n.kids,(n.kids.length:Int),(j:Int),0,0,[],[],n.kind,n.op,n.text,n.other,(n.kids.take j).map λk=>ajB (abj l k.toNat) (JJ l f k.toNat))) n.kids.length
   (by
    intro j hj;obtain⟨k,hkj⟩:∃k,n.kids[j]? =some k:=⟨n.kids[j],by simp⟩
    have hr:=hrec j k hkj;have htk:(n.kids.take (j+1)).map (λk=>ajB (abj l k.toNat) (JJ l f k.toNat))=(n.kids.take j).map (λk=>ajB (abj l k.toNat) (JJ l f k.toNat))++[ajB (abj l k.toNat) (JJ l f k.toNat)]:=by rw[List.take_add_one,hkj,Option.toList_some,List.map_append];rfl
    rw[if_neg (show¬j+1=0 by omega),htk]
    by_cases h0:j=0
    ·subst h0;rw[if_pos rfl];have a7M:idx (encI n.kids) 0=some [D.int .i64 k]:=by have:=bC (encI n.kids) 0;rw[pU] at this;rw[this,nI,hkj];rfl
     simp only[jU,M.ng,M.mZ,a7M,ah,NV,hr];rw[zdt ak,aK];rfl
    ·rw[if_neg h0];simp only[jU,M.ng,M.mZ,bC,nI,hkj,Oa,ah,NV,hr,zaP,VF,JU];rw[zdt ak,aK,aS ak,aK,aS ak,aK,aB ak ak];rfl)
   (by
    by_cases h0:n.kids.length=0
    ·have he:n.kids=[]:=List.length_eq_zero_iff.1 h0;rw[if_pos h0,if_pos he];simp only[jU,M.ng,M.mZ];rw[rH ak,bg]
    ·have he:¬n.kids=[]:=λe=>h0 (by rw[e];rfl)
     rw[if_neg h0,if_neg he,List.take_length];simp only[jU,M.ng,M.mZ];rw[rH ak,bg,JJ,SX hn]) 0 (Nat.zero_le _)
  rw[if_pos rfl] at hloop;rw[M.Kv,hloop,ah]
  by_cases he:n.kids=[]
  ·rw[if_pos he,JJ,SX hn,he];rfl
  ·rw[if_neg he];rfl
def YX:∀rows:au,aG rows=rows.map qo
 |[]=>rfl
 |x::rows=>by rw[aG,YX rows,PO]
def arf(h:Val l r)(hk:∀n,n∈l->n.kids.length<=400):∀(f i:Nat) (n:Nd) (a b:Int) (c d:aA),i<f->f<=1000->l[i]? =some n->M.kQ f a b c d (aG (JJ l f i))=some (dep l f i)
 |0,i,n,a,b,c,d,hf,_,_=>absurd hf (Nat.not_lt_zero _)
 |f+1,i,n,a,b,c,d,hf,hf2,hn=>by
  have hkn:=hk n (AU hn);have hil:=(PN.1 hn).1;have hkl:=h.kids hn;have hdr:=aeU l (f+1) i;have hlen:(aG (JJ l (f+1) i)).length=n.kids.length:=by rw[YX,JJ,SX hn];simp
  simp only[M.kQ,M.CJ,hlen];have hloop:=ji (b:=M.CG (M.kQ f) (aG (JJ l (f+1) i)) (n.kids.length:Int)) (t:=(mx 0 (n.kids.map λk=>dep l f k.toNat),(n.kids.length:Int)))
   (λj=>(mx 0 ((n.kids.take j).map λk=>dep l f k.toNat),(j:Int))) n.kids.length
   (by
    intro j hj;obtain⟨k,hkj⟩:∃k,n.kids[j]? =some k:=⟨n.kids[j],by simp⟩
    have hkr:=hkl k (AU hkj);obtain⟨q,hq⟩:∃q:Nat,k=q:=⟨k.toNat,ak⟩
    subst hq;obtain⟨m,hm⟩:∃m,l[q]? =some m:=⟨l[q]'ak,by simp⟩
    have hrow:(aG (JJ l (f+1) i))[j]? =some (qo (ajB m (JJ l f q))):=by rw[YX,JJ,SX hn,List.getElem?_map,List.getElem?_map,hkj];simp only[Oa,VO,abj,hm]
    have hrec:=arf h hk f q m m.kind m.op m.text m.other ak ak hm;have k0:bM .i64 (qo (ajB m (JJ l f q))) 0=some m.kind:=rfl;have k1:bM .i64 (qo (ajB m (JJ l f q))) 1=some m.op:=rfl;have k2:cStr (qo (ajB m (JJ l f q))) 2=some m.text:=rfl;have k3:cStr (qo (ajB m (JJ l f q))) 3=some m.other:=rfl;have k4:NP 5 (qo (ajB m (JJ l f q))) 4=some (aG (JJ l f q)):=rfl;simp only[jU,M.CG,M.wW,bC,hrow,ah,k0,k1,k2,k3,k4,hrec];rw[zdt ak,aK,aB ak ak,List.take_add_one,hkj,Option.toList_some,List.map_append,PO,List.map_nil,aoo,VO];rfl)
   (by simp only[jU,M.CG,M.wW];rw[rH ak,bg,List.take_length]) 0 (Nat.zero_le _)
  have xY:M.G7 (M.kQ f) (aG (JJ l (f+1) i)) (n.kids.length:Int) (0,0)=_:=hloop;rw[xY,ah];rw[dep,SX hn] at hdr|-;rw[aB ak ak]
end
def XI{α:Type}(p:Nat->α->Bool):List α->Nat->Bool
 |[],_=>true
 |x::l,i=>p i x && XI p l (i+1)
def Yj{α:Type}(l:List α)(p:Nat->α->Bool){b:Int->Option (Int⊕(Unit⊕Int))}
  (hb:∀(i:Nat) x,l[i]? =some x->b (i:Int)=some (bif p i x then .inl ((i:Int)+1) else .inr (.inl ()))) (he:b (l.length:Int)=some (.inr (.inr (l.length:Int)))):
  dU b 0=some (bif XI p l 0 then .inr (l.length:Int) else .inl ()):=by
 have key:∀(t:List α) (i:Nat),l.drop i=t->i<=l.length->dU b (i:Int)=some (bif XI p t i then .inr (l.length:Int) else .inl ()):=by
  intro t;induction t with
  |nil=>
   intro i hd hi;have:i=l.length:=by have:=congrArg List.length hd;simp at this;omega
   subst this;exact bP he
  |cons x t ih=>
   intro i hd hi;have hx:l[i]? =some x:=by
    have:(l.drop i)[0]? =some x:=by rw[hd];rfl
    simpa using this
   have hlt:i<l.length:=(PN.1 hx).1;have hd':l.drop (i+1)=t:=by rw[<-List.drop_drop,hd];rfl
   have hs:=hb i x hx;rw[XI];cases hw:p i x with
   |true=>rw[hw,aK] at hs;rw[dN hs,show(i:Int)+1=((i+1:Nat):Int) by omega,ih (i+1) hd' hlt,Bool.true_and]
   |false=>rw[hw,bg] at hs;rw[bP hs];rfl
 exact key l 0 rfl (Nat.zero_le _)
noncomputable def fOk(n:Nd):Bool:=(M.aH n.kind n.op n.text n.other (encI n.kids)).getD false
noncomputable def kOk(n:Nd)(j:Int)(d:Int):Bool:=(M.aQ n.kind n.op n.text n.other (encI n.kids) j d).getD false
structure Small(n:Nd):Prop where
 text:n.text.length<=1048576
 other:n.other.length<=1048576
def ajC{n:Nd}(hs:Small n)(hk:n.kids.length<=400):M.aH n.kind n.op n.text n.other (encI n.kids)=some (fOk n)/\M.iZ n.kind n.op n.text n.other (encI n.kids)=some (fOk n):=by obtain⟨b,h1,h2⟩:=aq6 n.kind n.op n.text n.other (encI n.kids) hs.text hs.other (by rw[bf];exact hk);rw[fOk,h1];exact⟨rfl,h2⟩
def atr{n:Nd}(hs:Small n)(hk:n.kids.length<=400)(hf:fOk n=true)(j:Nat)(hj:j<n.kids.length)(d:Int):
  M.aQ n.kind n.op n.text n.other (encI n.kids) (j:Int) d=some (kOk n j d)/\M.bF n.kind n.op n.text n.other (encI n.kids) (j:Int) d=some (kOk n j d):=by
 have hc:=aon (k:=n.kind) (op:=n.op) (t:=n.text) (o:=n.other) (kids:=encI n.kids) (by rw[(ajC hs hk).1,hf]);obtain⟨b,h1,h2⟩:=aKr n.kind n.op n.text n.other (encI n.kids) (j:Int) d ak (by rw[bf];omega) (by rw[bf];exact hk) hc;rw[kOk,h1];exact⟨rfl,h2⟩
def auU:∀(l:List Int),(∀x,x∈l->1<=x)->(l.length:Int)<=aaq l
 |[],_=>by simp[aaq]
 |x::l,h=>by
  have:=auU l λy hy=>h y (zmm _ hy)
  have:=h x zmf;simp only[mQ,aaq];omega
section
variable {l:List Nd} {r:List Int} {o:Bool}
def Val.adP(h:Val l r){i:Nat}{n:Nd}(hn:l[i]? =some n):n.kids.length<=400:=by have hil:=(PN.1 hn).1;have h1:=h.sum hn;have h2:=auU (n.kids.map (sz r)) (λx hx=>by obtain⟨k,hk,rfl⟩:=List.mem_map.1 hx;exact(h.aAZ (h.kids hn k hk).1).1);rw[zaP] at h2;have h3:=(h.aAZ (k:=(i:Int)) ak).2;have:=h.le;omega
def Val.aar(h:Val l r):∀n,n∈l->n.kids.length<=400:=λn hn=>by obtain⟨i,hi⟩:=List.mem_iff_getElem?.1 hn;exact h.adP hi
noncomputable def kp(l:List Nd)(n:Nd)(j:Nat)(k:Int):Bool:=kOk n j (abj l k.toNat).kind
def ajD(h:Val l r)(hsm:∀n,n∈l->Small n){i:Nat}{n:Nd}(hn:l[i]? =some n)(hf:fOk n=true)(v10:au)(v11 v12:Int):
  M.KC (aZ o l) (i:Int) 0=some (bif XI (kp l n) n.kids 0 then .inr (n.kids.length:Int) else .inl ())/\
  M.Kw (aZ o l) v10 v11 v12 (encI n.kids) (n.kids.length:Int) n.kind n.op n.text n.other (encI n.kids) 0=some (bif XI (kp l n) n.kids 0 then .inr (n.kids.length:Int) else .inl ()):=by
 have hkl:=h.adP hn;have hs:=hsm n (AU hn);have step:∀(j:Nat) k,n.kids[j]? =some k->∃(q:Nat) (m:Nd),k=(q:Int)/\l[q]? =some m/\(abj l k.toNat).kind=m.kind:=by
  intro j k hj;have hkr:=h.kids hn k (AU hj);have hil:=(PN.1 hn).1;obtain⟨q,hq⟩:∃q:Nat,k=q:=⟨k.toNat,ak⟩
  obtain⟨m,hm⟩:∃m,l[q]? =some m:=⟨l[q]'ak,by simp⟩
  refine⟨q,m,hq,hm, ?_⟩;rw[hq,VO,abj,hm]
 constructor
 ·rw[M.KC];refine Yj n.kids (kp l n) (λj k hj=> ?_) ?_
  ·obtain⟨q,m,hq,hm,he⟩:=step j k hj;have hjl:=(PN.1 hj).1;have hok:=(atr hs hkl hf j hjl m.kind).1;rw[kp,he];subst hq;simp only[jU,M.SN,M.FB,bC,kZ,hn,hm,Oa,ah,Nw,PU,Pz,PV,JM,bf,nI,hj,NV,hok];rw[zdt ak,aK,aB ak ak];cases kOk n j m.kind<;>rfl
  ·simp only[jU,M.SN,M.FB,bC,kZ,hn,Oa,ah,JM,bf];rw[rH ak,bg]
 ·rw[M.Kw];refine Yj n.kids (kp l n) (λj k hj=> ?_) ?_
  ·obtain⟨q,m,hq,hm,he⟩:=step j k hj;have hjl:=(PN.1 hj).1;have hok:=(atr hs hkl hf j hjl m.kind).2;rw[kp,he];subst hq;simp only[M.SK,M.E9,bC,kZ,hm,Oa,ah,Nw,nI,hj,NV,hok];rw[zdt ak,aK,aB ak ak];cases kOk n j m.kind<;>rfl
  ·simp only[M.SK,M.E9];rw[rH ak,bg]
noncomputable def np(l:List Nd)(_:Nat)(n:Nd):Bool:=fOk n && XI (kp l n) n.kids 0
def afY(h:Val l r)(hsm:∀n,n∈l->Small n):
  M.KD (aZ o l) 0=some (bif XI (np l) l 0 then .inr (l.length:Int) else .inl ())/\
  M.Ky (aZ o l) (aZ o l) (l.length:Int) 0=some (bif XI (np l) l 0 then .inr (l.length:Int) else .inl ()):=by
 have hle:=h.le;constructor
 ·rw[M.KD];refine Yj l (np l) (λi n hi=> ?_) ?_
  ·have hil:=(PN.1 hi).1;have hf:=(ajC (hsm n (AU hi)) (h.adP hi)).1;simp only[jU,M.SQ,M.FC,fO,bC,kZ,hi,Oa,ah,Nw,PU,Pz,PV,JM,hf,np];rw[zdt ak,aK,aB ak ak];cases hff:fOk n with
   |false=>rfl
   |true=>have:=(ajD (o:=o) h hsm hi hff [] 0 0).1;rw[zaN,bg,this,ah];cases XI (kp l n) n.kids 0<;>rfl
  ·simp only[jU,M.SQ,M.FC,fO];rw[rH ak,bg]
 ·rw[M.Ky];refine Yj l (np l) (λi n hi=> ?_) ?_
  ·have hil:=(PN.1 hi).1;have hf:=(ajC (hsm n (AU hi)) (h.adP hi)).2;simp only[jU,M.SL,M.Fa,bC,kZ,hi,Oa,ah,Nw,PU,Pz,PV,JM,hf,np,bf];rw[zdt ak,aK,aB ak ak];cases hff:fOk n with
   |false=>rfl
   |true=>have:=(ajD (o:=o) h hsm hi hff (aZ o l) (l.length:Int) (i:Int)).2;rw[zaN,bg,this,ah];cases XI (kp l n) n.kids 0<;>rfl
  ·simp only[jU,M.SL,M.Fa];rw[rH ak,bg]
end
noncomputable def PE(l:List Nd):Bool:=J4 l &&(decide (depth l<=40) && XI (np l) l 0)
section
variable (l:List Nd) (o:Bool) (hl:l.length<=1048576) (hk:∀n,n∈l->n.kids.length<=1048576) (hsm:∀n,n∈l->Small n)
include hl hk hsm
theorem ajE:M.GK (aZ o l)=some (PE l):=by
 simp only[M.GK,M.Uf,Zi l o hl hk,agZ l o hl hk,ah,PE];cases hs:J4 l with
 |false=>rfl
 |true=>
  obtain⟨r,h⟩:=aeT hs;rw[zaN,bg,(afY (o:=o) h hsm).1,ah,Bool.true_and]
  by_cases hd:depth l<=40
  ·rw[rH (show¬depth l>40 by omega),bg,zdt hd,Bool.true_and];cases XI (np l) l 0<;>rfl
  ·rw[zdt (show depth l>40 by omega),aK,rH hd];rfl
theorem ajF:M.Gv (aZ o l)=some (PE l):=by
 simp only[M.Gv,M.TP,agY l o hl hk,ah,PE,fO];cases hs:J4 l with
 |false=>rfl
 |true=>
  obtain⟨r,h⟩:=aeT hs;have h1:=h.pos;have h2:=h.le;obtain⟨n,hn⟩:∃n,l[l.length - 1]? =some n:=⟨l[l.length - 1]'ak,by simp⟩
  have ht:=amF (o:=o) h h.aar l.length (l.length - 1) n ak hn;have hd:=arf h h.aar l.length (l.length - 1) n n.kind n.op n.text n.other ak ak hn;rw[zaN,bg,(afY (o:=o) h hsm).2,ah,Bool.true_and];simp only[M.wM,M.NW,fO];rw[aB ak ak,show(l.length:Int) - 1=((l.length - 1:Nat):Int) by omega,M.Z8 ht,ah,ah];simp only;rw[M.acy hd,ah,depth,if_pos hs];cases XI (np l) l 0<;>simp[rO,letE]
end
@[simp] theorem aLs(l:List Int):NS (encI l)=true:=by
 induction l with
 |nil=>rfl
 |cons x l ih=>simp only[encI,PO] at ih|-;simp[NS,bn,D.pure,ih]
@[simp] theorem aLt(l:List Int):[[D.sl true 1 (encI l)]].all bn=true:=by simp[bn,D.pure]
def VA(o:Bool)(a b:List Nd):aZ o (a++b)=aZ o a++aZ o b:=by simp[aZ]
def aKs(w:Bool):∀t:Tn,t.row w=[.int .i64 t.kind,.int .i64 t.op,.str t.text,.str t.other,.sl w 5 (fE w t.kids)]
 | .mk k o x y ks=>rfl
def aop(w:Bool)(a b:List Tn):fE w (a++b)=fE w a++fE w b:=by simp[X9]
def gY(w:Bool)(a:List Tn):(fE w a).length=a.length:=by simp[X9]
def fV{α:Type}{l:List α}{j:Nat}{t:α}(h:l[j]? =some t):l.take (j+1)=l.take j++[t]:=by rw[List.take_add_one,h];rfl
def arh{α:Type}{l:List α}{j:Nat}{t:α}(h:l[j]? =some t):l=l.take j++t::l.drop (j+1):=by obtain⟨hj,rfl⟩:=PN.1 h;rw[<-List.drop_eq_getElem_cons hj,List.take_append_drop]
def KL{ks:List Tn}{j:Nat}{t:Tn}(h:ks[j]? =some t):sizes (ks.take j)+t.size<=sizes ks:=by have:=congrArg sizes (arh h);rw[jd,sizes] at this;omega
section
variable {l:List Nd} {b:Nat} {k op:Int} {x y:aA} {ks:List Tn}
def Lies.RG(h:Lies l b (.mk k op x y ks)){j:Nat}{t:Tn}(hj:ks[j]? =some t):Lies l (b+sizes (ks.take j)) t:=by have e:=arh hj;rw[e] at h;exact h.kid
def YZ{j:Nat}{t:Tn}(hj:ks[j]? =some t):(ends ks b)[j]? =some ((b+sizes (ks.take j)+sizes t.kids:Nat):Int):=by have hlt:=(PN.1 hj).1;have hs:=t.uf;rw[ax1 hlt,fV hj,jd,sizes,sizes];congr 1;omega
def Lies.root'{t:Tn}(h:Lies l b t):l[b+sizes t.kids]? =some ⟨t.kind,t.op,t.text,t.other,ends t.kids b⟩:=by cases t;exact h.root
def aeV{j:Nat}{t:Tn}(hj:ks[j]? =some t):ends (ks.take (j+1)) b=ends (ks.take j) b++[((b+sizes (ks.take j)+t.size:Nat):Int) - 1]:=by rw[fV hj,Xi,ends,ends];congr 2<;>omega
def acL{j:Nat}{t:Tn}(hj:ks[j]? =some t):jE (ks.take (j+1)) b=jE (ks.take j) b++t.flat (b+sizes (ks.take j)):=by rw[fV hj,Qj,jE,jE,List.append_nil]
def atu{w:Bool}{j:Nat}{t:Tn}(hj:ks[j]? =some t):fE w (ks.take (j+1))=fE w (ks.take j)++[t.row w]:=by rw[fV hj,aop];rfl
def ends_range:∀(ks:List Tn) (b:Nat),∀e,e∈ends ks b->(b:Int)<=e/\e<b+sizes ks
 |[],b,e,h=>by simp[ends] at h
 |t::ts,b,e,h=>by
  have hp:=t.size_pos;rw[ends] at h;have hs:(sizes (t::ts):Int)=t.size+sizes ts:=by rw[sizes];omega
  rcases List.mem_cons.1 h with rfl|h
  ·omega
  ·have:=ends_range ts _ e h;omega
end
mutual
def Yk:∀(t:Tn) (b:Nat),∀n,n∈t.flat b->n.kids.length<=t.size/\∀e,e∈n.kids->(0:Int)<=e/\e<b+t.size
 | .mk k o x y ks,b,n,h=>by
  rw[Tn.flat] at h;rw[Tn.size];rcases List.mem_append.1 h with h|h
  ·have:=ajG ks b n h;exact⟨ak,λe he=>by have:=this.2 e he;omega⟩
  ·simp only[List.mem_singleton] at h;subst h;refine⟨by simp only[eH];have:=jr ks;omega,λe he=> ?_⟩;have:=ends_range ks b e he;omega
def ajG:∀(ks:List Tn) (b:Nat),∀n,n∈jE ks b->n.kids.length<=sizes ks/\∀e,e∈n.kids->(0:Int)<=e/\e<b+sizes ks
 |[],b,n,h=>by simp[jE] at h
 |t::ts,b,n,h=>by
  rw[jE] at h;rw[sizes];rcases List.mem_append.1 h with h|h
  ·have:=Yk t b n h;exact⟨ak,λe he=>by have:=this.2 e he;omega⟩
  ·have:=ajG ts _ n h;exact⟨ak,λe he=>by have:=this.2 e he;omega⟩
end
structure Ps where
 level:Int
 nP:Bool
 tV:Bool
 tX:Bool
 lZ:Bool
 deriving DecidableEq,Inhabited
def Ps.top:Ps:=⟨1,false,false,false,false⟩
def Ps.zero:Ps:=⟨0,false,false,false,false⟩
def AV(op:Int):Int:=bif op==44 then 3 else bif op==45 then 4 else bif op==67||op==46 then 6 else
 bif op==63||(op==48||(op==47||(op==50||(op==62||op==49)))) then 7 else bif op==99 then 8 else bif op==55||op==56 then 9 else
 bif op==57||(op==58||op==59) then 10 else bif op==60 then 12 else 0
def lvl(k op:Int):Int:=bif k==15 then 1 else bif k==14 then 2 else bif k==13 then 5 else bif k==12 then AV op else bif k==11 then 11 else
 bif k==9||k==10 then 13 else bif k==6 then 14 else bif k==1||(k==2||(k==3||(k==4||(k==5||(k==7||k==8))))) then 15 else 0
def nX(p:Ps):Bool:=(decide (1<=p.level) && decide (p.level<=15)) &&(!p.nP||p.level==14)
def fits(k op:Int)(p:Ps):Bool:=bif !(nX p)||lvl k op==0 then false else bif p.tV && k==13 then false else bif p.tX &&(k==12 && op==62) then false else
 bif p.lZ &&(k==11||(k==9||k==4)) then false else(p.nP && k==9)||decide (p.level<=lvl k op)
def sides(op:Int):Int×Int:=bif AV op==3 then(3,4) else bif AV op==4 then(4,5) else bif AV op==6 then(7,7) else bif AV op==7 then(8,8) else
 bif AV op==8 then(8,9) else bif AV op==9 then(9,10) else bif AV op==10 then(10,11) else(13,11)
def Y0(k op:Int)(j:Nat):Int:=bif k==15 then(bif Nat.beq j 0 then 14 else 1) else bif k==14 then(bif Nat.beq j 0 then 3 else 2) else bif k==13 then 5 else bif k==11 then 11 else
 bif k==12 then(bif Nat.beq j 0 then(sides op).1 else(sides op).2) else 14
def dO(k op:Int)(n j:Nat)(p:Ps):Ps:=bif !(nX p)||(!(Nat.blt j n)||lvl k op==0) then .zero else bif lvl k op==15||(k==13 && Nat.blt 1 n) then .top else
 ⟨Y0 k op j,k==6,p.tV,p.tX,bif k==11||(k==9||(k==10||k==6)) then false else(Nat.beq j 0 && p.lZ)||(Nat.beq j 1 &&(k==12 && op==99))⟩
def qH(k:Int)(j:Nat):Bool:=Nat.beq j 0 &&(k==9||(k==10||k==15))
def tok(k:Int):Tk:=⟨k,spell k,0⟩
def Ja:Bool->List (List Tk)->List Tk
 |_,[]=>[]
 |b,x::l=>(bif b then x else tok 36::x)++Ja false l
def Dv{α:Type}(L:List (List α))(j:Nat):List α:=(L[j]?).getD []
def JO(k op:Int)(n:Nat)(x:aA)(L:List (List Tk)):List Tk:=
 bif k==1 then[⟨6,x,0⟩] else bif k==2 then[⟨3,x,0⟩] else bif k==3 then[⟨4,x,0⟩] else bif k==4 then[⟨5,x,0⟩] else
 bif k==5 then⟨6,x,0⟩::tok 34::(Ja true L++[tok 35]) else bif k==7 then⟨7,x,0⟩::tok 32::(Ja true L++[tok 33]) else bif k==8 then⟨8,x,0⟩::tok 32::(Ja true L++[tok 33]) else
 bif k==9||k==11 then tok op::Dv L 0 else bif k==6 then tok 68::Dv L 0 else bif k==10 then Dv L 0++[tok op] else
 bif k==13 then(bif Nat.blt 1 n then tok 32::(Ja true L++[tok 33]) else Dv L 0)++[tok 24,⟨6,x,0⟩] else
 bif k==14 then Dv L 0++(tok 65::(Dv L 1++(tok 66::Dv L 2))) else Dv L 0++((bif op==99 then[] else[tok op])++Dv L 1)
mutual
def xH:Tn->Ps->List Tk
 | .mk k op x _ ks,p=>JO k op ks.length x (jL k op ks.length p ks 0)
def jL(k op:Int)(n:Nat)(p:Ps):List Tn->Nat->List (List Tk)
 |[],_=>[]
 |t::ts,j=>(bif qH k j||fits t.kind t.op (dO k op n j p) then xH t (dO k op n j p) else tok 32::(xH t .top++[tok 33]))::jL k op n p ts (j+1)
end
def abG(t:Tn)(p:Ps):List Tk:=bif fits t.kind t.op p then xH t p else tok 32::(xH t .top++[tok 33])
def jC(s:aA):Tn:=.mk 1 0 s [] []
def UD:Tn:=.mk 2 0 [] [] []
def IG:Tn:=.mk 3 0 [] [] []
def WI(d:Tn):Tn:=.mk 4 4 [] [] [d]
def alo(d:Tn):Tn:=.mk 5 0 [] [] [d]
def lV(l:List Tn):Tn:=.mk 6 0 [] [] l
def RH:Bool->List Tn->List Tn
 |_,[]=>[]
 |b,x::l=>(bif b then[x] else[jC [44],UD,x])++RH false l
def Yl(L:List Tn):Tn:=alo (WI (lV (RH true L)))
def oP(L:List Tn)(j:Nat):Tn:=(L[j]?).getD (jC [])
def ajH(s:aA):List (aA)->Nat->Nat
 |[],m=>m
 |g::l,m=>ajH s l (bif Nat.blt m g.length && g.isPrefixOf s then g.length else m)
def lastB(s:aA):Int:=match s.getLast? with|some c=>(c.toNat:Int)|none=> -1
def atv(s:aA):Int:=match s with|c::_=>(c.toNat:Int)|[]=> -1
def KN(a b:Tk):Bool:=
 bif a.text==[]||(b.text==[]||(a.kind==2||(a.kind==1||b.kind==1))) then false else
 bif isW (lastB a.text) && isW (atv b.text) then true else
 bif a.kind==3 &&(isW (atv b.text)||atv b.text==46) then true else
 bif a.kind==6 && b.kind==32 then true else
 bif !(decide (30<=a.kind) && decide (a.kind<=68)) then false else Nat.blt a.text.length (ajH (a.text++b.text) XH 0)
def Zu(k op:Int)(n:Nat)(x:aA)(gap:Bool)(L:List Tn):Tn:=
 bif k==1||(k==2||(k==3||k==4)) then jC x else bif k==5 then lV [jC (x++[91]),Yl L,jC [93]] else
 bif k==7||k==8 then lV [jC (x++[40]),Yl L,jC [41]] else bif k==9 then lV [jC (spell op),oP L 0] else bif k==10 then lV [oP L 0,jC (spell op)] else
 bif k==6 then lV [jC [36],oP L 0] else bif k==11 then lV [jC (bif gap then spell op++[32] else spell op),oP L 0] else
 bif k==14 then lV [oP L 0,jC [32,63,32],oP L 1,jC [32,58,32],oP L 2] else
 bif k==13 then(bif Nat.blt 1 n then lV [jC [40],Yl L,jC ([41,32,105,110,32]++x)] else lV [oP L 0,jC ([32,105,110,32]++x)]) else
 bif k==12 && op==99 then lV [oP L 0,jC [32],oP L 1] else
 bif k==12 &&(op==45||op==44) then alo (WI (lV [oP L 0,jC (32::spell op),UD,oP L 1])) else
 lV [oP L 0,jC ((32::spell op)++[32]),oP L 1]
def amG(op:Int)(L:List (List Tk)):Bool:=match L with
 |(b::_)::_=>KN (tok op) b
 |_=>false
mutual
def oV:Tn->Ps->Tn
 | .mk k op x _ ks,p=>Zu k op ks.length x (amG op (jL k op ks.length p ks 0)) (pG k op ks.length p ks 0)
def pG(k op:Int)(n:Nat)(p:Ps):List Tn->Nat->List Tn
 |[],_=>[]
 |t::ts,j=>(bif qH k j||fits t.kind t.op (dO k op n j p) then oV t (dO k op n j p) else lV [jC [40],oV t .top,jC [41]])::pG k op n p ts (j+1)
end
def vH(t:Tn)(p:Ps):Tn:=bif fits t.kind t.op p then oV t p else lV [jC [40],oV t .top,jC [41]]
def Dw(t:Tn):Tn:=vH t .top
def RI(t:Tn):Tn:=bif t.kind==16 then jC [] else lV [jC [32],Dw t]
def AX:List Tn->List Tn
 |[]=>[]
 |d::l=>IG::d::AX l
def ajI(L:List Tn):Tn:=lV [jC [123],WI (lV (AX L)),IG,jC [125]]
def qm(L:List Tn)(j:Nat):Tn:=(L[j]?).getD (.mk 0 0 [] [] [])
def KO(p:Ps)(L:List Tn):Tn:=Yl (L.map λt=>vH t p)
def ajJ(op:Int)(y:aA)(ks:List Tn):Tn:=
 let args:=bif y==[] then ks else ks.take (ks.length - 1)
 lV ([jC (bif op==0 then[112,114,105,110,116] else[112,114,105,110,116,102])]++
  ((bif Nat.blt 0 args.length then[jC [32],KO ⟨1,false,false,true,false⟩ args] else[])++
   (bif y==[] then[] else[jC (([32]++y)++[32]),(vH (qm ks (ks.length - 1))) ⟨9,false,false,false,false⟩])))
def aas(w:aA)(ks:List Tn):Tn:=match ks with
 |[]=>jC w
 |t::_=>lV [jC w,RI t]
def ag0(k op:Int)(x y:aA)(ks L:List Tn):Tn:=
 bif k==20 then Dw (qm ks 0) else bif k==21 then ajJ op y ks else bif k==22 then jC [110,101,120,116] else bif k==25 then jC [98,114,101,97,107] else bif k==26 then jC [99,111,110,116,105,110,117,101] else
 bif k==23 then aas [101,120,105,116] ks else bif k==24 then aas [114,101,116,117,114,110] ks else
 bif k==27 then(match ks with
  |[]=>jC ([100,101,108,101,116,101,32]++x)
  |_::_=>lV [jC (([100,101,108,101,116,101,32]++x)++[91]),KO .top ks,jC [93]]) else
 bif k==28 then(let d:=lV [jC [105,102,32,40],Dw (qm ks 0),jC [41,32],oP L 1];bif Nat.blt 2 ks.length then lV [d,jC [32,101,108,115,101,32],oP L 2] else d) else
 bif k==29 then lV [jC [119,104,105,108,101,32,40],Dw (qm ks 0),jC [41,32],oP L 1] else
 bif k==30 then lV [jC [100,111,32],oP L 0,jC [32,119,104,105,108,101,32,40],Dw (qm ks 1),jC [41]] else
 bif k==31 then lV [jC [102,111,114,32,40],(bif(qm ks 0).kind==16 then jC [] else(vH (qm ks 0)) ⟨1,false,true,false,false⟩),jC [59],RI (qm ks 1),jC [59],RI (qm ks 2),jC [41,32],oP L 3] else
 bif k==32 then lV [jC (((([102,111,114,32,40]++x)++[32,105,110,32])++y)++[41,32]),oP L 0] else
 bif k==33 then ajI L else jC x
mutual
def gZ:Tn->Tn
 | .mk k op x y ks=>ag0 k op x y ks (lW ks)
def lW:List Tn->List Tn
 |[]=>[]
 |t::ts=>(gZ t)::lW ts
end
def yE:List Tn->Bool->List Tn
 |[],_=>[]
 |t::ts,b=>(bif t.kind==33 then(bif b then[(gZ t)] else[jC [32],(gZ t)]) else(bif b then[Dw t] else[jC [44,32],Dw t]))++yE ts false
def KP:List (aA)->Bool->aA
 |[],_=>[]
 |x::l,b=>(bif b then x else[44,32]++x)++KP l false
def Zj(x:aA)(ks:List Tn):aA:=(([102,117,110,99,116,105,111,110,32]++x)++[40])++(KP ((ks.take (ks.length - 1)).map Tn.text) true++[41])
def itemD(t:Tn):Tn:=
 bif t.kind==40 then lV [jC [66,69,71,73,78,32],(gZ (qm t.kids 0))] else bif t.kind==41 then lV [jC [69,78,68,32],(gZ (qm t.kids 0))] else
 bif t.kind==42||t.kind==43 then lV (yE t.kids true) else bif t.kind==44 then lV [jC (Zj t.text t.kids++[32]),(gZ (qm t.kids (t.kids.length - 1)))] else(gZ t)
def tY:List Tn->List Tn
 |[]=>[]
 |t::ts=>(itemD t)::IG::tY ts
def xu(t:Tn):Tn:=lV (tY t.kids)
structure Cnt(k op:Int)(y:aA)(n:Nat):Prop where
 one:k=6\/k=9\/k=10\/k=11\/k=20\/k=32\/k=40\/k=41->n=1
 two:k=12\/k=15\/k=29\/k=30->n=2
 some_:k=5\/k=13\/k=44->1<=n
 three:k=14->n=3
 four:k=31->n=4
 cnd:k=28->n=2\/n=3
 prn:k=21->(op=0\/op=1)/\(y≠[]->1<=n)
 wrd:k=23\/k=24->n<=1
 non:k=1\/k=2\/k=3\/k=4\/k=16\/k=22\/k=25\/k=26\/k=34->n=0
 rule:k=42->(op=1/\n=1)\/(op=2/\n=1)\/(op=3/\n=2)
 range:k=43->(op=1/\n=2)\/(op=3/\n=3)
 few:k≠33->k≠45->n<=7
 bin:k=12->AV op≠0/\op≠61
 asg:k=15->op=54\/(38<=op/\op<=43)
 stp:k=9\/k=10->op=51\/op=52
 una:k=11->op=55\/op=56\/op=61
def cls(k op:Int)(n j:Nat):Nat:=
 if k=9\/k=10\/(k=15/\j=0) then 6 else if k=28\/k=29 then(if j=0 then 0 else 1) else if k=30 then(if j=0 then 1 else 0) else
 if k=31 then(if j<3 then 3 else 1) else if k=32\/k=40\/k=41 then 1 else if k=33 then 2 else if k=42 then(if op=2\/(op=3/\j+1=n) then 1 else 0) else
 if k=43 then(if j=2 then 1 else 0) else if k=44 then(if j+1=n then 1 else 4) else if k=45 then 5 else 0
def Dx(c:Nat)(d:Int):Prop:=match c with
 |0=>1<=d/\d<=15
 |1=>d=33
 |2=>20<=d/\d<=34
 |3=>d=16\/(1<=d/\d<=15)
 |4=>d=1
 |5=>(40<=d/\d<=44)\/d=34
 |_=>d=1\/d=5\/d=6
def aeW(k:Int):Prop:=(1<=k/\k<=16)\/(20<=k/\k<=34)\/(40<=k/\k<=45)
mutual
def BA:Tn->Prop
 | .mk k op x y ks=>aeW k/\Cnt k op y ks.length/\oks k op ks.length ks 0
def oks(k op:Int)(n:Nat):List Tn->Nat->Prop
 |[],_=>True
 |t::ts,j=>Dx (cls k op n j) t.kind/\(BA t)/\oks k op n ts (j+1)
end
def auV{k op:Int}{n:Nat}:∀{ks:List Tn} {j i:Nat} {t:Tn},oks k op n ks j->ks[i]? =some t->Dx (cls k op n (j+i)) t.kind/\(BA t)
 |[],_,i,_,_,h=>by simp at h
 |u::ts,j,0,t,h,e=>by rw[oks] at h;cases e;exact⟨h.1,h.2.1⟩
 |u::ts,j,i+1,t,h,e=>by rw[oks] at h;rw[List.getElem?_cons_succ] at e;have:=auV h.2.2 e;rw[show j+1+i=j+(i+1) by omega] at this;exact this
def Ej{k op:Int}{x y:aA}{ks:List Tn}(h:(BA (Tn.mk k op x y ks))){i:Nat}{t:Tn}(e:ks[i]? =some t):Dx (cls k op ks.length i) t.kind/\(BA t):=by
 rw[BA] at h;have:=auV h.2.2 e
 rwa [Nat.zero_add] at this
def NI{k op:Int}{x y:aA}{ks:List Tn}(h:(BA (Tn.mk k op x y ks))):Cnt k op y ks.length:=by rw[BA] at h;exact h.2.1
def WJ(t:Tn):Prop:=1<=t.kind/\t.kind<=15
def abH{k op:Int}{x y:aA}{ks:List Tn}(h:(BA (Tn.mk k op x y ks)))(he:1<=k/\k<=15){i:Nat}{t:Tn}(e:ks[i]? =some t):(WJ t)/\(BA t):=by
 obtain⟨h1,h2⟩:=Ej h e;refine⟨?_,h2⟩;unfold WJ;have:cls k op ks.length i=6\/cls k op ks.length i=0:=by
  unfold cls;split
  ·exact .inl rfl
  ·repeat(rw[if_neg ak])
   exact .inr rfl
 rcases this with h|h<;>rw[h] at h1<;>simp only[Dx] at h1<;>omega
def NJ{a b lo hi:Int}(c:Bool)(ha:lo<=a/\a<=hi)(hb:lo<=b/\b<=hi):lo<=(bif c then a else b)/\(bif c then a else b)<=hi:=by cases c<;>assumption
def ajK(op:Int):0<=AV op/\AV op<=12:=by unfold AV;exact NJ _ ⟨by decide,by decide⟩ (NJ _ ⟨by decide,by decide⟩ (NJ _ ⟨by decide,by decide⟩ (NJ _ ⟨by decide,by decide⟩ (NJ _ ⟨by decide,by decide⟩ (NJ _ ⟨by decide,by decide⟩ (NJ _ ⟨by decide,by decide⟩ (NJ _ ⟨by decide,by decide⟩ ⟨by decide,by decide⟩)))))))
def Xr{k op:Int}{y:aA}{n:Nat}(he:1<=k/\k<=15)(hc:Cnt k op y n):1<=lvl k op/\lvl k op<=15:=by
 obtain⟨h1,h2⟩:=he;have hk:k=1\/k=2\/k=3\/k=4\/k=5\/k=6\/k=7\/k=8\/k=9\/k=10\/k=11\/k=13\/k=14\/k=15\/k=12:=ak;rcases hk with rfl|rfl|rfl|rfl|rfl|rfl|rfl|rfl|rfl|rfl|rfl|rfl|rfl|rfl|rfl
 case inr.inr.inr.inr.inr.inr.inr.inr.inr.inr.inr.inr.inr.inr=>have hb:=(hc.bin rfl).1;have:=ajK op;change 1<=AV op/\AV op<=15;omega
 all_goals simp[lvl]
def iC(s:aA):(jC s).size=1:=by simp[jC,Tn.size,sizes]
def aat:UD.size=1:=by simp[UD,Tn.size,sizes]
def adQ:IG.size=1:=by simp[IG,Tn.size,sizes]
def Ym(d:Tn):(WI d).size=d.size+1:=by simp[WI,Tn.size,sizes]
def auW(d:Tn):(alo d).size=d.size+1:=by simp[alo,Tn.size,sizes]
def ql(l:List Tn):(lV l).size=sizes l+1:=by simp[lV,Tn.size]
def aeX:∀(L:List Tn) (b:Bool),sizes (RH b L)<=sizes L+2 * L.length
 |[],b=>by rw[RH];simp[sizes]
 |x::l,b=>by have:=aeX l false;cases b<;>simp only[RH,aK,bg,jd,sizes,iC,aat,mQ]<;>omega
def ajL(L:List Tn):(Yl L).size<=sizes L+2 * L.length+3:=by have:=aeX L true;rw[Yl,auW,Ym,ql];omega
def amH:∀(L:List Tn) (j:Nat),(oP L j).size<=sizes L+1
 |[],j=>by simp[oP,sizes,iC]
 |x::l,0=>by simp only[oP,List.getElem?_cons_zero,Option.getD_some,sizes];omega
 |x::l,j+1=>by have:=amH l j;simp only[oP,List.getElem?_cons_succ,sizes] at this|-;omega
def atw:∀(L:List Tn),(oP L 0).size+((oP L 1).size+(oP L 2).size)<=sizes L+3
 |[]=>by simp[oP,sizes,iC]
 |[x]=>by simp[oP,sizes,iC]
 |[x,y]=>by simp[oP,sizes,iC];omega
 |x::y::z::l=>by simp[oP,sizes];omega
def Dy{a b:Tn}{N:Nat}(c:Bool)(ha:a.size<=N)(hb:b.size<=N):(bif c then a else b).size<=N:=by cases c<;>assumption
def awy(k op:Int)(n:Nat)(x:aA)(g:Bool)(L:List Tn):(Zu k op n x g L).size<=sizes L+2 * L.length+9:=by
 have h1:=ajL L;have h2:=amH L 0;have h3:=atw L;unfold Zu;refine Dy _ ?_ (Dy _ ?_ (Dy _ ?_ (Dy _ ?_ (Dy _ ?_ (Dy _ ?_ (Dy _ ?_ (Dy _ ?_ (Dy _ (Dy _ ?_ ?_) (Dy _ ?_ (Dy _ ?_ ?_))))))))))
 all_goals(simp only[iC,ql,auW,Ym,aat,sizes]<;>omega)
def adR(k op:Int)(n:Nat)(p:Ps):∀(ts:List Tn) (j:Nat),(pG k op n p ts j).length=ts.length
 |[],j=>by simp[pG]
 |t::ts,j=>by rw[pG,mQ,adR k op n p ts (j+1),mQ]
def RJ(k op:Int)(n:Nat)(p:Ps)(j:Nat)(u:Tn):Tn:=bif qH k j||fits u.kind u.op (dO k op n j p) then oV u (dO k op n j p) else lV [jC [40],oV u .top,jC [41]]
def ajM(a:Tn):(lV [jC [40],a,jC [41]]).size=a.size+3:=by simp only[ql,iC,sizes];omega
def amI{k op:Int}{n:Nat}{p:Ps}{j:Nat}{u:Tn}(h:∀q,(oV u q).size+6<=16 * u.size):(RJ k op n p j u).size+3<=16 * u.size:=by
 unfold RJ;cases(qH k j||fits u.kind u.op (dO k op n j p)) with
 |true=>have:=h (dO k op n j p);rw[aK];omega
 |false=>have:=h .top;rw[bg,ajM];omega
def ajN{k op:Int}{n:Nat}{p:Ps}:∀{ts:List Tn} {j:Nat},(∀u,u∈ts->∀q,(oV u q).size+6<=16 * u.size)->sizes (pG k op n p ts j)+3 * ts.length<=16 * sizes ts
 |[],j,_=>by rw[pG];simp[sizes]
 |t::ts,j,h=>by
  have h1:=amI (k:=k) (op:=op) (n:=n) (p:=p) (j:=j) (h t zmf);have h2:=ajN (k:=k) (op:=op) (n:=n) (p:=p) (ts:=ts) (j:=j+1) λu hu=>h u (zmm _ hu)
  unfold RJ at h1;rw[pG,sizes,sizes,mQ];omega
def PG(t:Tn):∀q,(oV t q).size+6<=16 * t.size:=by refine Tn.ind (P:=λt=>∀q,(oV t q).size+6<=16 * t.size) ?_ t;intro k op x y ks ih q;have h1:=awy k op ks.length x (amG op (jL k op ks.length q ks 0)) (pG k op ks.length q ks 0);have h2:=ajN (k:=k) (op:=op) (n:=ks.length) (p:=q) (ts:=ks) (j:=0) ih;rw[adR] at h1;rw[oV,Tn.size];omega
def og(t:Tn)(q:Ps):(vH t q).size+3<=16 * t.size:=by
 have h1:=PG t q;have h2:=PG t .top;unfold vH;cases fits t.kind t.op q with
 |true=>rw[aK];omega
 |false=>rw[bg,ajM];omega
def aeY:∀(L:List Tn) (j:Nat),(qm L j).size<=sizes L+1
 |[],j=>by simp[qm,sizes,Tn.size]
 |x::l,0=>by simp[qm,sizes];omega
 |x::l,j+1=>by have:=aeY l j;simp only[qm,List.getElem?_cons_succ,sizes] at this|-;omega
def VL(t:Tn):(RI t).size<=16 * t.size:=by
 have h:=og t .top;have hp:=t.size_pos;unfold RI Dw;refine Dy _ ?_ ?_
 ·rw[iC];omega
 ·rw[ql];simp only[sizes,iC];omega
def PI(p:Ps)(L:List Tn):(KO p L).size<=16 * sizes L+3:=by
 have h:∀L:List Tn,sizes (L.map λt=>vH t p)+3 * L.length<=16 * sizes L:=by
  intro L;induction L with
  |nil=>simp[sizes]
  |cons t l ih=>have:=og t p;simp only[PO,sizes,mQ];omega
 have h1:=ajL (L.map λt=>vH t p);have h2:=h L;rw[zaP] at h1;unfold KO;omega
def aau:∀L:List Tn,sizes (AX L)=sizes L+L.length
 |[]=>rfl
 |d::l=>by have:=aau l;simp only[AX,sizes,adQ,mQ];omega
def awz(L:List Tn):(ajI L).size=sizes L+L.length+6:=by have:=aau L;simp only[ajI,ql,Ym,sizes,iC,adQ];omega
def take_size:∀(ks:List Tn) (n:Nat),sizes (ks.take n)<=sizes ks
 |[],n=>by simp[sizes]
 |t::ts,0=>by simp[sizes]
 |t::ts,n+1=>by have:=take_size ts n;simp only[List.take_succ_cons,sizes];omega
def isS(t:Tn):Prop:=20<=t.kind/\t.kind<=34
def acM:∀{ks:List Tn},(∀u,u∈ks->(gZ u).size+2<=40 * u.size)->sizes (lW ks)+2 * ks.length<=40 * sizes ks
 |[],_=>by simp[lW,sizes]
 |t::ts,h=>by
  have h1:=h t zmf;have h2:=acM (ks:=ts) λu hu=>h u (zmm _ hu)
  rw[lW,sizes,sizes,mQ];omega
def RN:∀ks:List Tn,(lW ks).length=ks.length
 |[]=>rfl
 |t::ts=>by rw[lW,mQ,RN ts,mQ]
def awC(op:Int)(y:aA)(ks:List Tn):(ajJ op y ks).size<=32 * sizes ks+27:=by
 have h1:=PI ⟨1,false,false,true,false⟩ (bif y==[] then ks else ks.take (ks.length - 1));have h2:sizes (bif y==[] then ks else ks.take (ks.length - 1))<=sizes ks:=by
  cases(y==[]) with
  |true=>exact zaO _
  |false=>exact take_size _ _
 have h3:=og (qm ks (ks.length - 1)) ⟨9,false,false,false,false⟩;have h4:=aeY ks (ks.length - 1);unfold ajJ;generalize (bif y==[] then ks else ks.take (ks.length - 1))=args at *;simp only[ql,jd,sizes,iC];cases Nat.blt 0 args.length<;>cases(y==[])<;>simp only[aK,bg,sizes,iC]<;>omega
def ajO(w:aA)(ks:List Tn):(aas w ks).size<=16 * sizes ks+2:=by
 cases ks with
 |nil=>simp[aas,iC]
 |cons t l=>have:=VL t;simp only[aas,ql,sizes,iC];omega
def aoq{α:Type}{l:List α}(h:l.length=4):∃a b c d,l=[a,b,c,d]:=by
 match l,h with
 |[a,b,c,d],_=>exact⟨a,b,c,d,rfl⟩
def aor{α:Type}{l:List α}(h:l.length=2):∃a b,l=[a,b]:=by
 match l,h with
 |[a,b],_=>exact⟨a,b,rfl⟩
def awD{α:Type}{l:List α}(h:l.length=3):∃a b c,l=[a,b,c]:=by
 match l,h with
 |[a,b,c],_=>exact⟨a,b,c,rfl⟩
def auX{k op:Int}{x y:aA}{ks:List Tn}(h:BA (Tn.mk k op x y ks)){i:Nat}{t:Tn}(e:ks[i]? =some t)(hc:cls k op ks.length i=1\/cls k op ks.length i=2):isS t/\BA t:=by obtain⟨h1,h2⟩:=Ej h e;refine⟨?_,h2⟩;unfold isS;rcases hc with hc|hc<;>rw[hc] at h1<;>simp only[Dx] at h1<;>omega
def Y1(t:Tn):BA t->isS t->(gZ t).size+2<=40 * t.size:=by
 refine Tn.ind (P:=λt=>BA t->isS t->(gZ t).size+2<=40 * t.size) ?_ t;intro k op x y ks ih hok hs;have hc:=NI hok;simp only[isS,Tn.kind] at hs;have ihk:∀{i:Nat} {u:Tn},ks[i]? =some u->(cls k op ks.length i=1\/cls k op ks.length i=2)->(gZ u).size+2<=40 * u.size:=by intro i u e hcl;obtain⟨h1,h2⟩:=auX hok e hcl;exact ih u (AU e) h2 h1
 rw[gZ,Tn.size];have hk:k=20\/k=21\/k=22\/k=23\/k=24\/k=25\/k=26\/k=27\/k=28\/k=29\/k=30\/k=31\/k=32\/k=33\/k=34:=ak;rcases hk with rfl|rfl|rfl|rfl|rfl|rfl|rfl|rfl|rfl|rfl|rfl|rfl|rfl|rfl|rfl<;>simp only[ag0,Int.reduceBEq,aK,bg]
 ·have h1:=og (qm ks 0) .top;have h2:=aeY ks 0;unfold Dw;omega
 ·have:=awC op y ks;omega
 ·rw[iC];omega
 ·have:=ajO [101,120,105,116] ks;omega
 ·have:=ajO [114,101,116,117,114,110] ks;omega
 ·rw[iC];omega
 ·rw[iC];omega
 ·cases ks with
  |nil=>rw[iC];omega
  |cons u l=>have:=PI .top (u::l);simp only[ql,iC,sizes] at this|-;omega
 ·rcases hc.cnd rfl with h2|h3
  ·obtain⟨u,v,rfl⟩:=aor h2;have a0:=og u .top;have a1:=ihk (i:=1) (u:=v) rfl (by simp[cls]);simp[oP,qm,lW,Dw,ql,iC,sizes,show Nat.blt 2 2=false from rfl] at *;omega
  ·obtain⟨u,v,z,rfl⟩:=awD h3;have a0:=og u .top;have a1:=ihk (i:=1) (u:=v) rfl (by simp[cls]);have a2:=ihk (i:=2) (u:=z) rfl (by simp[cls]);simp[oP,qm,lW,Dw,ql,iC,sizes,show Nat.blt 2 3=true from rfl] at *;omega
 ·obtain⟨u,v,rfl⟩:=aor (hc.two ak);have a0:=og u .top;have a1:=ihk (i:=1) (u:=v) rfl (by simp[cls]);simp[oP,qm,lW,Dw,ql,iC,sizes] at *;omega
 ·obtain⟨u,v,rfl⟩:=aor (hc.two ak);have a0:=og v .top;have a1:=ihk (i:=0) (u:=u) rfl (by simp[cls]);simp[oP,qm,lW,Dw,ql,iC,sizes] at *;omega
 ·obtain⟨u,v,z,q,rfl⟩:=aoq (hc.four rfl);have a0:=og u ⟨1,false,true,false,false⟩;have a1:=VL v;have a2:=VL z;have a3:=ihk (i:=3) (u:=q) rfl (by simp[cls]);have a4:(bif u.kind==16 then jC [] else(vH u) ⟨1,false,true,false,false⟩).size<=16 * u.size:=by
   refine Dy _ ?_ ?_
   ·have:=u.size_pos;rw[iC];omega
   ·omega
  simp[oP,qm,lW,ql,iC,sizes] at *;omega
 ·obtain⟨u,rfl⟩:=zlo.1 (hc.one ak);have a1:=ihk (i:=0) (u:=u) rfl (by simp[cls]);simp[oP,qm,lW,ql,iC,sizes] at *;omega
 ·have h1:=awz (lW ks);have h2:=acM (ks:=ks) λu hu=>by obtain⟨i,hi⟩:=List.mem_iff_getElem?.1 hu;exact ihk hi (by simp[cls])
  rw[RN] at h1;omega
 ·rw[iC];omega
def zJ{op:Int}(h:afU op=true):AV op≠0/\op≠61:=by
 have hc:op=60\/op=57\/op=58\/op=59\/op=55\/op=56\/op=99\/op=63\/op=48\/op=47\/op=50\/op=62\/op=49\/op=67\/op=46\/op=45\/op=44:=by simp only[afU,Bool.or_eq_true,beq_iff_eq] at h;omega
 rcases hc with rfl|rfl|rfl|rfl|rfl|rfl|rfl|rfl|rfl|rfl|rfl|rfl|rfl|rfl|rfl|rfl|rfl<;>decide
def FZ{op:Int}(h:afV op=true):op=54\/(38<=op/\op<=43):=by simp only[afV,Bool.or_eq_true,xw,beq_iff_eq,decide_eq_true_eq] at h;omega
def aeZ(k:Int)(op:Int)(t o:aA)(kids:au)(h:M.aH k op t o kids=some true)(hk:k=1\/k=5\/k=7\/k=13\/k=27\/k=44):Cnt k op o kids.length:=by
 rcases hk with rfl|rfl|rfl|rfl|rfl|rfl
 all_goals
  simp only[M.aH,M.aY,M.dD,M.bZ,M.eX,M.dX,M.cu,M.dh,gu,dM,AB,oO,Int.reduceBEq,reduceLE,reduceLT,reduceSub,reduceAdd,dJ,ah] at h;revert h;cases hn0:M.kF t with
  |none=>cases op==0<;>simp
  |some b0=>_
  all_goals try simp only[Int.reduceBEq,reduceLE,reduceLT,reduceSub,reduceAdd,dJ,ah]
  all_goals(cases ho0:(op==0)<;>cases ht:(t==[])<;>cases hy:(o==[])<;>cases b0<;>simp_all<;>intros<;>constructor<;>intros<;>first|omega|exact zJ ‹_›|exact FZ ‹_›|(rw[aB (n:=op+1) ak ak] at *;omega)|(simp_all<;>omega))
def aX4(op:Int)(t o:aA)(kids:au)(h:M.aH 2 op t o kids=some true):Cnt 2 op o kids.length:=by
 simp only[M.aH,M.aY,M.dD,M.bZ,M.eX,M.dX,M.cu,M.dh,gu,dM,AB,oO,Int.reduceBEq,reduceLE,reduceLT,reduceSub,reduceAdd,dJ,ah] at h;revert h;cases hn0:M.nM 3 t 0 with
 |none=>cases op==0<;>simp
 |some b0=>_
 all_goals try simp only[Int.reduceBEq,reduceLE,reduceLT,reduceSub,reduceAdd,dJ,ah]
 all_goals(cases ho0:(op==0)<;>cases ht:(t==[])<;>cases hy:(o==[])<;>cases b0<;>simp_all<;>intros<;>constructor<;>intros<;>first|omega|exact zJ ‹_›|exact FZ ‹_›|(rw[aB (n:=op+1) ak ak] at *;omega)|(simp_all<;>omega))
def aX5(op:Int)(t o:aA)(kids:au)(h:M.aH 3 op t o kids=some true):Cnt 3 op o kids.length:=by
 simp only[M.aH,M.aY,M.dD,M.bZ,M.eX,M.dX,M.cu,M.dh,gu,dM,AB,oO,Int.reduceBEq,reduceLE,reduceLT,reduceSub,reduceAdd,dJ,ah] at h;revert h;cases hn0:M.nM 4 t 0 with
 |none=>cases op==0<;>simp
 |some b0=>_
 all_goals try simp only[Int.reduceBEq,reduceLE,reduceLT,reduceSub,reduceAdd,dJ,ah]
 all_goals(cases ho0:(op==0)<;>cases ht:(t==[])<;>cases hy:(o==[])<;>cases b0<;>simp_all<;>intros<;>constructor<;>intros<;>first|omega|exact zJ ‹_›|exact FZ ‹_›|(rw[aB (n:=op+1) ak ak] at *;omega)|(simp_all<;>omega))
def aX6(op:Int)(t o:aA)(kids:au)(h:M.aH 4 op t o kids=some true):Cnt 4 op o kids.length:=by
 simp only[M.aH,M.aY,M.dD,M.bZ,M.eX,M.dX,M.cu,M.dh,gu,dM,AB,oO,Int.reduceBEq,reduceLE,reduceLT,reduceSub,reduceAdd,dJ,ah] at h;revert h;cases hn0:M.nM 5 t 0 with
 |none=>cases op==0<;>simp
 |some b0=>_
 all_goals try simp only[Int.reduceBEq,reduceLE,reduceLT,reduceSub,reduceAdd,dJ,ah]
 all_goals(cases ho0:(op==0)<;>cases ht:(t==[])<;>cases hy:(o==[])<;>cases b0<;>simp_all<;>intros<;>constructor<;>intros<;>first|omega|exact zJ ‹_›|exact FZ ‹_›|(rw[aB (n:=op+1) ak ak] at *;omega)|(simp_all<;>omega))
def KQ(k:Int)(op:Int)(t o:aA)(kids:au)(h:M.aH k op t o kids=some true)(hk:k=6\/k=14\/k=16\/k=20\/k=22\/k=23\/k=24\/k=25\/k=26\/k=28\/k=29\/k=30\/k=31\/k=33\/k=40\/k=41\/k=45):Cnt k op o kids.length:=by
 rcases hk with rfl|rfl|rfl|rfl|rfl|rfl|rfl|rfl|rfl|rfl|rfl|rfl|rfl|rfl|rfl|rfl|rfl
 all_goals
  simp only[M.aH,M.aY,M.dD,M.bZ,M.eX,M.dX,M.cu,M.dh,gu,dM,AB,oO,Int.reduceBEq,reduceLE,reduceLT,reduceSub,reduceAdd,dJ,ah] at h;revert h
  all_goals try simp only[Int.reduceBEq,reduceLE,reduceLT,reduceSub,reduceAdd,dJ,ah]
  all_goals(cases ho0:(op==0)<;>cases ht:(t==[])<;>cases hy:(o==[])<;>simp_all<;>intros<;>constructor<;>intros<;>first|omega|exact zJ ‹_›|exact FZ ‹_›|(rw[aB (n:=op+1) ak ak] at *;omega)|(simp_all<;>omega))
def aX7(op:Int)(t o:aA)(kids:au)(h:M.aH 8 op t o kids=some true):Cnt 8 op o kids.length:=by
 simp only[M.aH,M.aY,M.dD,M.bZ,M.eX,M.dX,M.cu,M.dh,gu,dM,AB,oO,Int.reduceBEq,reduceLE,reduceLT,reduceSub,reduceAdd,dJ,ah] at h;revert h;cases hn0:M.mX t with
 |none=>cases op==0<;>simp
 |some b0=>_
 all_goals try simp only[Int.reduceBEq,reduceLE,reduceLT,reduceSub,reduceAdd,dJ,ah]
 all_goals(cases ho0:(op==0)<;>cases ht:(t==[])<;>cases hy:(o==[])<;>cases b0<;>simp_all<;>intros<;>constructor<;>intros<;>first|omega|exact zJ ‹_›|exact FZ ‹_›|(rw[aB (n:=op+1) ak ak] at *;omega)|(simp_all<;>omega))
def aA2(k:Int)(op:Int)(t o:aA)(kids:au)(h:M.aH k op t o kids=some true)(hk:k=9\/k=10):Cnt k op o kids.length:=by
 rcases hk with rfl|rfl
 all_goals
  simp only[M.aH,M.aY,M.dD,M.bZ,M.eX,M.dX,M.cu,M.dh,gu,dM,AB,oO,Int.reduceBEq,reduceLE,reduceLT,reduceSub,reduceAdd,dJ,ah] at h;revert h
  all_goals try simp only[Int.reduceBEq,reduceLE,reduceLT,reduceSub,reduceAdd,dJ,ah]
  all_goals(cases ho0:(op==51)<;>cases ho1:(op==52)<;>cases ht:(t==[])<;>cases hy:(o==[])<;>simp_all<;>intros<;>constructor<;>intros<;>first|omega|exact zJ ‹_›|exact FZ ‹_›|(rw[aB (n:=op+1) ak ak] at *;omega)|(simp_all<;>omega))
def aKt(op:Int)(t o:aA)(kids:au)(h:M.aH 11 op t o kids=some true):Cnt 11 op o kids.length:=by
 simp only[M.aH,M.aY,M.dD,M.bZ,M.eX,M.dX,M.cu,M.dh,gu,dM,AB,oO,Int.reduceBEq,reduceLE,reduceLT,reduceSub,reduceAdd,dJ,ah] at h;revert h
 all_goals try simp only[Int.reduceBEq,reduceLE,reduceLT,reduceSub,reduceAdd,dJ,ah]
 all_goals(cases ho0:(op==55)<;>cases ho1:(op==56)<;>cases ho2:(op==61)<;>cases ht:(t==[])<;>cases hy:(o==[])<;>simp_all<;>intros<;>constructor<;>intros<;>first|omega|exact zJ ‹_›|exact FZ ‹_›|(rw[aB (n:=op+1) ak ak] at *;omega)|(simp_all<;>omega))
def aKu(op:Int)(t o:aA)(kids:au)(h:M.aH 12 op t o kids=some true):Cnt 12 op o kids.length:=by
 simp only[M.aH,M.aY,M.dD,M.bZ,M.eX,M.dX,M.cu,M.dh,gu,dM,AB,oO,Int.reduceBEq,reduceLE,reduceLT,reduceSub,reduceAdd,dJ,ah] at h;revert h
 all_goals try simp only[Int.reduceBEq,reduceLE,reduceLT,reduceSub,reduceAdd,dJ,ah]
 all_goals(cases ho0:(afU op)<;>cases ht:(t==[])<;>cases hy:(o==[])<;>simp_all<;>intros<;>constructor<;>intros<;>first|omega|exact zJ ‹_›|exact FZ ‹_›|(rw[aB (n:=op+1) ak ak] at *;omega)|(simp_all<;>omega))
def aKv(op:Int)(t o:aA)(kids:au)(h:M.aH 15 op t o kids=some true):Cnt 15 op o kids.length:=by
 simp only[M.aH,M.aY,M.dD,M.bZ,M.eX,M.dX,M.cu,M.dh,gu,dM,AB,oO,Int.reduceBEq,reduceLE,reduceLT,reduceSub,reduceAdd,dJ,ah] at h;revert h
 all_goals try simp only[Int.reduceBEq,reduceLE,reduceLT,reduceSub,reduceAdd,dJ,ah]
 all_goals(cases ho0:(afV op)<;>cases ht:(t==[])<;>cases hy:(o==[])<;>simp_all<;>intros<;>constructor<;>intros<;>first|omega|exact zJ ‹_›|exact FZ ‹_›|(rw[aB (n:=op+1) ak ak] at *;omega)|(simp_all<;>omega))
def aKw(op:Int)(t o:aA)(kids:au)(h:M.aH 21 op t o kids=some true):Cnt 21 op o kids.length:=by
 simp only[M.aH,M.aY,M.dD,M.bZ,M.eX,M.dX,M.cu,M.dh,gu,dM,AB,oO,Int.reduceBEq,reduceLE,reduceLT,reduceSub,reduceAdd,dJ,ah] at h;revert h
 all_goals try simp only[Int.reduceBEq,reduceLE,reduceLT,reduceSub,reduceAdd,dJ,ah]
 all_goals(cases ho0:(decide (0<=op))<;>cases ho1:(decide (op<=1))<;>cases ht:(t==[])<;>cases hy:(o==[])<;>cases h1:(o==[62])<;>cases h2:(o==[62,62])<;>cases h3:(o==[124])<;>simp_all<;>intros<;>constructor<;>intros<;>first|omega|exact zJ ‹_›|exact FZ ‹_›|(rw[aB (n:=op+1) ak ak] at *;omega)|(simp_all<;>omega))
def aKx(op:Int)(t o:aA)(kids:au)(h:M.aH 32 op t o kids=some true):Cnt 32 op o kids.length:=by
 simp only[M.aH,M.aY,M.dD,M.bZ,M.eX,M.dX,M.cu,M.dh,gu,dM,AB,oO,Int.reduceBEq,reduceLE,reduceLT,reduceSub,reduceAdd,dJ,ah] at h;revert h;cases hn0:M.kF t with
 |none=>cases op==0<;>simp
 |some b0=>_
 cases hn1:M.kF o with
 |none=>cases b0<;>cases op==0<;>simp
 |some b1=>_
 all_goals try simp only[Int.reduceBEq,reduceLE,reduceLT,reduceSub,reduceAdd,dJ,ah]
 all_goals(cases ho0:(op==0)<;>cases ht:(t==[])<;>cases hy:(o==[])<;>cases b0<;>cases b1<;>simp_all<;>intros<;>constructor<;>intros<;>first|omega|exact zJ ‹_›|exact FZ ‹_›|(rw[aB (n:=op+1) ak ak] at *;omega)|(simp_all<;>omega))
def aKy(op:Int)(t o:aA)(kids:au)(h:M.aH 34 op t o kids=some true):Cnt 34 op o kids.length:=by
 simp only[M.aH,M.aY,M.dD,M.bZ,M.eX,M.dX,M.cu,M.dh,gu,dM,AB,oO,Int.reduceBEq,reduceLE,reduceLT,reduceSub,reduceAdd,dJ,ah] at h;revert h;cases hn0:M.nM 2 t 0 with
 |none=>cases op==0<;>simp
 |some b0=>_
 all_goals try simp only[Int.reduceBEq,reduceLE,reduceLT,reduceSub,reduceAdd,dJ,ah]
 all_goals(cases ho0:(op==0)<;>cases ht:(t==[])<;>cases hy:(o==[])<;>cases b0<;>simp_all<;>intros<;>constructor<;>intros<;>first|omega|exact zJ ‹_›|exact FZ ‹_›|(rw[aB (n:=op+1) ak ak] at *;omega)|(simp_all<;>omega))
def aKz(op:Int)(t o:aA)(kids:au)(h:M.aH 42 op t o kids=some true):Cnt 42 op o kids.length:=by have hc:=aon h;have hr:=hc.rule rfl;constructor<;>intros<;>omega
def aKA(op:Int)(t o:aA)(kids:au)(h:M.aH 43 op t o kids=some true):Cnt 43 op o kids.length:=by have hc:=aon h;have hr:=hc.range rfl;constructor<;>intros<;>omega
def Y2(k:Int)(op:Int)(t o:aA)(kids:au)(j:Nat)(d:Int)(hj:j<kids.length)(hl:kids.length<=400)(hc:Cnt k op o kids.length)(h:M.aQ k op t o kids (j:Int) d=some true)(hk:k=1\/k=2\/k=3\/k=4\/k=16\/k=22\/k=25\/k=26\/k=34):Dx (cls k op kids.length j) d:=by
 rcases hk with rfl|rfl|rfl|rfl|rfl|rfl|rfl|rfl|rfl
 all_goals
  have hw:i64.wrap ((kids.length:Int) - 1)=(kids.length:Int) - 1:=aB ak ak;simp only[M.aQ,M.aP,M.aJ,bU,bV,bW,aX,gu,dM,Int.reduceBEq,reduceLE,reduceLT,reduceSub,reduceAdd,dJ,ah] at h
  try rw[hw] at h
  have:=hc.non ak;omega
def Jb(k:Int)(op:Int)(t o:aA)(kids:au)(j:Nat)(d:Int)(hj:j<kids.length)(hl:kids.length<=400)(hc:Cnt k op o kids.length)(h:M.aQ k op t o kids (j:Int) d=some true)(hk:k=5\/k=6\/k=7\/k=8\/k=11\/k=12\/k=13\/k=14\/k=20\/k=21\/k=23\/k=24\/k=27\/k=32\/k=33\/k=40\/k=41\/k=45):Dx (cls k op kids.length j) d:=by
 rcases hk with rfl|rfl|rfl|rfl|rfl|rfl|rfl|rfl|rfl|rfl|rfl|rfl|rfl|rfl|rfl|rfl|rfl|rfl
 all_goals
  have hw:i64.wrap ((kids.length:Int) - 1)=(kids.length:Int) - 1:=aB ak ak;simp only[M.aQ,M.aP,M.aJ,bU,bV,bW,aX,gu,dM,Int.reduceBEq,reduceLE,reduceLT,reduceSub,reduceAdd,dJ,ah] at h
  try rw[hw] at h
  simp[cls,Dx,uQ,Yi,adM,isIt,Bool.cond_eq_ite] at h|-
  all_goals first|omega|((repeat' split at h)<;>simp_all<;>omega)
def aA3(k:Int)(op:Int)(t o:aA)(kids:au)(j:Nat)(d:Int)(hj:j<kids.length)(hl:kids.length<=400)(hc:Cnt k op o kids.length)(h:M.aQ k op t o kids (j:Int) d=some true)(hk:k=9\/k=10):Dx (cls k op kids.length j) d:=by
 rcases hk with rfl|rfl
 all_goals
  have hw:i64.wrap ((kids.length:Int) - 1)=(kids.length:Int) - 1:=aB ak ak;simp only[M.aQ,M.aP,M.aJ,bU,bV,bW,aX,gu,dM,Int.reduceBEq,reduceLE,reduceLT,reduceSub,reduceAdd,dJ,ah] at h
  try rw[hw] at h
  have hn:=hc.one ak;obtain rfl:j=0:=ak
  all_goals(simp[cls,Dx,uQ,Yi,adM,isIt,Bool.cond_eq_ite] at h|-<;>first|omega|(repeat' split at h)<;>simp_all<;>omega)
def atx(k:Int)(op:Int)(t o:aA)(kids:au)(j:Nat)(d:Int)(hj:j<kids.length)(hl:kids.length<=400)(hc:Cnt k op o kids.length)(h:M.aQ k op t o kids (j:Int) d=some true)(hk:k=15\/k=29\/k=30):Dx (cls k op kids.length j) d:=by
 rcases hk with rfl|rfl|rfl
 all_goals
  have hw:i64.wrap ((kids.length:Int) - 1)=(kids.length:Int) - 1:=aB ak ak;simp only[M.aQ,M.aP,M.aJ,bU,bV,bW,aX,gu,dM,Int.reduceBEq,reduceLE,reduceLT,reduceSub,reduceAdd,dJ,ah] at h
  try rw[hw] at h
  have hn:=hc.two ak;obtain rfl|rfl:j=0\/j=1:=ak
  all_goals(simp[cls,Dx,uQ,Yi,adM,isIt,Bool.cond_eq_ite] at h|-<;>first|omega|(repeat' split at h)<;>simp_all<;>omega)
def aKB(op:Int)(t o:aA)(kids:au)(j:Nat)(d:Int)(hj:j<kids.length)(hl:kids.length<=400)(hc:Cnt 28 op o kids.length)(h:M.aQ 28 op t o kids (j:Int) d=some true):Dx (cls 28 op kids.length j) d:=by
 have hw:i64.wrap ((kids.length:Int) - 1)=(kids.length:Int) - 1:=aB ak ak;simp only[M.aQ,M.aP,M.aJ,bU,bV,bW,aX,gu,dM,Int.reduceBEq,reduceLE,reduceLT,reduceSub,reduceAdd,dJ,ah] at h
 try rw[hw] at h
 have hn:=hc.cnd ak;obtain rfl|rfl|rfl:j=0\/j=1\/j=2:=ak
 all_goals(simp[cls,Dx,uQ,Yi,adM,isIt,Bool.cond_eq_ite] at h|-<;>first|omega|(repeat' split at h)<;>simp_all<;>omega)
def aKC(op:Int)(t o:aA)(kids:au)(j:Nat)(d:Int)(hj:j<kids.length)(hl:kids.length<=400)(hc:Cnt 31 op o kids.length)(h:M.aQ 31 op t o kids (j:Int) d=some true):Dx (cls 31 op kids.length j) d:=by
 have hw:i64.wrap ((kids.length:Int) - 1)=(kids.length:Int) - 1:=aB ak ak;simp only[M.aQ,M.aP,M.aJ,bU,bV,bW,aX,gu,dM,Int.reduceBEq,reduceLE,reduceLT,reduceSub,reduceAdd,dJ,ah] at h
 try rw[hw] at h
 have hn:=hc.four ak;obtain rfl|rfl|rfl|rfl:j=0\/j=1\/j=2\/j=3:=ak
 all_goals(simp[cls,Dx,uQ,Yi,adM,isIt,Bool.cond_eq_ite] at h|-<;>first|omega|(repeat' split at h)<;>simp_all<;>omega)
def aKD(op:Int)(t o:aA)(kids:au)(j:Nat)(d:Int)(hj:j<kids.length)(hl:kids.length<=400)(hc:Cnt 42 op o kids.length)(h:M.aQ 42 op t o kids (j:Int) d=some true):Dx (cls 42 op kids.length j) d:=by
 have hw:i64.wrap ((kids.length:Int) - 1)=(kids.length:Int) - 1:=aB ak ak;simp only[M.aQ,M.aP,M.aJ,bU,bV,bW,aX,gu,dM,Int.reduceBEq,reduceLE,reduceLT,reduceSub,reduceAdd,dJ,ah] at h
 try rw[hw] at h
 rcases hc.rule rfl with⟨rfl,h1⟩|⟨rfl,h1⟩|⟨rfl,h1⟩
 ·obtain rfl:j=0:=ak
  all_goals(simp[cls,Dx,uQ,Yi,adM,isIt,Bool.cond_eq_ite,h1] at h|-<;>first|omega|(repeat' split at h)<;>simp_all<;>omega)
 ·obtain rfl:j=0:=ak
  all_goals(simp[cls,Dx,uQ,Yi,adM,isIt,Bool.cond_eq_ite,h1] at h|-<;>first|omega|(repeat' split at h)<;>simp_all<;>omega)
 ·obtain rfl|rfl:j=0\/j=1:=ak
  all_goals(simp[cls,Dx,uQ,Yi,adM,isIt,Bool.cond_eq_ite,h1] at h|-<;>first|omega|(repeat' split at h)<;>simp_all<;>omega)
def aKE(op:Int)(t o:aA)(kids:au)(j:Nat)(d:Int)(hj:j<kids.length)(hl:kids.length<=400)(hc:Cnt 43 op o kids.length)(h:M.aQ 43 op t o kids (j:Int) d=some true):Dx (cls 43 op kids.length j) d:=by
 have hw:i64.wrap ((kids.length:Int) - 1)=(kids.length:Int) - 1:=aB ak ak;simp only[M.aQ,M.aP,M.aJ,bU,bV,bW,aX,gu,dM,Int.reduceBEq,reduceLE,reduceLT,reduceSub,reduceAdd,dJ,ah] at h
 try rw[hw] at h
 rcases hc.range rfl with⟨rfl,h1⟩|⟨rfl,h1⟩
 ·obtain rfl|rfl:j=0\/j=1:=ak
  all_goals(simp[cls,Dx,uQ,Yi,adM,isIt,Bool.cond_eq_ite,h1] at h|-<;>first|omega|(repeat' split at h)<;>simp_all<;>omega)
 ·obtain rfl|rfl|rfl:j=0\/j=1\/j=2:=ak
  all_goals(simp[cls,Dx,uQ,Yi,adM,isIt,Bool.cond_eq_ite,h1] at h|-<;>first|omega|(repeat' split at h)<;>simp_all<;>omega)
def aKF(op:Int)(t o:aA)(kids:au)(j:Nat)(d:Int)(hj:j<kids.length)(hl:kids.length<=400)(hc:Cnt 44 op o kids.length)(h:M.aQ 44 op t o kids (j:Int) d=some true):Dx (cls 44 op kids.length j) d:=by
 have hw:i64.wrap ((kids.length:Int) - 1)=(kids.length:Int) - 1:=aB ak ak;simp only[M.aQ,M.aP,M.aJ,bU,bV,bW,aX,gu,dM,Int.reduceBEq,reduceLE,reduceLT,reduceSub,reduceAdd,dJ,ah] at h
 try rw[hw] at h
 by_cases h1:j+1=kids.length
 ·have e:((j:Int)==(kids.length:Int) - 1)=true:=by rw[beq_iff_eq];omega
  rw[e] at h;simp[cls,Dx,h1,Bool.cond_eq_ite] at h|-
  first|omega|skip
 ·have e:((j:Int)==(kids.length:Int) - 1)=false:=by rw[II];omega
  rw[e] at h;simp[cls,Dx,h1,Bool.cond_eq_ite] at h|-
  first|omega|skip
def ari{k op:Int}{t o:aA}{kids:au}(h:M.aH k op t o kids=some true):aeW k:=by
 by_cases hk:aeW k
 ·exact hk
 ·exfalso;have e1:(decide (k>=1) && decide (k<=16))=false:=by
   cases hq:(decide (k>=1) && decide (k<=16)) with
   |false=>rfl
   |true=>rw[xw,decide_eq_true_eq,decide_eq_true_eq] at hq;exact absurd (Or.inl hq) hk
  have e2:(decide (k>=20) && decide (k<=34))=false:=by
   cases hq:(decide (k>=20) && decide (k<=34)) with
   |false=>rfl
   |true=>rw[xw,decide_eq_true_eq,decide_eq_true_eq] at hq;exact absurd (Or.inr (Or.inl hq)) hk
  have e3:(decide (k>=40) && decide (k<=45))=false:=by
   cases hq:(decide (k>=40) && decide (k<=45)) with
   |false=>rfl
   |true=>rw[xw,decide_eq_true_eq,decide_eq_true_eq] at hq;exact absurd (Or.inr (Or.inr hq)) hk
  simp only[M.aH,M.aY,gu,e1,e2,e3,ah,bg] at h;cases hm:M.dD k op t o kids with
  |none=>rw[hm] at h;cases h
  |some r=>rw[hm,ah] at h;cases h
def aKG{k op:Int}{t o:aA}{kids:au}(h:M.aH k op t o kids=some true):Cnt k op o kids.length:=by
 have hk:k=1\/k=2\/k=3\/k=4\/k=5\/k=6\/k=7\/k=8\/k=9\/k=10\/k=11\/k=12\/k=13\/k=14\/k=15\/k=16\/k=20\/k=21\/k=22\/k=23\/k=24\/k=25\/k=26\/k=27\/k=28\/k=29\/k=30\/k=31\/k=32\/k=33\/k=34\/k=40\/k=41\/k=42\/k=43\/k=44\/k=45:=by have:=ari h;unfold aeW at this;omega
 rcases hk with rfl|rfl|rfl|rfl|rfl|rfl|rfl|rfl|rfl|rfl|rfl|rfl|rfl|rfl|rfl|rfl|rfl|rfl|rfl|rfl|rfl|rfl|rfl|rfl|rfl|rfl|rfl|rfl|rfl|rfl|rfl|rfl|rfl|rfl|rfl|rfl|rfl
 ·exact aeZ _ _ _ _ _ h ak
 ·exact aX4 _ _ _ _ h
 ·exact aX5 _ _ _ _ h
 ·exact aX6 _ _ _ _ h
 ·exact aeZ _ _ _ _ _ h ak
 ·exact KQ _ _ _ _ _ h ak
 ·exact aeZ _ _ _ _ _ h ak
 ·exact aX7 _ _ _ _ h
 ·exact aA2 _ _ _ _ _ h ak
 ·exact aA2 _ _ _ _ _ h ak
 ·exact aKt _ _ _ _ h
 ·exact aKu _ _ _ _ h
 ·exact aeZ _ _ _ _ _ h ak
 ·exact KQ _ _ _ _ _ h ak
 ·exact aKv _ _ _ _ h
 ·exact KQ _ _ _ _ _ h ak
 ·exact KQ _ _ _ _ _ h ak
 ·exact aKw _ _ _ _ h
 ·exact KQ _ _ _ _ _ h ak
 ·exact KQ _ _ _ _ _ h ak
 ·exact KQ _ _ _ _ _ h ak
 ·exact KQ _ _ _ _ _ h ak
 ·exact KQ _ _ _ _ _ h ak
 ·exact aeZ _ _ _ _ _ h ak
 ·exact KQ _ _ _ _ _ h ak
 ·exact KQ _ _ _ _ _ h ak
 ·exact KQ _ _ _ _ _ h ak
 ·exact KQ _ _ _ _ _ h ak
 ·exact aKx _ _ _ _ h
 ·exact KQ _ _ _ _ _ h ak
 ·exact aKy _ _ _ _ h
 ·exact KQ _ _ _ _ _ h ak
 ·exact KQ _ _ _ _ _ h ak
 ·exact aKz _ _ _ _ h
 ·exact aKA _ _ _ _ h
 ·exact aeZ _ _ _ _ _ h ak
 ·exact KQ _ _ _ _ _ h ak
def aKH{k op:Int}{t o:aA}{kids:au}{j:Nat}{d:Int}(hk:aeW k)(hj:j<kids.length)(hl:kids.length<=400)(hc:Cnt k op o kids.length)(h:M.aQ k op t o kids (j:Int) d=some true):Dx (cls k op kids.length j) d:=by
 have hk:k=1\/k=2\/k=3\/k=4\/k=5\/k=6\/k=7\/k=8\/k=9\/k=10\/k=11\/k=12\/k=13\/k=14\/k=15\/k=16\/k=20\/k=21\/k=22\/k=23\/k=24\/k=25\/k=26\/k=27\/k=28\/k=29\/k=30\/k=31\/k=32\/k=33\/k=34\/k=40\/k=41\/k=42\/k=43\/k=44\/k=45:=by unfold aeW at hk;omega
 rcases hk with rfl|rfl|rfl|rfl|rfl|rfl|rfl|rfl|rfl|rfl|rfl|rfl|rfl|rfl|rfl|rfl|rfl|rfl|rfl|rfl|rfl|rfl|rfl|rfl|rfl|rfl|rfl|rfl|rfl|rfl|rfl|rfl|rfl|rfl|rfl|rfl|rfl
 ·exact Y2 _ _ _ _ _ _ _ hj hl hc h ak
 ·exact Y2 _ _ _ _ _ _ _ hj hl hc h ak
 ·exact Y2 _ _ _ _ _ _ _ hj hl hc h ak
 ·exact Y2 _ _ _ _ _ _ _ hj hl hc h ak
 ·exact Jb _ _ _ _ _ _ _ hj hl hc h ak
 ·exact Jb _ _ _ _ _ _ _ hj hl hc h ak
 ·exact Jb _ _ _ _ _ _ _ hj hl hc h ak
 ·exact Jb _ _ _ _ _ _ _ hj hl hc h ak
 ·exact aA3 _ _ _ _ _ _ _ hj hl hc h ak
 ·exact aA3 _ _ _ _ _ _ _ hj hl hc h ak
 ·exact Jb _ _ _ _ _ _ _ hj hl hc h ak
 ·exact Jb _ _ _ _ _ _ _ hj hl hc h ak
 ·exact Jb _ _ _ _ _ _ _ hj hl hc h ak
 ·exact Jb _ _ _ _ _ _ _ hj hl hc h ak
 ·exact atx _ _ _ _ _ _ _ hj hl hc h ak
 ·exact Y2 _ _ _ _ _ _ _ hj hl hc h ak
 ·exact Jb _ _ _ _ _ _ _ hj hl hc h ak
 ·exact Jb _ _ _ _ _ _ _ hj hl hc h ak
 ·exact Y2 _ _ _ _ _ _ _ hj hl hc h ak
 ·exact Jb _ _ _ _ _ _ _ hj hl hc h ak
 ·exact Jb _ _ _ _ _ _ _ hj hl hc h ak
 ·exact Y2 _ _ _ _ _ _ _ hj hl hc h ak
 ·exact Y2 _ _ _ _ _ _ _ hj hl hc h ak
 ·exact Jb _ _ _ _ _ _ _ hj hl hc h ak
 ·exact aKB _ _ _ _ _ _ hj hl hc h
 ·exact atx _ _ _ _ _ _ _ hj hl hc h ak
 ·exact atx _ _ _ _ _ _ _ hj hl hc h ak
 ·exact aKC _ _ _ _ _ _ hj hl hc h
 ·exact Jb _ _ _ _ _ _ _ hj hl hc h ak
 ·exact Jb _ _ _ _ _ _ _ hj hl hc h ak
 ·exact Y2 _ _ _ _ _ _ _ hj hl hc h ak
 ·exact Jb _ _ _ _ _ _ _ hj hl hc h ak
 ·exact Jb _ _ _ _ _ _ _ hj hl hc h ak
 ·exact aKD _ _ _ _ _ _ hj hl hc h
 ·exact aKE _ _ _ _ _ _ hj hl hc h
 ·exact aKF _ _ _ _ _ _ hj hl hc h
 ·exact Jb _ _ _ _ _ _ _ hj hl hc h ak
def adS{α:Type}{p:Nat->α->Bool}:∀{l:List α} {i j:Nat} {x:α},XI p l i=true->l[j]? =some x->p (i+j) x=true
 |[],_,j,_,_,h=>by simp at h
 |y::l,i,0,x,h,e=>by rw[XI,xw] at h;cases e;exact h.1
 |y::l,i,j+1,x,h,e=>by
  rw[XI,xw] at h;rw[List.getElem?_cons_succ] at e;have:=adS h.2 e
  rwa [show i+1+j=i+(j+1) by omega] at this
def aA4{k op:Int}{n:Nat}:∀{ks:List Tn} {j:Nat},(∀i t,ks[i]? =some t->Dx (cls k op n (j+i)) t.kind/\BA t)->oks k op n ks j
 |[],_,_=>by rw[oks];trivial
 |t::ts,j,h=>by
  rw[oks];have h0:=h 0 t rfl;refine⟨h0.1,h0.2,aA4 λi u hu=> ?_⟩;have:=h (i+1) u (by rw[List.getElem?_cons_succ];exact hu)
  rwa [show j+(i+1)=j+1+i by omega] at this
def aGj{l:List Nd}(hall:XI (np l) l 0=true)(hsm:∀n,n∈l->Small n)(hkl:∀n,n∈l->n.kids.length<=400)(t:Tn):∀b,Lies l b t->BA t:=by
 refine Tn.ind (P:=λt=>∀b,Lies l b t->BA t) ?_ t;intro k op x y ks ih b h;have hr:=h.root;have hm:=AU hr;have hn:=adS hall hr;unfold np at hn;rw[xw] at hn;have hf:=(ajC (hsm _ hm) (hkl _ hm)).1;rw[hn.1] at hf;have hc:=aKG hf;rw[bf,eH] at hc;have hkn:=ari hf;rw[BA];refine⟨hkn,hc,aA4 λi u hu=>⟨?_,ih u (AU hu) _ (Lies.RG h hu)⟩⟩;have he:=YZ (b:=b) hu;have hlt:=(PN.1 hu).1;have hk:=adS hn.2 he;have hroot:=Lies.root' (Lies.RG h hu);unfold kp at hk;rw[VO] at hk;have hnd:(abj l (b+sizes (ks.take i)+sizes u.kids)).kind=u.kind:=by rw[abj,hroot]
 rw[hnd] at hk;have hko:=(atr (hsm _ hm) (hkl _ hm) hn.1 (0+i) (by rw[eH];omega) u.kind).1;rw[hk] at hko;have:=aKH (j:=0+i) hkn (by rw[bf,eH];omega) (by rw[bf];exact hkl _ hm) (by rw[bf,eH];exact hc) hko;rw[bf,eH] at this;exact this
def aty{t:Tn}(h:PE (t.flat 0)=true)(hsm:∀n,n∈t.flat 0->Small n):BA t:=by unfold PE at h;rw[xw,xw] at h;obtain⟨r,hv⟩:=aeT h.1;exact aGj h.2.2 hsm hv.aar t 0 (Lies.whole t)
def wK:List Nd->Nat
 |[]=>0
 |n::l=>4+n.kids.length+wK l
def ajP:∀l:List Nd,NS (aZ true l)=true
 |[]=>rfl
 |n::l=>by have:aZ true (n::l)=NU true n::aZ true l:=rfl;rw[this,NS,ajP l];simp[NU,bn,D.pure]
def ae0(l:List Nd):[[D.sl true 5 (aZ true l)]].all bn=true:=by simp[bn,D.pure,ajP]
structure Ok(l:List Nd):Prop where
 len:l.length<=1048576
 kids:∀n,n∈l->n.kids.length<=1048576/\∀e,e∈n.kids->I64 e
 sm:∀n,n∈l->Small n
 w:wK l<=10000000
def Ok.k{l:List Nd}(h:Ok l):∀n,n∈l->n.kids.length<=1048576:=λn hn=>by have:=(h.kids n hn).1;omega
def aos{l:List Nd}(h:PE l=true):J4 l=true:=by unfold PE at h;rw[xw] at h;exact h.1
def ae1(o:Bool)(n:Nd):Row:=[.int .i64 n.kind,.int .i64 n.op,.str n.text,.sl o 1 (encI n.kids)]
def dG(o:Bool)(l:List Nd):au:=l.map (ae1 o)
section
variable (o:Bool) (n:Nd) (l:List Nd) (i:Int)
@[simp] theorem jy:(dG o l).length=l.length:=by simp[dG]
@[simp] theorem aLu:idx (dG o l) i=(idx l i).map (ae1 o):=ahj _ _ _
@[simp] theorem vG(j:Nat):(dG o l)[j]? =(l[j]?).map (ae1 o):=by simp[dG]
@[simp] theorem cD0:bM .i64 (ae1 o n) 0=some n.kind:=rfl
@[simp] theorem cD1:bM .i64 (ae1 o n) 1=some n.op:=rfl
@[simp] theorem cD2:cStr (ae1 o n) 2=some n.text:=rfl
@[simp] theorem cD3:NP 1 (ae1 o n) 3=some (encI n.kids):=rfl
@[simp] theorem adT:aG (dG o l)=dG false l:=by
 induction l with
 |nil=>rfl
 |cons x l ih=>simp only[dG,PO,aG] at ih|-;rw[ih];simp[ae1,qo,D.fz,aun]
end
def RP(o:Bool)(a b:List Nd):dG o (a++b)=dG o a++dG o b:=by simp[dG]
def ajQ:∀l:List Nd,NS (dG true l)=true
 |[]=>rfl
 |n::l=>by have:dG true (n::l)=ae1 true n::dG true l:=rfl;rw[this,NS,ajQ l];simp[ae1,bn,D.pure]
def awE(l:List Nd):[[D.sl true 4 (dG true l)]].all bn=true:=by simp[bn,D.pure,ajQ]
def aGk(l:List Nd)(o:Bool)(d:Int)(hl:l.length<=90000000)(hk:∀n,n∈l->n.kids.length<=90000000/\∀e,e∈n.kids-> -4000000000<=e+d/\e+d<=4000000000):
  M.su (dG o l) d=some (dG true (l.map (Nd.up d))):=by
 simp only[M.su,M.OV];have hloop:=ji (b:=M.Hy (dG o l) d) (t:=((l.length:Int),dG true (l.map (Nd.up d)))) (λi=>((i:Int),dG true ((l.take i).map (Nd.up d)))) l.length
  (by
   intro i hi;obtain⟨n,hn⟩:∃n,l[i]? =some n:=⟨l[i],by simp[hi]⟩
   obtain⟨hkl,hke⟩:=hk n (AU hn);have hin:=ji (b:=M.Hw (dG o l) d (i:Int) (dG true ((l.take i).map (Nd.up d))) n.kind n.op n.text) (t:=((n.kids.length:Int),encI (n.kids.map (· +d)))) (λj=>((j:Int),encI ((n.kids.take j).map (· +d)))) n.kids.length
    (by
     intro j hj;obtain⟨e,he⟩:∃e,n.kids[j]? =some e:=⟨n.kids[j],by simp[hj]⟩
     have:=hke e (AU he);simp only[jU,M.Hw,M.Ai,bC,vG,hn,Oa,ah,cD3,bf,nI,he,NV,zaP,VF,JU];rw[zdt ak,aK,aS ak,aK,aS ak,aK,aB ak ak,aB ak ak,fV he];simp[encI])
    (by simp only[jU,M.Hw,M.Ai,bC,vG,hn,Oa,ah,cD3,bf];rw[rH ak,bg,List.take_length]) 0 (Nat.zero_le _)
   simp only[pU,List.take_zero,List.map_nil] at hin;have hin':M.MC (dG o l) d (i:Int) (dG true ((l.take i).map (Nd.up d))) n.kind n.op n.text (0,[])=some ((n.kids.length:Int),encI (n.kids.map (· +d))):=hin;simp only[jU,M.Hy,M.Aj,jy,bC,vG,hn,Oa,ah,cD0,cD1,cD2,cD3,hin',zB,aK,zaP,VF,JU];rw[zdt ak,aK,aS ak,aK,aS ak,aK,aB ak ak,fV hn,List.map_append,RP];rfl)
  (by simp only[jU,M.Hy,M.Aj,jy];rw[rH ak,bg,List.take_length]) 0 (Nat.zero_le _)
 simp only[pU,List.take_zero,List.map_nil] at hloop;have xY:M.MF (dG o l) d (0,[])=some ((l.length:Int),dG true (l.map (Nd.up d))):=hloop;rw[xY,ah]
def tZ(ts:List Tn):au:=ts.map λt=>[.sl false 4 (dG false (t.flat 0))]
def aot(t:Tn)(n:Nd)(hn:n∈t.flat 0):n.kids.length<=t.size/\∀e,e∈n.kids->0<=e/\e<t.size:=by obtain⟨h1,h2⟩:=Yk t 0 n hn;refine⟨ak,λe he=> ?_⟩;have:=h2 e he;omega
def atz(k op:Int)(ts:List Tn)(hs:sizes ts<=90000000):M.aN k op (tZ ts)=some (dG true ((Tn.mk k op [] [] ts).flat 0)):=by
 have htl:=jr ts;simp only[jU,M.aN,M.Q5];have hpl:(tZ ts).length=ts.length:=by simp[tZ]
 have hloop:=ji (b:=M.Dh)
  (t:=if ts=[] then .inl (tZ ts,0,[],k,op,[]) else .inr (tZ ts,(ts.length:Int),dG true (jE ts 0),k,op,[],encI (ends ts 0)))
  (λj=>if j=0 then .inl (tZ ts,0,[],k,op,[]) else .inr (tZ ts,(j:Int),dG true (jE (ts.take j) 0),k,op,[],encI (ends (ts.take j) 0))) ts.length
  (by
   intro j hj;obtain⟨t,ht⟩:∃t,ts[j]? =some t:=⟨ts[j],by simp[hj]⟩
   have hst:=KL ht;have hp:=t.size_pos;have hr:(tZ ts)[j]? =some [.sl false 4 (dG false (t.flat 0))]:=by simp[tZ,ht]
   have c0:NP 4 [D.sl false 4 (dG false (t.flat 0))] 0=some (dG false (t.flat 0)):=rfl;have hfl:(dG true (jE (ts.take j) 0)).length=sizes (ts.take j):=by rw[jy,oq]
   have hsh:M.su (dG false (t.flat 0)) ((sizes (ts.take j):Nat):Int)=some (dG true (t.flat (sizes (ts.take j)))):=by
    rw[aGk (t.flat 0) false _ (by rw[t.flat_length];omega) (λn hn=> ?_)]
    ·rw[t.an2 0 (sizes (ts.take j))];congr 4<;>omega
    ·obtain⟨h1,h2⟩:=aot t n hn;refine⟨ak,λe he=> ?_⟩;have:=h2 e he;omega
   have hrl:(dG true (t.flat (sizes (ts.take j)))).length=t.size:=by rw[jy,t.flat_length]
   have hel:(encI (ends (ts.take j) 0)).length=j:=by rw[bf,eH,VF];omega
   rw[if_neg (show¬j+1=0 by omega),aeV ht,acL ht]
   by_cases h0:j=0
   ·subst h0;have hi:idx (tZ ts) 0=some [.sl false 4 (dG false (t.flat 0))]:=by have:=bC (tZ ts) 0;rw[pU] at this;rw[this,hr]
    rw[if_pos rfl];have z:sizes (ts.take 0)=0:=rfl;rw[z] at hsh hrl;have z2:(([]:au).length:Int)=((0:Nat):Int):=rfl;simp only[jU,M.Dh,M.xF,hpl,hi,ah,c0,z2,hsh,hrl,List.nil_append,uH,Nat.zero_add];rw[zdt ak,aK,aS ak,aK,aS ak,aK,aB ak ak,aB ak ak];simp[encI,dG,jE,ends,sizes]
   ·rw[if_neg h0];simp only[jU,M.Dh,M.xF,hpl,bC,hr,ah,c0,hfl,hsh,hrl,hel,rJ,JU];rw[zdt ak,aK,aS ak,aK,aS ak,aK,aS ak,aK,aS ak,aK,aB ak ak,aB ak ak,RP,Nat.zero_add];simp[encI])
  (by
   by_cases h0:ts=[]
   ·rw[if_pos (by rw[h0];rfl),if_pos h0];subst h0;rfl
   ·have h1:¬ts.length=0:=λe=>h0 (List.length_eq_zero_iff.1 e)
    rw[if_neg h1,if_neg h0,List.take_length];simp only[jU,M.Dh,M.xF,hpl];rw[rH ak,bg]) 0 (Nat.zero_le _)
 rw[if_pos rfl] at hloop;rw[M.OW,hloop,ah]
 by_cases h0:ts=[]
 ·rw[if_pos h0];subst h0;rfl
 ·rw[if_neg h0];simp only[rO,letE,zB,aK,jy,oq,JU];rw[aS ak,aK,aS ak,aK,Tn.flat,RP];rfl
mutual
def Dz(w:Bool):Tn->Row
 | .mk k n x _ ks=>[.int .i64 k,.int .i64 n,.str x,.sl w 5 (oG w ks),.int .i64 0]
def oG(w:Bool):List Tn->au
 |[]=>[]
 |t::ts=>Dz w t::oG w ts
end
def aa0(w:Bool):∀ts:List Tn,oG w ts=ts.map (Dz w)
 |[]=>rfl
 |t::ts=>by rw[oG,aa0 w ts];rfl
def yQ(w:Bool)(a:List Tn):(oG w a).length=a.length:=by simp[aa0]
mutual
def aGl(w:Bool):∀t:Tn,qo (Dz w t)=Dz false t
 | .mk k n x y ks=>by have:=ajR w ks;simp only[Dz,qo,D.fz,this]
def ajR(w:Bool):∀ts:List Tn,aG (oG w ts)=oG false ts
 |[]=>rfl
 |t::ts=>by rw[oG,aG,aGl w t,ajR w ts,oG]
end
def aX8(t:Tn):∀(f:Nat) (w:Bool) (p:List Nd),t.size<=f->p.length+t.size<=90000000->
  M.lU f t.kind t.op t.text (oG w t.kids) 0 (dG true p)=some (dG true (p++t.flat p.length)):=by
 refine Tn.ind (P:=λt=>∀(f:Nat) (w:Bool) (p:List Nd),t.size<=f->p.length+t.size<=90000000->M.lU f t.kind t.op t.text (oG w t.kids) 0 (dG true p)=some (dG true (p++t.flat p.length))) ?_ t;intro k op x y ks ih f w p hf hp;cases f with
 |zero=>rw[Tn.size] at hf;omega
 |succ f=>
  rw[Tn.size] at hf hp;have hkl:=jr ks;simp only[jU,M.lU,M.KA,Tn.kids,Tn.kind,Tn.op,Tn.text,yQ];have hrec:∀j t,ks[j]? =some t->M.lU f t.kind t.op t.text (oG w t.kids) 0 (dG true (p++jE (ks.take j) p.length))=some (dG true (p++jE (ks.take (j+1)) p.length)):=by
   intro j t hj;have hst:=KL hj;have hfl:(p++jE (ks.take j) p.length).length=p.length+sizes (ks.take j):=by rw[rJ,oq]
   have:=ih t (AU hj) f w (p++jE (ks.take j) p.length) ak (by rw[hfl];omega);rw[this,hfl,acL hj,JR]
  have hloop:=ji (b:=M.xC (M.lU f))
   (t:=if ks=[] then .inl (oG w ks,(ks.length:Int),0,dG true p,k,op,x) else .inr (oG w ks,(ks.length:Int),(ks.length:Int),dG true (p++jE ks p.length),k,op,x,encI (ends ks p.length)))
   (λj=>if j=0 then .inl (oG w ks,(ks.length:Int),0,dG true p,k,op,x) else .inr (oG w ks,(ks.length:Int),(j:Int),dG true (p++jE (ks.take j) p.length),k,op,x,encI (ends (ks.take j) p.length))) ks.length
   (by
    intro j hj;obtain⟨t,ht⟩:∃t,ks[j]? =some t:=⟨ks[j],by simp⟩
    have hr:=hrec j t ht;have hst:=KL ht;have hp1:=t.size_pos;have hg:(oG w ks)[j]? =some (Dz w t):=by rw[aa0];simp[ht]
    have hc0:bM .i64 (Dz w t) 0=some t.kind:=by cases t;rfl
    have hc1:bM .i64 (Dz w t) 1=some t.op:=by cases t;rfl
    have hc2:cStr (Dz w t) 2=some t.text:=by cases t;rfl
    have hc3:NP 5 (Dz w t) 3=some (oG w t.kids):=by cases t;rfl
    have hc4:bM .i64 (Dz w t) 4=some 0:=by cases t;rfl
    have hfl:(dG true (p++jE (ks.take (j+1)) p.length)).length=p.length+sizes (ks.take j)+t.size:=by rw[jy,rJ,oq,fV ht,jd,sizes,sizes];omega
    rw[if_neg (show¬j+1=0 by omega),aeV ht]
    by_cases h0:j=0
    ·subst h0;rw[if_pos rfl];have hi:idx (oG w ks) 0=some (Dz w t):=by have:=bC (oG w ks) 0;rw[pU] at this;rw[this,hg]
     have hr0:M.lU f t.kind t.op t.text (oG w t.kids) 0 (dG true p)=some (dG true (p++jE (ks.take (0+1)) p.length)):=by rw[<-hr];simp[jE]
     simp only[jU,M.xC,M.sV,hi,ah,hc0,hc1,hc2,hc3,hc4,hr0,hfl];rw[zdt ak,aK,aB ak ak,aB ak ak];rfl
    ·rw[if_neg h0];simp only[jU,M.xC,M.sV,bC,hg,ah,hc0,hc1,hc2,hc3,hc4,hr,hfl,bf,eH,VF,JU];rw[zdt ak,aK,aS ak,aK,aS ak,aK,aB ak ak,aB ak ak];simp[encI])
   (by
    by_cases h0:ks.length=0
    ·have he:ks=[]:=List.length_eq_zero_iff.1 h0;rw[if_pos h0,if_pos he];simp only[jU,M.xC,M.sV];rw[rH ak,bg]
    ·have he:¬ks=[]:=λe=>h0 (by rw[e];rfl)
     rw[if_neg h0,if_neg he,List.take_length];simp only[jU,M.xC,M.sV];rw[rH ak,bg]) 0 (Nat.zero_le _)
  rw[if_pos rfl] at hloop;rw[M.OD,hloop,ah]
  by_cases he:ks=[]
  ·rw[if_pos he];subst he;simp only[rO,jy,JU];rw[aS ak,aK,aS ak,aK,RP];rfl
  ·rw[if_neg he];simp only[rO,letE,jy,rJ,oq,JU,zB,aK];rw[aS ak,aK,aS ak,aK,Tn.flat,<-JR];simp only[RP];rfl
def acN{a b:Int×Int}(c:Bool)(ha:(1<=a.1/\a.1<=14)/\1<=a.2/\a.2<=14)(hb:(1<=b.1/\b.1<=14)/\1<=b.2/\b.2<=14):(1<=(bif c then a else b).1/\(bif c then a else b).1<=14)/\1<=(bif c then a else b).2/\(bif c then a else b).2<=14:=by cases c<;>assumption
def arj(op:Int):(1<=(sides op).1/\(sides op).1<=14)/\1<=(sides op).2/\(sides op).2<=14:=by unfold sides;exact acN _ (by decide) (acN _ (by decide) (acN _ (by decide) (acN _ (by decide) (acN _ (by decide) (acN _ (by decide) (acN _ (by decide) (by decide)))))))
def aou(k op:Int)(j:Nat):1<=Y0 k op j/\Y0 k op j<=14:=by have h:=arj op;unfold Y0;exact NJ _ (NJ _ (by decide) (by decide)) (NJ _ (NJ _ (by decide) (by decide)) (NJ _ (by decide) (NJ _ (by decide) (NJ _ (NJ _ h.1 h.2) (by decide)))))
def xI{k op:Int}{n j:Nat}{p:Ps}(hp:nX p=true)(hj:j<n)(hl:lvl k op≠0):nX (dO k op n j p)=true:=by
 have h1:Nat.blt j n=true:=by rw[Nat.blt_eq];exact hj
 have h2:(lvl k op==0)=false:=by simpa using hl
 unfold dO;rw[hp,h1,h2];simp only[zaN,Bool.or_false,bg];cases(lvl k op==15||(k==13 && Nat.blt 1 n)) with
 |true=>rfl
 |false=>
  have hr:=aou k op j;simp only[bg,nX];rw[zdt hr.1,zdt (show Y0 k op j<=15 by omega)]
  by_cases h6:k=6
  ·subst h6;rfl
  ·have:(k==6)=false:=by simpa using h6
   rw[this];rfl
def aav{k op:Int}{n:Nat}{p q:Ps}(h:∀j,j<n->dO k op n j p=dO k op n j q):∀(ts:List Tn) (j:Nat),j+ts.length=n->jL k op n p ts j=jL k op n q ts j
 |[],_,_=>by rw[jL,jL]
 |t::ts,j,hj=>by rw[mQ] at hj;rw[jL,jL,h j ak,aav h ts (j+1) ak]
def afZ{k op:Int}{n:Nat}{p q:Ps}(h:∀j,j<n->dO k op n j p=dO k op n j q):∀(ts:List Tn) (j:Nat),j+ts.length=n->pG k op n p ts j=pG k op n q ts j
 |[],_,_=>by rw[pG,pG]
 |t::ts,j,hj=>by rw[mQ] at hj;rw[pG,pG,h j ak,afZ h ts (j+1) ak]
def KR{k op:Int}{n j:Nat}{p:Ps}(hp:nX p=true)(hj:j<n)(hl:lvl k op=15):dO k op n j p=.top:=by
 have h1:Nat.blt j n=true:=by rw[Nat.blt_eq];exact hj
 unfold dO;rw[hp,h1,hl];rfl
def Y3{k op:Int}(h:13<=lvl k op)(he:1<=k/\k<=15):lvl k op=15\/k=6\/k=9\/k=10:=by
 have hk:k=1\/k=2\/k=3\/k=4\/k=5\/k=6\/k=7\/k=8\/k=9\/k=10\/k=11\/k=12\/k=13\/k=14\/k=15:=ak;rcases hk with rfl|rfl|rfl|rfl|rfl|rfl|rfl|rfl|rfl|rfl|rfl|rfl|rfl|rfl|rfl
 all_goals first
  |(left;rfl)
  |(right;simp;done)
  |(exfalso;have h2:=(ajK op).2;have h3:lvl 12 op=AV op:=rfl;omega)
  |(exfalso;revert h;simp[lvl];done)
def aov{k op:Int}(h:k=1\/k=5\/k=6):13<=lvl k op/\(1<=k/\k<=15):=by rcases h with rfl|rfl|rfl<;>simp[lvl]
def af0{k op:Int}{a b c:Bool}{i j:Bool}(hl:lvl k op≠0):fits k op ⟨14,true,a,b,false⟩=fits k op ⟨14,true,i,j,false⟩:=by
 have e:∀a b,fits k op ⟨14,true,a,b,false⟩=(k==9||decide (14<=lvl k op)):=by
  intro a b;have h2:(lvl k op==0)=false:=by simpa using hl
  unfold fits;rw[h2,show nX ⟨14,true,a,b,false⟩=true from rfl];simp only[zaN,Bool.or_false,bg,Bool.false_and,Bool.true_and]
  by_cases h13:k=13
  ·subst h13;have:lvl 13 op=5:=rfl;rw[this];cases a<;>cases b<;>rfl
  ·have e13:(k==13)=false:=by simpa using h13
   rw[e13,Bool.and_false,bg]
   by_cases h12:k=12/\op=62
   ·obtain⟨rfl,rfl⟩:=h12;cases b<;>rfl
   ·have e12:(k==12 && op==62)=false:=by rw[Bool.and_eq_false_iff,II,II];omega
    rw[e12,Bool.and_false,bg]
 rw[e,e]
def atA(t:Tn):(BA t)->13<=lvl t.kind t.op->(WJ t)->∀p q,nX p=true->nX q=true->xH t p=xH t q:=by
 refine Tn.ind (P:=λt=>(BA t)->13<=lvl t.kind t.op->(WJ t)->∀p q,nX p=true->nX q=true->xH t p=xH t q) ?_ t;intro k op x y ks ih hok hl he p q hp hq;simp only[Tn.kind,Tn.op] at hl;simp only[WJ,Tn.kind] at he;rw[xH,xH];congr 1;rcases Y3 hl he with h|h
 ·exact aav (λj hj=>by rw[KR hp hj h,KR hq hj h]) ks 0 ak
 ·have hn:ks.length=1:=(NI hok).one ak;obtain⟨u,rfl⟩:=zlo.1 hn;obtain⟨hue,huo⟩:=abH hok he (i:=0) (t:=u) rfl;obtain⟨huc,_⟩:=Ej hok (i:=0) (t:=u) rfl;have hlu:1<=lvl u.kind u.op/\lvl u.kind u.op<=15:=by cases u;exact Xr hue (NI huo)
  have hlk:lvl k op≠0:=ak;have kp:=xI (n:=[u].length) (j:=0) hp (by simp) hlk;have kq:=xI (n:=[u].length) (j:=0) hq (by simp) hlk;rw[jL,jL,jL,jL];congr 1;rcases h with rfl|h
  ·have e1:∀r:Ps,nX r=true->dO 6 op [u].length 0 r=⟨14,true,r.tV,r.tX,false⟩:=by intro r hr;unfold dO;rw[hr];rfl
   rw[e1 p hp] at kp|-;rw[e1 q hq] at kq|-;have ht:qH 6 0=false:=rfl;rw[ht,Bool.false_or,Bool.false_or,af0 (c:=false) (i:=q.tV) (j:=q.tX) ak];cases hf:fits u.kind u.op ⟨14,true,q.tV,q.tX,false⟩ with
   |false=>rfl
   |true=>
    have aKI:13<=lvl u.kind u.op:=by
     unfold fits at hf;revert hf;cases(!(nX ⟨14,true,q.tV,q.tX,false⟩)||lvl u.kind u.op==0)<;>cases(q.tV && u.kind==13)<;>cases(q.tX &&(u.kind==12 && u.op==62))<;>simp;intro hf;rcases hf with h9|h14
     ·rw[h9];exact(show(13:Int)<=13 by omega)
     ·omega
    rw[aK,aK];exact ih u (by simp) huo aKI hue _ _ kp kq
  ·have ht:qH k 0=true:=by rcases h with rfl|rfl<;>rfl
   rw[ht,Bool.true_or,aK,Bool.true_or,aK];have hc6:cls k op [u].length 0=6:=by unfold cls;rw[if_pos ak]
   rw[hc6] at huc;exact ih u (by simp) huo (aov huc).1 hue _ _ kp kq
def atB(t:Tn):(BA t)->13<=lvl t.kind t.op->(WJ t)->∀p q,nX p=true->nX q=true->oV t p=oV t q:=by
 refine Tn.ind (P:=λt=>(BA t)->13<=lvl t.kind t.op->(WJ t)->∀p q,nX p=true->nX q=true->oV t p=oV t q) ?_ t;intro k op x y ks ih hok hl he p q hp hq;simp only[Tn.kind,Tn.op] at hl;simp only[WJ,Tn.kind] at he;have hT:jL k op ks.length p ks 0=jL k op ks.length q ks 0\/k=6\/k=9\/k=10:=by
  rcases Y3 hl he with h|h
  ·exact .inl (aav (λj hj=>by rw[KR hp hj h,KR hq hj h]) ks 0 ak)
  ·exact .inr h
 rw[oV,oV];have hg:∀g g' L,k≠11->Zu k op ks.length x g L=Zu k op ks.length x g' L:=by
  intro g g' L h11;have:(k==11)=false:=by simpa using h11
  unfold Zu;rw[this];rfl
 have h11:k≠11:=by
  rcases Y3 hl he with h|h
  ·rintro rfl;exact absurd h (by change¬(11:Int)=15;decide)
  ·omega
 rw[hg _ (amG op (jL k op ks.length q ks 0)) _ h11];congr 1;rcases Y3 hl he with h|h
 ·exact afZ (λj hj=>by rw[KR hp hj h,KR hq hj h]) ks 0 ak
 ·have hn:ks.length=1:=(NI hok).one ak;obtain⟨u,rfl⟩:=zlo.1 hn;obtain⟨hue,huo⟩:=abH hok he (i:=0) (t:=u) rfl;obtain⟨huc,_⟩:=Ej hok (i:=0) (t:=u) rfl;have hlu:1<=lvl u.kind u.op/\lvl u.kind u.op<=15:=by cases u;exact Xr hue (NI huo)
  have hlk:lvl k op≠0:=ak;have kp:=xI (n:=[u].length) (j:=0) hp (by simp) hlk;have kq:=xI (n:=[u].length) (j:=0) hq (by simp) hlk;rw[pG,pG,pG,pG];congr 1;rcases h with rfl|h
  ·have e1:∀r:Ps,nX r=true->dO 6 op [u].length 0 r=⟨14,true,r.tV,r.tX,false⟩:=by intro r hr;unfold dO;rw[hr];rfl
   rw[e1 p hp] at kp|-;rw[e1 q hq] at kq|-;have ht:qH 6 0=false:=rfl;rw[ht,Bool.false_or,Bool.false_or,af0 (c:=false) (i:=q.tV) (j:=q.tX) ak];cases hf:fits u.kind u.op ⟨14,true,q.tV,q.tX,false⟩ with
   |false=>rfl
   |true=>
    have aKI:13<=lvl u.kind u.op:=by
     unfold fits at hf;revert hf;cases(!(nX ⟨14,true,q.tV,q.tX,false⟩)||lvl u.kind u.op==0)<;>cases(q.tV && u.kind==13)<;>cases(q.tX &&(u.kind==12 && u.op==62))<;>simp;intro hf;rcases hf with h9|h14
     ·rw[h9];exact(show(13:Int)<=13 by omega)
     ·omega
    rw[aK,aK];exact ih u (by simp) huo aKI hue _ _ kp kq
  ·have ht:qH k 0=true:=by rcases h with rfl|rfl<;>rfl
   rw[ht,Bool.true_or,aK,Bool.true_or,aK];have hc6:cls k op [u].length 0=6:=by unfold cls;rw[if_pos ak]
   rw[hc6] at huc;exact ih u (by simp) huo (aov huc).1 hue _ _ kp kq
def acO{α:Type}(a b:Bool)(x y:α):(bif a||b then x else y)=bif a then x else bif b then x else y:=by cases a<;>rfl
def aow{α:Type}(a b:Bool)(x y:α):(bif a && b then x else y)=bif a then(bif b then x else y) else y:=by cases a<;>rfl
def Yn{α:Type}(a:Bool)(x y:α):some (bif a then x else y)=bif a then some x else some y:=by cases a<;>rfl
def Y4(op:Int):M.ou op=some (AV op)/\M.vW op=some (AV op):=by simp only[M.ou,M.Ku,M.vW,M.Q7,AV,acO,Yn];constructor<;>first|trivial|rfl
def Y5(k op:Int)(x y:aA)(r:au):M.oZ k op x y r=some (lvl k op)/\M.mG k op x y r=some (lvl k op):=by simp only[M.oZ,M.QA,M.mG,M.Q8,lvl,acO,Yn,(Y4 op).1,(Y4 op).2,ah];constructor<;>first|trivial|rfl
def adU(p:Ps):M.DY p.level p.nP p.tV p.tX p.lZ=some (nX p)/\M.D7 p.level p.nP p.tV p.tX p.lZ=some (nX p):=by simp only[M.DY,M.Vs,M.D7,M.Vx,gu,dM,ah,nX,ge_iff_le];cases(decide (1<=p.level) && decide (p.level<=15))<;>cases p.nP<;>exact⟨rfl,rfl⟩
def Em:M.xZ=some (1,false,false,false,false)/\M.jW=some (1,false,false,false,false):=⟨rfl,rfl⟩
def aGm(k op:Int)(p:Ps):fits k op p=bif !(nX p) then false else bif lvl k op==0 then false else bif p.tV && k==13 then false else bif p.tX &&(k==12 && op==62) then false else
  bif p.lZ &&(k==11||(k==9||k==4)) then false else bif p.nP && k==9 then true else decide (p.level<=lvl k op):=by
 unfold fits;rw[acO];cases(p.nP && k==9)<;>rfl
def ahw(k op:Int)(x y:aA)(r:au)(p:Ps):M.IL k op x y r p.level p.nP p.tV p.tX p.lZ=some (fits k op p)/\M.IQ k op x y r p.level p.nP p.tV p.tX p.lZ=some (fits k op p):=by rw[aGm];simp only[M.IL,M.Xk,M.CO,M.IQ,M.Xn,M.Di,(Y5 k op x y r).1,(Y5 k op x y r).2,(adU p).1,(adU p).2,ah,acO,aow,Yn];constructor<;>first|trivial|rfl
def nb0(j:Nat):((j:Int)==0)=Nat.beq j 0:=by cases j<;>rfl
def nb1(j:Nat):((j:Int)==1)=Nat.beq j 1:=by
 rcases j with _|_|j
 ·rfl
 ·rfl
 ·rw[II.2 ak];rfl
def gt0(j:Nat):decide ((j:Int)>0)= !(Nat.beq j 0):=by
 cases j with
 |zero=>rfl
 |succ j=>rw[zdt ak];rfl
def ark(op:Int)(j:Nat):M.y5 op (j:Int)=some (bif Nat.beq j 0 then(sides op).1 else(sides op).2):=by simp only[M.y5,M.Ox,(Y4 op).1,ah,nb0,sides];cases AV op==3<;>cases AV op==4<;>cases AV op==6<;>cases AV op==7<;>cases AV op==8<;>cases AV op==9<;>cases AV op==10<;>cases Nat.beq j 0<;>rfl
def atC(op:Int):M.yN op=some (sides op):=by simp only[M.yN,M.Rf,(Y4 op).2,ah,sides,Yn]
def arl(k op:Int)(x y:aA)(r:au)(j:Nat):M.y7 k op x y r (j:Int)=some (Y0 k op j):=by simp only[M.y7,M.Oy,ark,ah,Y0,gt0];cases k==15<;>cases k==14<;>cases k==13<;>cases k==11<;>cases k==12<;>cases Nat.beq j 0<;>rfl
def Ps.JV(p:Ps):Int×Bool×Bool×Bool×Bool:=(p.level,p.nP,p.tV,p.tX,p.lZ)
def auY(j n:Nat)(h:n<=1048576):(decide ((j:Int)>=0) && decide ((j:Int)<=i64.wrap ((n:Int) - 1)))=Nat.blt j n:=by
 rw[aB ak ak];cases hb:Nat.blt j n with
 |true=>rw[Nat.blt_eq] at hb;rw[zdt ak,zdt ak];rfl
 |false=>
  have:¬j<n:=by rw[<-Nat.blt_eq,hb];simp
  rw[rH (show¬(j:Int)<=(n:Int) - 1 by omega),Bool.and_false]
def many(n:Nat):decide ((n:Int)>1)=Nat.blt 1 n:=by
 cases hb:Nat.blt 1 n with
 |true=>rw[Nat.blt_eq] at hb;exact zdt ak
 |false=>
  have:¬1<n:=by rw[<-Nat.blt_eq,hb];simp
  exact rH ak
def aaw(k op:Int)(x y:aA)(r:au)(j:Nat)(p:Ps)(hr:r.length<=1048576):M.y8 k op x y r (j:Int) p.level p.nP p.tV p.tX p.lZ=some (dO k op r.length j p).JV:=by
 simp only[M.y8,M.TQ,M.QC,(adU p).1,dM,(Y5 k op x y r).1,arl,Em.1,ah,auY j r.length hr,many,nb0,nb1,dO];cases nX p with
 |false=>rfl
 |true=>
  cases Nat.blt j r.length with
  |false=>rfl
  |true=>
   cases hz:(lvl k op==0) with
   |true=>rfl
   |false=>
    cases h15:(lvl k op==15) with
    |true=>rfl
    |false=>
     simp only[zaN,bg,Bool.false_or];have fin:∀z:Int,(bif k==11 then some (z,k==6,p.tV,p.tX,false) else bif k==9 then some (z,k==6,p.tV,p.tX,false) else bif k==10 then some (z,k==6,p.tV,p.tX,false) else bif k==6 then some (z,k==6,p.tV,p.tX,false) else
       bif Nat.beq j 0 then(bif p.lZ then some (z,k==6,p.tV,p.tX,true) else bif Nat.beq j 1 then(bif k==12 then some (z,k==6,p.tV,p.tX,op==99) else some (z,k==6,p.tV,p.tX,false)) else some (z,k==6,p.tV,p.tX,false)) else
       bif Nat.beq j 1 then(bif k==12 then some (z,k==6,p.tV,p.tX,op==99) else some (z,k==6,p.tV,p.tX,false)) else some (z,k==6,p.tV,p.tX,false))=
       some (z,k==6,p.tV,p.tX,bif k==11||(k==9||(k==10||k==6)) then false else(Nat.beq j 0 && p.lZ)||(Nat.beq j 1 &&(k==12 && op==99))):=by
      intro z;cases h11:(k==11) with
      |true=>rfl
      |false=>cases h9:(k==9) with
       |true=>rfl
       |false=>cases h10:(k==10) with
        |true=>rfl
        |false=>cases h6:(k==6) with
         |true=>rfl
         |false=>simp only[bg,Bool.or_false];cases Nat.beq j 0<;>cases p.lZ<;>cases Nat.beq j 1<;>cases(k==12)<;>simp
     cases h13:(k==13) with
     |true=>
      cases Nat.blt 1 r.length with
      |true=>rfl
      |false=>exact fin _
     |false=>exact fin _
def af2(k op:Int)(x y:aA)(r:au)(j:Nat):M.rW k op x y r (j:Int)=some (qH k j):=by simp only[M.rW,M.Oz,nb0,qH];cases Nat.beq j 0<;>cases k==9<;>cases k==10<;>rfl
def nH(k:Int)(hk:I64 k):M.lG k=some (k,spell k,0)/\M.gI k=some (k,spell k,0):=by simp only[M.lG,M.Xl,M.gI,M.Uh,(oN k hk).1,(oN k hk).2,ah];constructor<;>first|trivial|rfl
def opF(s:aA):List (aA)->Nat->Int->Nat->Int×Nat
 |[],_,k,m=>(k,m)
 |g::l,i,k,m=>bif Nat.blt m g.length && g.isPrefixOf s then opF s l (i+1) (30+(i:Int)) g.length else opF s l (i+1) k m
def ahx(s:aA):∀(l:List (aA)) (i:Nat) (k:Int) (m:Nat),(opF s l i k m).2=ajH s l m
 |[],_,_,_=>rfl
 |g::l,i,k,m=>by
  rw[opF,ajH];cases(Nat.blt m g.length && g.isPrefixOf s) with
  |true=>rw[aK,aK,ahx s l]
  |false=>rw[bg,bg,ahx s l]
def auZ(s:aA)(L:List (aA)){b:Int×Int×Int->Option (Int×Int×Int⊕Int×Int×Int)}
  (hb:∀(i:Nat) g k (m:Nat),L[i]? =some g->m<=2->b (k,(m:Int),(i:Int))=some (.inl (bif Nat.blt m g.length && g.isPrefixOf s then(30+(i:Int),(g.length:Int),(i:Int)+1) else(k,(m:Int),(i:Int)+1))))
  (he:∀k m,b (k,m,(L.length:Int))=some (.inr (k,m,(L.length:Int)))) (h2:∀g,g∈L->g.length<=2):
  dU b (0,0,0)=some ((opF s L 0 0 0).1,((opF s L 0 0 0).2:Int),(L.length:Int)):=by
 have key:∀(t:List (aA)) (i:Nat) (k:Int) (m:Nat),L.drop i=t->i<=L.length->m<=2->dU b (k,(m:Int),(i:Int))=some ((opF s t i k m).1,((opF s t i k m).2:Int),(L.length:Int)):=by
  intro t;induction t with
  |nil=>
   intro i k m hd hi hm;have:i=L.length:=by have:=congrArg List.length hd;simp at this;omega
   subst this;exact bP (he _ _)
  |cons g t ih=>
   intro i k m hd hi hm;have hx:L[i]? =some g:=by
    have:(L.drop i)[0]? =some g:=by rw[hd];rfl
    simpa using this
   have hlt:i<L.length:=(PN.1 hx).1;have hd':L.drop (i+1)=t:=by rw[<-List.drop_drop,hd];rfl
   have hs:=hb i g k m hx hm;have hg:=h2 g (AU hx);rw[opF];cases hc:(Nat.blt m g.length && g.isPrefixOf s) with
   |true=>rw[hc,aK] at hs;rw[dN hs,aK,show(i:Int)+1=((i+1:Nat):Int) by omega,ih (i+1) _ _ hd' hlt hg]
   |false=>rw[hc,bg] at hs;rw[dN hs,bg,show(i:Int)+1=((i+1:Nat):Int) by omega,ih (i+1) _ _ hd' hlt hm]
 have:=key L 0 0 0 rfl (Nat.zero_le _) ak;rw[pU] at this;exact this
def awF{α:Type}(s:List α)(n:Nat)(h:n<=s.length):cut s 0 (n:Int)=some (s.take n):=by unfold cut;rw[zdt ak,zdt ak,zdt ak];simp
def pre_eq:∀(g s:aA),g.length<=s.length->(s.take g.length==g)=g.isPrefixOf s
 |[],s,_=>by simp
 |x::g,[],h=>by simp at h
 |x::g,y::s,h=>by
  have hr:=pre_eq g s (by simpa using h);have hxy:(y==x)=(x==y):=by rw[Bool.eq_iff_iff,beq_iff_eq,beq_iff_eq];exact⟨Eq.symm,Eq.symm⟩
  rw[List.isPrefixOf,mQ,List.take_succ_cons,<-hr,<-hxy];rfl
def amJ(g s:aA)(h:s.length<g.length):g.isPrefixOf s=false:=by
 cases hp:g.isPrefixOf s with
 |false=>rfl
 |true=>have:=(List.isPrefixOf_iff_prefix.1 hp).length_le;omega
def aox(s g:aA):M.strings_HasPrefix s g=some (g.isPrefixOf s):=by
 simp only[M.strings_HasPrefix,M.Ez,M.jk,M.oC]
 by_cases h:g.length<=s.length
 ·rw[zdt ak,aK,awF s g.length h,ah,ah,pre_eq g s h]
 ·rw[rH ak,bg,ah,amJ g s ak]
def aA5:∀g,g∈XH->g.length<=2:=by decide+kernel
def aa1(m n:Nat):decide ((n:Int)>(m:Int))=Nat.blt m n:=by
 cases hb:Nat.blt m n with
 |true=>rw[Nat.blt_eq] at hb;exact zdt ak
 |false=>
  have:¬m<n:=by rw[<-Nat.blt_eq,hb];simp
  exact rH ak
def aoy(s:aA)(h0:s≠[])(hs:s.length<=4000000):M.Lh s 0=some ((opF s XH 0 0 0).1,((ajH s XH 0:Nat):Int)):=by
 have hl:XH.length=39:=rfl;have hn:1<=s.length:=by cases s with|nil=>exact absurd rfl h0|cons=>simp
 simp only[M.Lh,M.Xm,M.Vu,dM,ah];rw[aB ak ak,zdt ak,zdt ak,Bool.and_self,zaN,bg];have hc:=awF s s.length (zaO _);rw[List.take_length] at hc;rw[auZ s XH (λi g k m hg hm=> ?_) (λk m=> ?_) aA5,ah,ahx]
 ·have hi:=(PN.1 hg).1;rw[hl] at hi;have hsc:=auT i hi;simp only[V9,hg] at hsc;simp only[M.aai,M.QD,VO,hsc,ah,hc,aox,aa1];rw[zdt ak,zdt ak,aB ak ak,aB ak ak];cases Nat.blt m g.length<;>cases g.isPrefixOf s<;>rfl
 ·rw[hl];rfl
def arn{s:aA}(h:s≠[])(hl:s.length<=2000000):∃c,idx s (i64.wrap ((s.length:Int) - 1))=some c/\lastB s=(c.toNat:Int):=by
 have hn:1<=s.length:=by cases s with|nil=>exact absurd rfl h|cons=>simp
 obtain⟨c,hc⟩:∃c,s[s.length - 1]? =some c:=⟨s[s.length - 1],by simp⟩
 refine⟨c, ?_, ?_⟩
 ·rw[aB ak ak,show((s.length:Int) - 1)=((s.length - 1:Nat):Int) by omega,bC,hc]
 ·rw[lastB,List.getLast?_eq_getElem?,hc]
def au0{s:aA}(h:s≠[]):∃c,idx s 0=some c/\atv s=(c.toNat:Int):=by
 cases s with
 |nil=>exact absurd rfl h
 |cons c s=>exact⟨c,rfl,rfl⟩
def au1(c:UInt8):i64.wrap (c.toNat:Int)=(c.toNat:Int):=by have:=aqY c;exact aB ak ak
def af4(a b:Tk):KN a b=bif a.text==[] then false else bif b.text==[] then false else bif a.kind==2 then false else bif a.kind==1 then false else bif b.kind==1 then false else
 bif isW (lastB a.text) && isW (atv b.text) then true else
 bif a.kind==3 &&(isW (atv b.text)||atv b.text==46) then true else
 bif a.kind==6 && b.kind==32 then true else
 bif !(decide (30<=a.kind) && decide (a.kind<=68)) then false else Nat.blt a.text.length (ajH (a.text++b.text) XH 0):=by
 unfold KN;simp only[acO]
def ae2(a b:Tk)(ha:a.text.length<=2000000)(hb:b.text.length<=2000000):M.vP a.kind a.text a.at_ b.kind b.text b.at_=some (KN a b):=by
 rw[af4];simp only[M.vP,M.OA,M.zD]
 by_cases h1:a.text=[]
 ·rw[show(a.text==[])=true by simpa using h1,aK,aK]
 ·rw[show(a.text==[])=false by simpa using h1,bg,bg]
  by_cases h2:b.text=[]
  ·rw[show(b.text==[])=true by simpa using h2,aK,aK]
  ·obtain⟨c,hc,hc'⟩:=arn h1 ha;obtain⟨d,hd,hd'⟩:=au0 h2;have hop:=aoy (a.text++b.text) (by simp[h1]) (by simp only[rJ];omega);rw[show(b.text==[])=false by simpa using h2,bg,bg,hc',hd'];simp only[hc,hd,ah,au1,Ul,M.nV,M.CB,dM,hop,aa1,ge_iff_le,acO,aow,Yn,aS (show a.text.length+b.text.length<=9223372036854775807 by omega),aK]
def XJ{α:Type}:List (List α)->Nat
 |[]=>0
 |x::l=>x.length+XJ l
def au2{α:Type}:∀(L:List (List α)) (j:Nat),(Dv L j).length<=XJ L
 |[],j=>by simp[Dv,XJ]
 |x::l,0=>by simp[Dv,XJ]
 |x::l,j+1=>by have:=au2 l j;simp only[Dv,List.getElem?_cons_succ,XJ] at this|-;omega
def aax:∀(L:List (List Tk)) (b:Bool),(Ja b L).length<=XJ L+L.length
 |[],b=>by simp[Ja,XJ]
 |x::l,b=>by have:=aax l false;cases b<;>simp only[Ja,XJ,aK,bg,rJ,mQ]<;>omega
def aGn{α:Type}:∀(L:List (List α)),(Dv L 0).length+((Dv L 1).length+(Dv L 2).length)<=XJ L
 |[]=>by simp[Dv,XJ]
 |[x]=>by simp[Dv,XJ]
 |[x,y]=>by simp[Dv,XJ]
 |x::y::z::l=>by simp[Dv,XJ]
def JK{α:Type}{a b:List α}{N:Nat}(c:Bool)(ha:a.length<=N)(hb:b.length<=N):(bif c then a else b).length<=N:=by cases c<;>assumption
def aA6(k op:Int)(n:Nat)(x:aA)(L:List (List Tk)):(JO k op n x L).length<=XJ L+L.length+4:=by
 have h1:=aax L true;have h2:=au2 L 0;have h3:=aGn L;have h4:(bif Nat.blt 1 n then tok 32::(Ja true L++[tok 33]) else Dv L 0:List Tk).length<=XJ L+L.length+2:=JK _ (by simp only[mQ,rJ,uH];omega) ak;have h5:(bif op==99 then[] else[tok op]:List Tk).length<=1:=JK _ (by simp) (by simp);unfold JO;refine JK _ ?_ (JK _ ?_ (JK _ ?_ (JK _ ?_ (JK _ ?_ (JK _ ?_ (JK _ ?_ (JK _ ?_ (JK _ ?_ (JK _ ?_ (JK _ ?_ (JK _ ?_ ?_)))))))))))
 all_goals(simp only[mQ,rJ,uH];omega)
def MV(k op:Int)(n:Nat)(p:Ps):∀(ts:List Tn) (j:Nat),(jL k op n p ts j).length=ts.length
 |[],j=>by rw[jL];rfl
 |t::ts,j=>by rw[jL,mQ,MV k op n p ts (j+1),mQ]
def wE(k op:Int)(n:Nat)(p:Ps)(j:Nat)(u:Tn):List Tk:=bif qH k j||fits u.kind u.op (dO k op n j p) then xH u (dO k op n j p) else tok 32::(xH u .top++[tok 33])
def amK(k op:Int)(n:Nat)(p:Ps):∀{ts:List Tn} {i j:Nat} {u:Tn},ts[j]? =some u->(jL k op n p ts i)[j]? =some (wE k op n p (i+j) u)
 |[],_,_,_,h=>by simp at h
 |t::ts,i,0,u,h=>by cases h;rw[jL,List.getElem?_cons_zero];rfl
 |t::ts,i,j+1,u,h=>by rw[List.getElem?_cons_succ] at h;rw[jL,List.getElem?_cons_succ,amK k op n p h,show i+1+j=i+(j+1) by omega]
def RQ{k op:Int}{n:Nat}{p:Ps}{j:Nat}{u:Tn}(h:∀q,(xH u q).length+4<=8 * u.size):(wE k op n p j u).length+2<=8 * u.size:=by
 unfold wE;cases(qH k j||fits u.kind u.op (dO k op n j p)) with
 |true=>have:=h (dO k op n j p);rw[aK];omega
 |false=>have:=h .top;simp only[bg,mQ,rJ,uH];omega
def aa2{k op:Int}{n:Nat}{p:Ps}:∀{ts:List Tn} {j:Nat},(∀u,u∈ts->∀q,(xH u q).length+4<=8 * u.size)->XJ (jL k op n p ts j)+2 * ts.length<=8 * sizes ts
 |[],j,_=>by rw[jL,XJ,sizes];simp
 |t::ts,j,h=>by
  have h1:=RQ (k:=k) (op:=op) (n:=n) (p:=p) (j:=j) (h t zmf);have h2:=aa2 (k:=k) (op:=op) (n:=n) (p:=p) (ts:=ts) (j:=j+1) λu hu=>h u (zmm _ hu)
  unfold wE at h1;rw[jL,XJ,sizes,mQ];omega
def rG(t:Tn):∀q,(xH t q).length+4<=8 * t.size:=by refine Tn.ind (P:=λt=>∀q,(xH t q).length+4<=8 * t.size) ?_ t;intro k op x y ks ih q;have h1:=aA6 k op ks.length x (jL k op ks.length q ks 0);have h2:=aa2 (k:=k) (op:=op) (n:=ks.length) (p:=q) (ts:=ks) (j:=0) ih;rw[MV] at h1;rw[xH,Tn.size];omega
def amL(t:Tn)(q:Ps):(abG t q).length+2<=8 * t.size:=by
 have h1:=rG t q;have h2:=rG t .top;unfold abG;cases fits t.kind t.op q with
 |true=>rw[aK];omega
 |false=>simp only[bg,mQ,rJ,uH];omega
@[simp] theorem dH(l:List Tk):ay (mV l)=true:=by simp only[ay,mV,List.all_map,List.all_eq_true];intro x _;rfl
def nR(a b:List Tk):mV (a++b)=mV a++mV b:=by simp[mV]
def NK(a toks:List Tk)(sp:au)(f:Bool)(hs:ay sp=true)(hl:toks.length+a.length<=1000000000):M.bT (mV a) (mV toks) sp f=some (mV (toks++a),sp,f):=by simp only[M.bT,M.G8,iT,<-nR,dH,hs,aK];rw[aS ak,aK,aS ak,aK]
def iota(n:Nat):List Int:=(List.range n).map fun(i:Nat)=>((i:Nat):Int)
def UE(n:Nat):(iota n).length=n:=by simp[iota]
def awG(n:Nat):iota (n+1)=iota n++[(n:Int)]:=by simp[iota,List.range_succ]
def ahy(k op:Int)(x y:aA)(rows:au)(h:rows.length<=1048576):M.kT k op x y rows=some (k,op,x,y,encI (iota rows.length)):=by
 obtain⟨n,hn⟩:∃n,n=rows.length:=⟨_,rfl⟩
 simp only[M.kT,M.LK];rw[<-hn] at h|-;have hloop:=ji (b:=M.uh)
  (t:=if n=0 then .inl ((n:Int),0,0,0,[],[],k,op,x,y) else .inr ((n:Int),(n:Int),0,0,[],[],k,op,x,y,encI (iota n)))
  (λj=>if j=0 then .inl ((n:Int),0,0,0,[],[],k,op,x,y) else .inr ((n:Int),(j:Int),0,0,[],[],k,op,x,y,encI (iota j))) n
  (by
   intro j hj;rw[if_neg (show¬j+1=0 by omega),awG]
   by_cases h0:j=0
   ·subst h0;rw[if_pos rfl];simp only[jU,M.uh,M.pJ];rw[zdt ak,aK];rfl
   ·rw[if_neg h0];simp only[jU,M.uh,M.pJ,bf,UE,JU];rw[zdt ak,aK,aS ak,aK,aS ak,aK,aB ak ak];simp[encI])
  (by
   by_cases h0:n=0
   ·simp only[if_pos h0];simp only[jU,M.uh,M.pJ];rw[rH ak,bg]
   ·simp only[if_neg h0];simp only[jU,M.uh,M.pJ];rw[rH ak,bg]) 0 (Nat.zero_le _)
 rw[if_pos rfl] at hloop;rw[M.Jp,hloop,ah]
 by_cases h0:n=0
 ·rw[if_pos h0,h0];rfl
 ·rw[if_neg h0];simp only[rO,letE,zB,aK]
def Wr(toks:List Tk)(sp:au)(N:Nat)(out:List Tk)(r:Option zaz):Prop:=
 ∃sp',r=some (mV (toks++out),sp',false)/\ay sp'=true/\sp'.length<=sp.length+N
def PT(u:Tn):Prop:=∀(w:Bool) (f:Nat) (p:Ps) (toks:List Tk) (sp:au),5 * u.size<=f->nX p=true->ay sp=true->toks.length+16 * u.size<=900000000->sp.length+u.size<=900000000->u.size<=1048576->
 Wr toks sp u.size (xH u p) (M.uq f u.kind u.op u.text u.other (fE w u.kids) p.level p.nP p.tV p.tX p.lZ (mV toks) sp false)
def au3{u:Tn}(h:u.size<=1048576)(w:Bool):(fE w u.kids).length<=1048576:=by have h1:=u.uf;have h2:=jr u.kids;rw[gY];omega
def yR(k:Int):([[D.int .i64 k,D.str (spell k),D.int .i64 0]]:au)=mV [tok k]:=rfl
def aKJ{u:Tn}(hP:PT u){w:Bool}{f:Nat}{p:Ps}{toks:List Tk}{sp:au}(hf:5 * u.size+1<=f)(hp:nX p=true)(hs:ay sp=true)(ht:toks.length+16 * u.size+1<=900000000)(hl:sp.length+u.size<=900000000)(hu:u.size<=1048576):
  Wr toks sp u.size (abG u p) (M.yh f u.kind u.op u.text u.other (fE w u.kids) p.level p.nP p.tV p.tX p.lZ (mV toks) sp false):=by
 obtain⟨g,rfl⟩:∃g,f=g+1:=⟨f - 1,ak⟩
 have hz:=u.size_pos;have hb:=rG u .top;rw[M.abg];simp only[M.um,M.wX,ahy u.kind u.op u.text u.other _ (au3 hu w),ah,(ahw u.kind u.op u.text u.other _ p).1,bg,Bool.not_not,abG];cases fits u.kind u.op p with
 |true=>obtain⟨sp',h1,h2,h3⟩:=hP w g p toks sp ak hp hs ak hl hu;simp only[aK,dH,hs,h1,ah,h2];exact⟨sp',rfl,h2,h3⟩
 |false=>obtain⟨sp',h1,h2,h3⟩:=hP w g .top (toks++[tok 32]) sp ak rfl hs (by rw[rJ,JU];omega) hl hu;have e1:=(nH 32 (by constructor<;>decide)).1;have e2:=(nH 33 (by constructor<;>decide)).1;have p1:=NK [tok 32] toks sp false hs (by simp;omega);have p2:=NK [tok 33] (toks++[tok 32]++xH u .top) sp' false h2 (by simp only[rJ,JU];omega);simp only[Ps.top] at h1 p2;simp only[bg,e1,e2,Em.1,ah,yR,dH,hs,aK,p1,h1,h2,p2];refine⟨sp', ?_,h2,h3⟩;simp[Ps.top]
def kJ(w:Bool)(u:Tn):bM .i64 (u.row w) 0=some u.kind/\bM .i64 (u.row w) 1=some u.op/\cStr (u.row w) 2=some u.text/\cStr (u.row w) 3=some u.other/\NP 5 (u.row w) 4=some (fE w u.kids):=by cases u;exact⟨rfl,rfl,rfl,rfl,rfl⟩
def F5(w:Bool){ks:List Tn}{j:Nat}{u:Tn}(hj:ks[j]? =some u):idx (fE w ks) (j:Int)=some (u.row w):=by rw[bC,X9];simp[hj]
section
variable {k op:Int} {x y:aA} {ks:List Tn} (ih:∀u,u∈ks->PT u)
include ih
theorem UF{w:Bool}{f:Nat}{p:Ps}{toks:List Tk}{sp:au}{j:Nat}{u:Tn}(hj:ks[j]? =some u)(hf:5 * u.size+2<=f)(hp:nX p=true)(hlv:lvl k op≠0)(hs:ay sp=true)(ht:toks.length+16 * u.size+1<=900000000)(hl:sp.length+u.size<=900000000)(hu:sizes ks<=1048575):
  Wr toks sp u.size (wE k op ks.length p j u) (M.lX f k op x y (fE w ks) (j:Int) p.level p.nP p.tV p.tX p.lZ (mV toks) sp false):=by
 obtain⟨g,rfl⟩:∃g,f=g+1:=⟨f - 1,ak⟩
 have hkl:=jr ks;have hju:=(PN.1 hj).1;have hus:=iP (AU hj);have hg:=F5 w hj;obtain⟨c0,c1,c2,c3,c4⟩:=kJ w u;have hn:=ahy k op x y (fE w ks) (by rw[gY];omega);rw[gY] at hn;have hkp:=aaw k op x y (encI (iota ks.length)) j p (by rw[bf,UE];omega);rw[bf,UE] at hkp;have hq:=xI (n:=ks.length) (j:=j) hp hju hlv;have e1:=ih u (AU hj);rw[M.acB];simp only[jU,M.uY,hn,ah,hg,c0,c1,c2,c3,c4,hkp,Ps.JV,af2,dH,hs,aK,wE];cases htg:qH k j with
 |true=>obtain⟨sp',h1,h2,h3⟩:=e1 w g (dO k op ks.length j p) toks sp ak hq hs ak hl ak;simp only[aK,Bool.true_or,h1,ah,dH,h2];exact⟨sp',rfl,h2,h3⟩
 |false=>obtain⟨sp',h1,h2,h3⟩:=aKJ e1 (w:=w) (f:=g) (p:=dO k op ks.length j p) (toks:=toks) (sp:=sp) ak hq hs ht hl ak;unfold abG at h1;simp only[bg,Bool.false_or,h1,ah,dH,h2,aK];exact⟨sp',rfl,h2,h3⟩
theorem ae3{w:Bool}{f:Nat}{p:Ps}{shut:Int}(hf:5 * sizes ks+2<=f)(hp:nX p=true)(hlv:lvl k op≠0)(hu:sizes ks<=1048575):∀(d j:Nat) (toks:List Tk) (sp:au),j+d=ks.length->ay sp=true->toks.length+16 * sizes (ks.drop j)+2<=900000000->sp.length+sizes (ks.drop j)<=900000000->
  ∃sp',M.lS (M.lX f) shut (ks.length:Int) k op x y (fE w ks) p.level p.nP p.tV p.tX p.lZ ((j:Int),false,mV toks,sp)=some ((ks.length:Int),false,mV (toks++Ja (Nat.beq j 0) ((jL k op ks.length p ks 0).drop j)),sp')/\ay sp'=true/\sp'.length<=sp.length+sizes (ks.drop j)
 |0,j,toks,sp,hj,hs,ht,hl=>by have hjn:j=ks.length:=ak;refine⟨sp, ?_,hs,ak⟩;have hd:(jL k op ks.length p ks 0).drop j=[]:=List.drop_eq_nil_iff.2 (by rw[MV];omega);rw[hd,Ja,List.append_nil,M.lS];apply bP;simp only[M.o8,M.o7];rw[rH ak,bg,hjn]
 |d+1,j,toks,sp,hj,hs,ht,hl=>by
  have hlt:j<ks.length:=ak;have hkl:=jr ks;obtain⟨u,hu'⟩:∃u,ks[j]? =some u:=⟨ks[j],by simp[hlt]⟩
  have hd1:ks.drop j=u::ks.drop (j+1):=by rw[List.drop_eq_getElem_cons hlt];rw[List.getElem?_eq_getElem hlt] at hu';rw[Option.some.inj hu']
  have hus:=iP (AU hu');have hz:=u.size_pos;have hb:=RQ (k:=k) (op:=op) (n:=ks.length) (p:=p) (j:=j) (rG u);have hdl:j<(jL k op ks.length p ks 0).length:=by rw[MV];exact hlt
  have hkd:(jL k op ks.length p ks 0).drop j=wE k op ks.length p j u::(jL k op ks.length p ks 0).drop (j+1):=by have hg:=amK k op ks.length p (i:=0) hu';rw[Nat.zero_add,List.getElem?_eq_getElem hdl] at hg;rw[List.drop_eq_getElem_cons hdl,Option.some.inj hg]
  rw[hd1,sizes] at ht hl|-;rw[hkd];have hw:i64.wrap ((j:Int)+1)=((j+1:Nat):Int):=by rw[aB ak ak];omega
  by_cases h0:j=0
  ·subst h0;obtain⟨sp1,a1,a2,a3⟩:=UF ih (w:=w) (f:=f) (p:=p) (toks:=toks) (sp:=sp) (x:=x) (y:=y) (op:=op) (k:=k) hu' ak hp hlv hs ak ak hu;obtain⟨sp2,b1,b2,b3⟩:=ae3 hf hp hlv hu d (0+1) (toks++wE k op ks.length p 0 u) sp1 ak a2 (by rw[rJ];omega) ak;have hstep:M.o8 (M.lX f) shut (ks.length:Int) k op x y (fE w ks) p.level p.nP p.tV p.tX p.lZ (((0:Nat):Int),false,mV toks,sp)=some (.inl (((0+1:Nat):Int),false,mV (toks++wE k op ks.length p 0 u),sp1)):=by simp only[M.o8,M.o7,dH,hs,aK];rw[zdt ak,aK,rH ak,bg,a1,ah,hw]
   refine⟨sp2, ?_,b2,ak⟩;rw[M.lS,dN hstep];rw[M.lS] at b1;have z0:Nat.beq 0 0=true:=rfl;have z1:Nat.beq (0+1) 0=false:=rfl;rw[b1,z0,z1,Ja,aK];simp
  ·have e1:=(nH 36 (by constructor<;>decide)).1;have p1:=NK [tok 36] toks sp false hs (by simp;omega);obtain⟨sp1,a1,a2,a3⟩:=UF ih (w:=w) (f:=f) (p:=p) (toks:=toks++[tok 36]) (sp:=sp) (x:=x) (y:=y) (op:=op) (k:=k) hu' ak hp hlv hs (by rw[rJ,JU];omega) ak hu;obtain⟨sp2,b1,b2,b3⟩:=ae3 hf hp hlv hu d (j+1) (toks++[tok 36]++wE k op ks.length p j u) sp1 ak a2 (by rw[rJ,rJ,JU];omega) ak;have hstep:M.o8 (M.lX f) shut (ks.length:Int) k op x y (fE w ks) p.level p.nP p.tV p.tX p.lZ ((j:Int),false,mV toks,sp)=some (.inl (((j+1:Nat):Int),false,mV (toks++[tok 36]++wE k op ks.length p j u),sp1)):=by simp only[M.o8,M.o7,e1,ah,yR,dH,hs,aK,p1];rw[zdt ak,aK,zdt ak,aK,a1,ah,hw]
   refine⟨sp2, ?_,b2,ak⟩;rw[M.lS,dN hstep];rw[M.lS] at b1;rw[b1];have hb0:Nat.beq j 0=false:=by cases j with
    |zero=>exact absurd rfl h0
    |succ j=>rfl
   have hb1:Nat.beq (j+1) 0=false:=rfl;rw[hb0,hb1,Ja,bg];simp
theorem aoz{w:Bool}{f:Nat}{p:Ps}{toks:List Tk}{sp:au}{open' shut:Int}(ho:I64 open')(hsh:I64 shut)(hf:5 * sizes ks+3<=f)(hp:nX p=true)(hlv:lvl k op≠0)(hs:ay sp=true)(ht:toks.length+16 * sizes ks+3<=900000000)(hl:sp.length+sizes ks<=900000000)(hu:sizes ks<=1048575):
  Wr toks sp (sizes ks) (tok open'::(Ja true (jL k op ks.length p ks 0)++[tok shut])) (M.uo f k op x y (fE w ks) open' shut p.level p.nP p.tV p.tX p.lZ (mV toks) sp false):=by
 obtain⟨g,rfl⟩:∃g,f=g+1:=⟨f - 1,ak⟩
 have hkl:=jr ks;have e1:=(nH open' ho).1;have e2:=(nH shut hsh).1;have p1:=NK [tok open'] toks sp false hs (by simp;omega);obtain⟨sp1,a1,a2,a3⟩:=ae3 ih (x:=x) (y:=y) (op:=op) (k:=k) (w:=w) (f:=g) (p:=p) (shut:=shut) ak hp hlv hu ks.length 0 (toks++[tok open']) sp ak hs (by rw[rJ,JU,List.drop_zero];omega) (by rw[List.drop_zero];omega);rw[List.drop_zero] at a3;rw[List.drop_zero,pU] at a1;have hlen:(Ja true (jL k op ks.length p ks 0)).length<=9 * sizes ks:=by
  have h1:=aax (jL k op ks.length p ks 0) true;have h2:=aa2 (k:=k) (op:=op) (n:=ks.length) (p:=p) (ts:=ks) (j:=0) λu _=>rG u
  rw[MV] at h1;omega
 have p2:=NK [tok shut] (toks++[tok open']++Ja (Nat.beq 0 0) (jL k op ks.length p ks 0)) sp1 false a2 (by simp only[rJ,JU];have:Nat.beq 0 0=true:=rfl;rw[this];omega);rw[M.abe];simp only[M.uj,e1,e2,ah,yR,dH,hs,aK,p1,gY,a1,a2,p2];refine⟨sp1, ?_,a2,a3⟩;simp
end
def U4(k op:Int)(n:Nat)(p:Ps)(u:Tn):jL k op n p [u] 0=[wE k op n p 0 u]:=by rw[jL,jL];rfl
def aay(k op:Int)(n:Nat)(p:Ps)(u v:Tn):jL k op n p [u,v] 0=[wE k op n p 0 u,wE k op n p 1 v]:=by rw[jL,jL,jL];rfl
def aA7(k op:Int)(n:Nat)(p:Ps)(u v z:Tn):jL k op n p [u,v,z] 0=[wE k op n p 0 u,wE k op n p 1 v,wE k op n p 2 z]:=by rw[jL,jL,jL,jL];rfl
def sz1(u:Tn):sizes [u]=u.size:=by simp[sizes]
def sz2(u v:Tn):sizes [u,v]=u.size+v.size:=by simp[sizes]
def sz3(u v z:Tn):sizes [u,v,z]=u.size+(v.size+z.size):=by simp[sizes]
def PK{α:Type}{l:List α}(h:l.length=2):∃a b,l=[a,b]:=by
 match l,h with
 |[a,b],_=>exact⟨a,b,rfl⟩
def Yo{α:Type}{l:List α}(h:l.length=3):∃a b c,l=[a,b,c]:=by
 match l,h with
 |[a,b,c],_=>exact⟨a,b,c,rfl⟩
def ahz{op:Int}(h:AV op≠0):I64 op:=by
 by_cases hr:0<=op/\op<=99
 ·constructor<;>omega
 ·exfalso;apply h;have e:∀z:Int,0<=z->z<=99->(op==z)=false:=λz h1 h2=>by rw[II];omega
  simp only[AV,e 44 (by decide) (by decide),e 45 (by decide) (by decide),e 67 (by decide) (by decide),e 46 (by decide) (by decide),e 63 (by decide) (by decide),e 48 (by decide) (by decide),e 47 (by decide) (by decide),e 50 (by decide) (by decide),e 62 (by decide) (by decide),e 49 (by decide) (by decide),e 99 (by decide) (by decide),e 55 (by decide) (by decide),e 56 (by decide) (by decide),e 57 (by decide) (by decide),e 58 (by decide) (by decide),e 59 (by decide) (by decide),e 60 (by decide) (by decide),Bool.or_false,bg]
def Y6:((1:Nat):Int)=1:=rfl
def awH:((2:Nat):Int)=2:=rfl
section
variable {k op:Int} {x y:aA} {ks:List Tn} (ih:∀u,u∈ks->PT u)
include ih
theorem aKK{w:Bool}{f:Nat}{p:Ps}{toks:List Tk}{sp:au}(hc:Cnt k op y ks.length)(hk:k=6\/k=9\/k=10\/k=11\/k=12\/k=13\/k=14\/k=15)(hf:5 * sizes ks+4<=f)(hp:nX p=true)(hs:ay sp=true)(ht:toks.length+16 * sizes ks+3<=900000000)(hl:sp.length+sizes ks<=900000000)(hu:sizes ks<=1048575):
  Wr toks sp (sizes ks) (JO k op ks.length x (jL k op ks.length p ks 0)) (M.ru f k op x y (fE w ks) p.level p.nP p.tV p.tX p.lZ (mV toks) sp false):=by
 obtain⟨g,rfl⟩:∃g,f=g+1:=⟨f - 1,ak⟩
 have hlv:lvl k op≠0:=by have:=Xr (y:=y) (n:=ks.length) (k:=k) (op:=op) ak hc;omega
 rw[M.Yc];rcases hk with rfl|rfl|rfl|rfl|rfl|rfl|rfl|rfl
 ·obtain⟨u,rfl⟩:=zlo.1 (hc.one ak);rw[sz1] at *;have e1:=(nH 68 (by constructor<;>decide)).1;have p1:=NK [tok 68] toks sp false hs (by simp;omega);obtain⟨sp1,a1,a2,a3⟩:=UF ih (w:=w) (f:=g) (p:=p) (toks:=toks++[tok 68]) (sp:=sp) (x:=x) (y:=y) (op:=op) (k:=6) (j:=0) (u:=u) rfl ak hp hlv hs (by simp only[rJ,mQ,uH,Nat.zero_add] at *;omega) hl (by rw[sz1];exact hu);rw[pU] at a1;simp only[M.dP,M.dZ,M.dR,Int.reduceBEq,aK,bg,e1,ah,yR,dH,hs,p1,a1,a2];refine⟨sp1, ?_,a2,a3⟩;rw[U4];simp[JO,Dv]
 ·obtain⟨u,rfl⟩:=zlo.1 (hc.one ak);rw[sz1] at *;have e1:=(nH op (by rcases hc.stp ak with rfl|rfl<;>constructor<;>decide)).1;have p1:=NK [tok op] toks sp false hs (by simp;omega);obtain⟨sp1,a1,a2,a3⟩:=UF ih (w:=w) (f:=g) (p:=p) (toks:=toks++[tok op]) (sp:=sp) (x:=x) (y:=y) (op:=op) (k:=9) (j:=0) (u:=u) rfl ak hp hlv hs (by simp only[rJ,mQ,uH,Nat.zero_add] at *;omega) hl (by rw[sz1];exact hu);rw[pU] at a1;simp only[M.dP,M.dZ,M.dR,Int.reduceBEq,aK,bg,e1,ah,yR,dH,hs,p1,a1,a2];refine⟨sp1, ?_,a2,a3⟩;rw[U4];simp[JO,Dv]
 ·obtain⟨u,rfl⟩:=zlo.1 (hc.one ak);rw[sz1] at *;have hb:=RQ (k:=10) (op:=op) (n:=[u].length) (p:=p) (j:=0) (rG u);have e1:=(nH op (by rcases hc.stp ak with rfl|rfl<;>constructor<;>decide)).1;obtain⟨sp1,a1,a2,a3⟩:=UF ih (w:=w) (f:=g) (p:=p) (toks:=toks) (sp:=sp) (x:=x) (y:=y) (op:=op) (k:=10) (j:=0) (u:=u) rfl ak hp hlv hs ak hl (by rw[sz1];exact hu);rw[pU] at a1;have p1:=NK [tok op] (toks++wE 10 op [u].length p 0 u) sp1 false a2 (by simp only[rJ,mQ,uH,Nat.zero_add] at *;omega);simp only[M.dP,M.dZ,M.dR,Int.reduceBEq,aK,bg,e1,ah,yR,dH,hs,p1,a1,a2];refine⟨sp1, ?_,a2,a3⟩;rw[U4];simp[JO,Dv]
 ·obtain⟨u,rfl⟩:=zlo.1 (hc.one ak);rw[sz1] at *;have e1:=(nH op (by rcases hc.una ak with rfl|rfl|rfl<;>constructor<;>decide)).1;have p1:=NK [tok op] toks sp false hs (by simp;omega);obtain⟨sp1,a1,a2,a3⟩:=UF ih (w:=w) (f:=g) (p:=p) (toks:=toks++[tok op]) (sp:=sp) (x:=x) (y:=y) (op:=op) (k:=11) (j:=0) (u:=u) rfl ak hp hlv hs (by simp only[rJ,mQ,uH,Nat.zero_add] at *;omega) hl (by rw[sz1];exact hu);rw[pU] at a1;simp only[M.dP,M.dZ,M.dR,Int.reduceBEq,aK,bg,e1,ah,yR,dH,hs,p1,a1,a2];refine⟨sp1, ?_,a2,a3⟩;rw[U4];simp[JO,Dv]
 ·obtain⟨u,v,rfl⟩:=PK (hc.two ak);rw[sz2] at *;have hb:=RQ (k:=12) (op:=op) (n:=[u,v].length) (p:=p) (j:=0) (rG u);obtain⟨sp1,a1,a2,a3⟩:=UF ih (w:=w) (f:=g) (p:=p) (toks:=toks) (sp:=sp) (x:=x) (y:=y) (op:=op) (k:=12) (j:=0) (u:=u) rfl ak hp hlv hs ak ak (by rw[sz2];exact hu);rw[pU] at a1
  by_cases h99:op=99
  ·have e99:(op !=99)=false:=by simp[h99]
   obtain⟨sp2,b1,b2,b3⟩:=UF ih (w:=w) (f:=g) (p:=p) (toks:=toks++wE 12 op [u,v].length p 0 u) (sp:=sp1) (x:=x) (y:=y) (op:=op) (k:=12) (j:=1) (u:=v) rfl ak hp hlv a2 (by simp only[rJ,mQ,uH,Nat.zero_add] at *;omega) ak (by rw[sz2];exact hu);rw[Y6] at b1;simp only[M.dP,M.dZ,M.dR,Int.reduceBEq,aK,bg,e99,ah,yR,dH,hs,a1,a2,b1,b2];refine⟨sp2, ?_,b2,ak⟩;rw[aay];simp[JO,Dv,h99]
  ·have e99:(op !=99)=true:=by simpa using h99
   have e98:(op==99)=false:=by simpa using h99
   have e1:=(nH op (ahz (hc.bin rfl).1)).1;have p1:=NK [tok op] (toks++wE 12 op [u,v].length p 0 u) sp1 false a2 (by simp only[rJ,mQ,uH,Nat.zero_add] at *;omega);obtain⟨sp2,b1,b2,b3⟩:=UF ih (w:=w) (f:=g) (p:=p) (toks:=toks++wE 12 op [u,v].length p 0 u++[tok op]) (sp:=sp1) (x:=x) (y:=y) (op:=op) (k:=12) (j:=1) (u:=v) rfl ak hp hlv a2 (by simp only[rJ,mQ,uH,Nat.zero_add] at *;omega) ak (by rw[sz2];exact hu);rw[Y6] at b1;simp only[M.dP,M.dZ,M.dR,Int.reduceBEq,aK,bg,e99,e1,p1,ah,yR,dH,hs,a1,a2,b1,b2];refine⟨sp2, ?_,b2,ak⟩;rw[aay];simp[JO,Dv,e98]
 ·have e1:=(nH 24 (by constructor<;>decide)).1;have hr:∀z:aA,([[D.int .i64 24,D.str (spell 24),D.int .i64 0],[D.int .i64 6,D.str z,D.int .i64 0]]:au)=mV [tok 24,⟨6,z,0⟩]:=λz=>rfl
  cases hm:Nat.blt 1 ks.length with
  |true=>
   obtain⟨sp1,a1,a2,a3⟩:=aoz ih (w:=w) (f:=g) (p:=p) (toks:=toks) (sp:=sp) (x:=x) (y:=y) (op:=op) (k:=13) (open':=32) (shut:=33) (by constructor<;>decide) (by constructor<;>decide) ak hp hlv hs ak hl hu;have hlen:(Ja true (jL 13 op ks.length p ks 0)).length<=9 * sizes ks:=by
    have h1:=aax (jL 13 op ks.length p ks 0) true;have h2:=aa2 (k:=13) (op:=op) (n:=ks.length) (p:=p) (ts:=ks) (j:=0) λu _=>rG u
    rw[MV] at h1;omega
   have p1:=NK [tok 24,⟨6,x,0⟩] (toks++tok 32::(Ja true (jL 13 op ks.length p ks 0)++[tok 33])) sp1 false a2 (by simp only[rJ,mQ,uH,Nat.zero_add] at *;omega);simp only[M.dP,M.dZ,M.dR,Int.reduceBEq,aK,bg,gY,many,hm,e1,p1,ah,hr,dH,hs,a1,a2];refine⟨sp1, ?_,a2,a3⟩;simp[JO,hm]
  |false=>
   have h1:ks.length=1:=by
    have h2:=hc.some_ ak;have h3:¬1<ks.length:=by rw[<-Nat.blt_eq,hm];simp
    omega
   obtain⟨u,rfl⟩:=zlo.1 h1;rw[sz1] at *;have hb:=RQ (k:=13) (op:=op) (n:=[u].length) (p:=p) (j:=0) (rG u);obtain⟨sp1,a1,a2,a3⟩:=UF ih (w:=w) (f:=g) (p:=p) (toks:=toks) (sp:=sp) (x:=x) (y:=y) (op:=op) (k:=13) (j:=0) (u:=u) rfl ak hp hlv hs ak hl (by rw[sz1];exact hu);rw[pU] at a1;have p1:=NK [tok 24,⟨6,x,0⟩] (toks++wE 13 op [u].length p 0 u) sp1 false a2 (by simp only[rJ,mQ,uH,Nat.zero_add] at *;omega);simp only[M.dP,M.dZ,M.dR,Int.reduceBEq,aK,bg,gY,many,hm,e1,p1,ah,hr,dH,hs,a1,a2];refine⟨sp1, ?_,a2,a3⟩;rw[U4];simp[JO,Dv,show Nat.blt 1 1=false from rfl]
 ·obtain⟨u,v,z,rfl⟩:=Yo (hc.three rfl);rw[sz3] at *;have hb:=RQ (k:=14) (op:=op) (n:=[u,v,z].length) (p:=p) (j:=0) (rG u);have hb2:=RQ (k:=14) (op:=op) (n:=[u,v,z].length) (p:=p) (j:=1) (rG v);have e1:=(nH 65 (by constructor<;>decide)).1;have e2:=(nH 66 (by constructor<;>decide)).1;obtain⟨sp1,a1,a2,a3⟩:=UF ih (w:=w) (f:=g) (p:=p) (toks:=toks) (sp:=sp) (x:=x) (y:=y) (op:=op) (k:=14) (j:=0) (u:=u) rfl ak hp hlv hs ak ak (by rw[sz3];exact hu);rw[pU] at a1;have p1:=NK [tok 65] (toks++wE 14 op [u,v,z].length p 0 u) sp1 false a2 (by simp only[rJ,mQ,uH,Nat.zero_add] at *;omega);obtain⟨sp2,b1,b2,b3⟩:=UF ih (w:=w) (f:=g) (p:=p) (toks:=toks++wE 14 op [u,v,z].length p 0 u++[tok 65]) (sp:=sp1) (x:=x) (y:=y) (op:=op) (k:=14) (j:=1) (u:=v) rfl ak hp hlv a2 (by simp only[rJ,mQ,uH,Nat.zero_add] at *;omega) ak (by rw[sz3];exact hu);rw[Y6] at b1;have p2:=NK [tok 66] (toks++wE 14 op [u,v,z].length p 0 u++[tok 65]++wE 14 op [u,v,z].length p 1 v) sp2 false b2 (by simp only[rJ,mQ,uH,Nat.zero_add] at *;omega);obtain⟨sp3,c1,c2,c3⟩:=UF ih (w:=w) (f:=g) (p:=p) (toks:=toks++wE 14 op [u,v,z].length p 0 u++[tok 65]++wE 14 op [u,v,z].length p 1 v++[tok 66]) (sp:=sp2) (x:=x) (y:=y) (op:=op) (k:=14) (j:=2) (u:=z) rfl ak hp hlv b2 (by simp only[rJ,mQ,uH,Nat.zero_add] at *;omega) ak (by rw[sz3];exact hu);rw[awH] at c1;simp only[M.dP,M.dZ,M.dR,Int.reduceBEq,aK,bg,e1,e2,p1,p2,ah,yR,dH,hs,a1,a2,b1,b2,c1,c2];refine⟨sp3, ?_,c2,ak⟩;rw[aA7];simp[JO,Dv]
 ·obtain⟨u,v,rfl⟩:=PK (hc.two ak);rw[sz2] at *;have hb:=RQ (k:=15) (op:=op) (n:=[u,v].length) (p:=p) (j:=0) (rG u);obtain⟨sp1,a1,a2,a3⟩:=UF ih (w:=w) (f:=g) (p:=p) (toks:=toks) (sp:=sp) (x:=x) (y:=y) (op:=op) (k:=15) (j:=0) (u:=u) rfl ak hp hlv hs ak ak (by rw[sz2];exact hu);rw[pU] at a1
  by_cases h99:op=99
  ·have e99:(op !=99)=false:=by simp[h99]
   obtain⟨sp2,b1,b2,b3⟩:=UF ih (w:=w) (f:=g) (p:=p) (toks:=toks++wE 15 op [u,v].length p 0 u) (sp:=sp1) (x:=x) (y:=y) (op:=op) (k:=15) (j:=1) (u:=v) rfl ak hp hlv a2 (by simp only[rJ,mQ,uH,Nat.zero_add] at *;omega) ak (by rw[sz2];exact hu);rw[Y6] at b1;simp only[M.dP,M.dZ,M.dR,Int.reduceBEq,aK,bg,e99,ah,yR,dH,hs,a1,a2,b1,b2];refine⟨sp2, ?_,b2,ak⟩;rw[aay];simp[JO,Dv,h99]
  ·have e99:(op !=99)=true:=by simpa using h99
   have e98:(op==99)=false:=by simpa using h99
   have e1:=(nH op (by rcases hc.asg rfl with rfl|h<;>constructor<;>omega)).1;have p1:=NK [tok op] (toks++wE 15 op [u,v].length p 0 u) sp1 false a2 (by simp only[rJ,mQ,uH,Nat.zero_add] at *;omega);obtain⟨sp2,b1,b2,b3⟩:=UF ih (w:=w) (f:=g) (p:=p) (toks:=toks++wE 15 op [u,v].length p 0 u++[tok op]) (sp:=sp1) (x:=x) (y:=y) (op:=op) (k:=15) (j:=1) (u:=v) rfl ak hp hlv a2 (by simp only[rJ,mQ,uH,Nat.zero_add] at *;omega) ak (by rw[sz2];exact hu);rw[Y6] at b1;simp only[M.dP,M.dZ,M.dR,Int.reduceBEq,aK,bg,e99,e1,p1,ah,yR,dH,hs,a1,a2,b1,b2];refine⟨sp2, ?_,b2,ak⟩;rw[aay];simp[JO,Dv,e98]
end
def au4(sp:au)(a b:Int)(hs:ay sp=true):ay (sp++[[D.int .i64 a,D.int .i64 b]])=true:=by simp only[ay,List.all_append,xw] at hs|-;exact⟨hs,rfl⟩
def aKL(t:Tn):BA t->WJ t->PT t:=by
 refine Tn.ind (P:=λt=>BA t->WJ t->PT t) ?_ t;intro k op x y ks ih hok he w f p toks sp hf hp hs ht hl hu;have hc:=NI hok;have ih':∀u,u∈ks->PT u:=λu hm=>by obtain⟨i,hi⟩:=List.mem_iff_getElem?.1 hm;obtain⟨h1,h2⟩:=abH hok he hi;exact ih u hm h2 h1
 have he':1<=k/\k<=15:=he;have hlv:lvl k op≠0:=by have:=Xr he' hc;omega
 rw[Tn.size] at hf ht hl hu|-;obtain⟨g,rfl⟩:∃g,f=g+1:=⟨f - 1,ak⟩
 simp only[Tn.kind,Tn.op,Tn.text,Tn.other,Tn.kids];rw[M.abf,xH];have done:∀(out:List Tk) (sp':au) (c:Option zaz),ay sp'=true->sp'.length<=sp.length+sizes ks->c=some (mV (toks++out),sp'++[[D.int .i64 (toks.length:Int),D.int .i64 ((toks++out).length:Int)]],false)->Wr toks sp (sizes ks+1) out c:=by intro out sp' c h1 h2 h3;exact⟨_,h3,au4 _ _ _ h1,by rw[rJ,JU];omega⟩
 have leaf:∀(z:Int) (h:JO k op ks.length x (jL k op ks.length p ks 0)=([⟨z,x,0⟩]:List Tk)),Wr toks sp (sizes ks+1) (JO k op ks.length x (jL k op ks.length p ks 0)) (some (mV (toks++([⟨z,x,0⟩]:List Tk)),sp++[[D.int .i64 (toks.length:Int),D.int .i64 ((toks++([⟨z,x,0⟩]:List Tk)).length:Int)]],false)):=by intro z h;rw[h];exact done _ sp _ hs ak rfl
 have hrow:∀z:Int,([[D.int .i64 z,D.str x,D.int .i64 0]]:au)=mV [⟨z,x,0⟩]:=λz=>rfl
 have hput:∀z:Int,M.bT (mV [⟨z,x,0⟩]) (mV toks) sp false=some (mV (toks++[⟨z,x,0⟩]),sp,false):=λz=>NK [⟨z,x,0⟩] toks sp false hs (by simp;omega)
 have sps:∀(s:au) (a b:Int),ay s=true->ay (s++[[D.int .i64 a,D.int .i64 b]])=true:=au4;have hk:k=1\/k=2\/k=3\/k=4\/k=5\/k=7\/k=8\/(k=6\/k=9\/k=10\/k=11\/k=12\/k=13\/k=14\/k=15):=by omega
 rcases hk with rfl|rfl|rfl|rfl|rfl|rfl|rfl|hk
 ·simp only[M.iV,M.eU,Int.reduceBEq,aK,bg,hrow,hput,ah,dH,hs,iT,JU,sps sp _ _ hs];rw[aS ak,aK,aS ak,aK];exact leaf 6 rfl
 ·simp only[M.iV,M.eU,Int.reduceBEq,aK,bg,hrow,hput,ah,dH,hs,iT,JU,sps sp _ _ hs];rw[aS ak,aK,aS ak,aK];exact leaf 3 rfl
 ·simp only[M.iV,M.eU,Int.reduceBEq,aK,bg,hrow,hput,ah,dH,hs,iT,JU,sps sp _ _ hs];rw[aS ak,aK,aS ak,aK];exact leaf 4 rfl
 ·simp only[M.iV,M.eU,Int.reduceBEq,aK,bg,hrow,hput,ah,dH,hs,iT,JU,sps sp _ _ hs];rw[aS ak,aK,aS ak,aK];exact leaf 5 rfl
 ·obtain⟨sp1,a1,a2,a3⟩:=aoz ih' (w:=w) (f:=g) (p:=p) (toks:=toks++[⟨6,x,0⟩]) (sp:=sp) (x:=x) (y:=y) (op:=op) (k:=5) (open':=34) (shut:=35) (by constructor<;>decide) (by constructor<;>decide) ak hp hlv hs (by rw[rJ,JU];omega) ak ak;simp only[M.iV,M.eU,Int.reduceBEq,aK,bg,hrow,hput,ah,dH,hs,a1,a2,iT,JU,sps sp1 _ _ a2];rw[aS ak,aK,aS ak,aK];have ha:JO 5 op ks.length x (jL 5 op ks.length p ks 0)=⟨6,x,0⟩::tok 34::(Ja true (jL 5 op ks.length p ks 0)++[tok 35]):=rfl;rw[ha];refine done _ sp1 _ a2 a3 ?_;simp
 ·obtain⟨sp1,a1,a2,a3⟩:=aoz ih' (w:=w) (f:=g) (p:=p) (toks:=toks++[⟨7,x,0⟩]) (sp:=sp) (x:=x) (y:=y) (op:=op) (k:=7) (open':=32) (shut:=33) (by constructor<;>decide) (by constructor<;>decide) ak hp hlv hs (by rw[rJ,JU];omega) ak ak;simp only[M.iV,M.eU,Int.reduceBEq,aK,bg,hrow,hput,ah,dH,hs,a1,a2,iT,JU,sps sp1 _ _ a2];rw[aS ak,aK,aS ak,aK];have ha:JO 7 op ks.length x (jL 7 op ks.length p ks 0)=⟨7,x,0⟩::tok 32::(Ja true (jL 7 op ks.length p ks 0)++[tok 33]):=rfl;rw[ha];refine done _ sp1 _ a2 a3 ?_;simp
 ·obtain⟨sp1,a1,a2,a3⟩:=aoz ih' (w:=w) (f:=g) (p:=p) (toks:=toks++[⟨8,x,0⟩]) (sp:=sp) (x:=x) (y:=y) (op:=op) (k:=8) (open':=32) (shut:=33) (by constructor<;>decide) (by constructor<;>decide) ak hp hlv hs (by rw[rJ,JU];omega) ak ak;simp only[M.iV,M.eU,Int.reduceBEq,aK,bg,hrow,hput,ah,dH,hs,a1,a2,iT,JU,sps sp1 _ _ a2];rw[aS ak,aK,aS ak,aK];have ha:JO 8 op ks.length x (jL 8 op ks.length p ks 0)=⟨8,x,0⟩::tok 32::(Ja true (jL 8 op ks.length p ks 0)++[tok 33]):=rfl;rw[ha];refine done _ sp1 _ a2 a3 ?_;simp
 ·obtain⟨sp1,a1,a2,a3⟩:=aKK ih' (w:=w) (f:=g) (p:=p) (toks:=toks) (sp:=sp) (x:=x) (y:=y) (op:=op) (k:=k) hc hk ak hp hs ak ak ak;have n1:(k==1)=false:=by rw[II];omega
  have n2:(k==2)=false:=by rw[II];omega
  have n3:(k==3)=false:=by rw[II];omega
  have n4:(k==4)=false:=by rw[II];omega
  have n5:(k==5)=false:=by rw[II];omega
  have n7:(k==7)=false:=by rw[II];omega
  have n8:(k==8)=false:=by rw[II];omega
  simp only[M.iV,M.eU,n1,n2,n3,n4,n5,n7,n8,aK,bg,ah,dH,hs,a1,a2,iT,JU,sps sp1 _ _ a2];rw[aS ak,aK,aS ak,aK];exact done _ sp1 _ a2 a3 rfl
mutual
def WV:Tn->Prop
 | .mk _ _ x y ks=>(x.length<=1048576/\y.length<=1048576)/\WW ks
def WW:List Tn->Prop
 |[]=>True
 |t::ts=>WV t/\WW ts
end
mutual
def au5:∀(t:Tn) (b:Nat),WV t↔∀n,n∈t.flat b->Small n
 | .mk k o x y ks,b=>by
  rw[WV,aro ks b,Tn.flat];constructor
  ·rintro⟨⟨h1,h2⟩,h3⟩ n hn;rcases List.mem_append.1 hn with hn|hn
   ·exact h3 n hn
   ·simp only[List.mem_singleton] at hn;subst hn;exact⟨h1,h2⟩
  ·intro h;have h1:=h ⟨k,o,x,y,ends ks b⟩ (by simp);exact⟨⟨h1.text,h1.other⟩,λn hn=>h n (List.mem_append_left _ hn)⟩
def aro:∀(ks:List Tn) (b:Nat),WW ks↔∀n,n∈jE ks b->Small n
 |[],b=>by simp[WW,jE]
 |t::ts,b=>by
  rw[WW,au5 t b,aro ts (b+t.size),jE];constructor
  ·rintro⟨h1,h2⟩ n hn;rcases List.mem_append.1 hn with hn|hn
   ·exact h1 n hn
   ·exact h2 n hn
  ·intro h;exact⟨λn hn=>h n (List.mem_append_left _ hn),λn hn=>h n (List.mem_append_right _ hn)⟩
end
def yS:∀{ks:List Tn} {u:Tn},WW ks->u∈ks->WV u
 |[],_,_,h=>by cases h
 |t::ts,u,h,hu=>by
  rw[WW] at h;rcases List.mem_cons.1 hu with rfl|hu
  ·exact h.1
  ·exact yS h.2 hu
def aaz:∀{t:Tn},WV t->WW t.kids
 | .mk _ _ _ _ _,h=>by rw[WV] at h;exact h.2
def aIG(l:List (aA))(h:∀g,g∈l->g.length<=9)(i:Nat):(l[i]?.getD []).length<=9:=by
 cases hx:l[i]? with
 |none=>simp
 |some g=>exact h g (AU hx)
def aX9:∀g,g∈Zt->g.length<=9:=by decide+kernel
def aYa:∀g,g∈XH->g.length<=9:=by decide+kernel
def PY(k:Int):(spell k).length<=9:=by
 unfold spell;split
 ·simp
 ·split
  ·exact aIG _ aX9 _
  ·split
   ·exact aIG _ aYa _
   ·simp
def Sm(l:List Tk):Prop:=∀t,t∈l->t.text.length<=1048576
def aaA:Sm []:=λt h=>by cases h
def xJ{t:Tk}{l:List Tk}(h:t.text.length<=1048576)(hl:Sm l):Sm (t::l):=by
 intro u hu;rcases List.mem_cons.1 hu with rfl|hu
 ·exact h
 ·exact hl u hu
def SY{a b:List Tk}(ha:Sm a)(hb:Sm b):Sm (a++b):=by
 intro u hu;rcases List.mem_append.1 hu with hu|hu
 ·exact ha u hu
 ·exact hb u hu
def PL(k:Int):(tok k).text.length<=1048576:=by have:=PY k;show(spell k).length<=1048576;omega
def KT{a b:List Tk}(c:Bool)(ha:Sm a)(hb:Sm b):Sm (bif c then a else b):=by cases c<;>assumption
def aA8:∀{L:List (List Tk)} (b:Bool),(∀l,l∈L->Sm l)->Sm (Ja b L)
 |[],b,_=>by rw[Ja];exact aaA
 |x::l,b,h=>by have h1:=h x zmf;rw[Ja];exact SY (KT _ h1 (xJ (PL _) h1)) (aA8 false λl hl=>h l (zmm _ hl))
def aKM{L:List (List Tk)}(h:∀l,l∈L->Sm l)(j:Nat):Sm (Dv L j):=by
 unfold Dv;cases hx:L[j]? with
 |none=>exact aaA
 |some l=>exact h l (AU hx)
def aKN{k op:Int}{n:Nat}{x:aA}{L:List (List Tk)}(hx:x.length<=1048576)(h:∀l,l∈L->Sm l):Sm (JO k op n x L):=by
 have t1:∀z:Int,Sm [⟨z,x,0⟩]:=λz=>xJ hx aaA
 have t2:∀z:Int,Sm [tok z]:=λz=>xJ (PL z) aaA
 have n1:=aKM h;have c1:=aA8 true h;unfold JO;refine KT _ (t1 _) (KT _ (t1 _) (KT _ (t1 _) (KT _ (t1 _) (KT _ ?_ (KT _ ?_ (KT _ ?_ (KT _ ?_ (KT _ ?_ (KT _ ?_ (KT _ ?_ (KT _ ?_ ?_)))))))))))
 ·exact xJ hx (xJ (PL _) (SY c1 (t2 _)))
 ·exact xJ hx (xJ (PL _) (SY c1 (t2 _)))
 ·exact xJ hx (xJ (PL _) (SY c1 (t2 _)))
 ·exact xJ (PL _) (n1 _)
 ·exact xJ (PL _) (n1 _)
 ·exact SY (n1 _) (t2 _)
 ·exact SY (KT _ (xJ (PL _) (SY c1 (t2 _))) (n1 _)) (xJ (PL _) (xJ hx aaA))
 ·exact SY (n1 _) (xJ (PL _) (SY (n1 _) (xJ (PL _) (n1 _))))
 ·exact SY (n1 _) (SY (KT _ aaA (t2 _)) (n1 _))
def au6{k op:Int}{n:Nat}{p:Ps}:∀{ts:List Tn} {j:Nat},(∀u,u∈ts->∀q,Sm (xH u q))->∀l,l∈jL k op n p ts j->Sm l
 |[],j,_,l,hl=>by rw[jL] at hl;cases hl
 |t::ts,j,h,l,hl=>by
  rw[jL] at hl;rcases List.mem_cons.1 hl with rfl|hl
  ·exact KT _ (h t zmf _) (xJ (PL _) (SY (h t zmf _) (xJ (PL _) aaA)))
  ·exact au6 (λu hu=>h u (zmm _ hu)) l hl
def au7(t:Tn):WV t->∀p,Sm (xH t p):=by refine Tn.ind (P:=λt=>WV t->∀p,Sm (xH t p)) ?_ t;intro k op x y ks ih h p;rw[WV] at h;rw[xH];exact aKN h.1.1 (au6 λu hu q=>ih u hu (yS h.2 hu) q)
def aA9{k op:Int}{n:Nat}{p:Ps}{j:Nat}{u:Tn}(h:WV u):Sm (wE k op n p j u):=
 KT _ (au7 u h _) (xJ (PL _) (SY (au7 u h _) (xJ (PL _) aaA)))
def aBa(t:Tn):BA t->WJ t->∀p,xH t p≠[]:=by
 refine Tn.ind (P:=λt=>BA t->WJ t->∀p,xH t p≠[]) ?_ t;intro k op x y ks ih hok he p;have hc:=NI hok;have he':=he;simp only[WJ,Tn.kind] at he';have ih':∀i u,ks[i]? =some u->∀q,xH u q≠[]:=λi u e q=>by obtain⟨h1,h2⟩:=abH hok he' e;exact ih u (AU e) h2 h1 q
 have kne:∀i u,ks[i]? =some u->wE k op ks.length p i u≠[]:=by
  intro i u e;unfold wE;cases(qH k i||fits u.kind u.op (dO k op ks.length i p)) with
  |true=>exact ih' i u e _
  |false=>simp
 rw[xH];have hk:k=1\/k=2\/k=3\/k=4\/k=5\/k=7\/k=8\/k=6\/k=9\/k=10\/k=11\/k=13\/k=14\/(k=12\/k=15):=ak;rcases hk with rfl|rfl|rfl|rfl|rfl|rfl|rfl|rfl|rfl|rfl|rfl|rfl|rfl|hk
 iterate 13 simp[JO]
 obtain⟨u,v,rfl⟩:=PK (hc.two ak);have h0:wE k op 2 p 0 u≠[]:=kne 0 u rfl;rcases hk with rfl|rfl
 ·rw[aay];simp[JO,Dv,h0]
 ·rw[aay];simp[JO,Dv,h0]
def au8{k op:Int}{n:Nat}{p:Ps}{j:Nat}{u:Tn}(h1:BA u)(h2:WJ u):wE k op n p j u≠[]:=by
 unfold wE;cases(qH k j||fits u.kind u.op (dO k op n j p)) with
 |true=>exact aBa u h1 h2 _
 |false=>simp
def Ie(t:Tn):Int×Int×aA×au×Int:=(t.kind,t.op,t.text,oG false t.kids,0)
section
variable (t:Tn) (s:aA) (L:List Tn) (a b c d e f g h:Tn)
def MZ:(Ie t).1=t.kind:=rfl
def Nh:(Ie t).2.1=t.op:=rfl
def Nj:(Ie t).2.2.1=t.text:=rfl
def Nl:(Ie t).2.2.2.1=oG false t.kids:=rfl
def Np:(Ie t).2.2.2.2=0:=rfl
def Nq:aG (oG false L)=oG false L:=ajR false L
def fM:([D.int .i64 t.kind,D.int .i64 t.op,D.str t.text,D.sl false 5 (oG false t.kids),D.int .i64 0]:Row)=Dz false t:=by cases t;rfl
def cZ:(t.kind,t.op,t.text,oG false t.kids,(0:Int))=Ie t:=rfl
def kV:M.aU s=some (Ie (jC s)):=rfl
def ae4:M.ER=some (Ie UD):=rfl
def arp:M.dY (oG false L)=some (Ie (lV L)):=rfl
def alp:M.dY [Dz false a,Dz false b]=some (Ie (lV [a,b])):=rfl
def alq:M.dY [Dz false a,Dz false b,Dz false c]=some (Ie (lV [a,b,c])):=rfl
def awI:M.dY [Dz false a,Dz false b,Dz false c,Dz false d]=some (Ie (lV [a,b,c,d])):=rfl
def aYb:M.dY [Dz false a,Dz false b,Dz false c,Dz false d,Dz false e]=some (Ie (lV [a,b,c,d,e])):=rfl
def ajS:M.zC t.kind t.op t.text (oG false t.kids) 0=some (Ie (WI t)):=by cases t;rfl
def ahA:M.zN t.kind t.op t.text (oG false t.kids) 0=some (Ie (alo t)):=by cases t;rfl
end
def Ig:∀a b:List Tn,oG false (a++b)=oG false a++oG false b:=λa b=>by simp[aa0]
def ae5:∀(L:List Tn) (b:Bool) (x:Tn),RH b (L++[x])=RH b L++(bif L.isEmpty && b then[x] else[jC [44],UD,x])
 |[],b,x=>by cases b<;>simp[RH]
 |y::L,b,x=>by rw[VE,RH,RH,ae5 L false x];simp
def ajT:∀(L:List Tn) (b:Bool),(RH b L).length<=3 * L.length
 |[],b=>by simp[RH]
 |y::L,b=>by have:=ajT L false;cases b<;>simp only[RH,aK,bg,rJ,mQ,uH]<;>omega
def psD(p:Ps)(ks:List Tn):List Tn:=ks.map λu=>vH u p
def adV(p:Ps)(ks:List Tn):(psD p ks).length=ks.length:=by simp[psD]
def arq(p:Ps)(ks:List Tn):KO p ks=Yl (psD p ks):=rfl
def ajU{ks:List Tn}{p:Ps}{b:Int×au->Option ((Int×au)⊕(Int×au))}(hu:ks.length<=1048576)
  (hb:∀(j:Nat) u (L:List Tn),ks[j]? =some u->L.length<=4000000->b ((j:Int),oG false L)=some (.inl (((j+1:Nat):Int),oG false (L++(if j=0 then[vH u p] else[jC [44],UD,vH u p])))))
  (he:∀r,b ((ks.length:Int),r)=some (.inr ((ks.length:Int),r))):
  dU b (0,[])=some ((ks.length:Int),oG false (RH true (psD p ks))):=by
 have:=ji (b:=b) (t:=((ks.length:Int),oG false (RH true (psD p ks)))) (λj=>((j:Int),oG false (RH true (psD p (ks.take j))))) ks.length
  (by
   intro j hj;obtain⟨u,hu'⟩:∃u,ks[j]? =some u:=⟨ks[j],by simp[hj]⟩
   have hl:=ajT (psD p (ks.take j)) true;rw[adV,VF] at hl;rw[hb j u _ hu' ak,fV hu'];have e:psD p (ks.take j++[u])=psD p (ks.take j)++[vH u p]:=by simp[psD]
   rw[e,ae5]
   by_cases h0:j=0
   ·subst h0;rfl
   ·have z:(psD p (ks.take j)).isEmpty=false:=by
     cases hq:psD p (ks.take j) with
     |nil=>have:=adV p (ks.take j);rw[hq,uH,VF] at this;omega
     |cons _ _=>rfl
    rw[if_neg h0,z,Bool.false_and,bg])
  (by rw[he,List.take_length]) 0 (Nat.zero_le _)
 exact this
def aBb{k op:Int}{x y:aA}{ks:List Tn}(w:Bool)(hu:sizes ks<=1048575):M.kT k op x y (fE w ks)=some (k,op,x,y,encI (iota ks.length)):=by
 have hkl:=jr ks;have hn:=ahy k op x y (fE w ks) (by rw[gY];omega)
 rwa [gY] at hn
def DT(u:Tn):Prop:=∀(w:Bool) (f:Nat) (p:Ps),5 * u.size<=f->nX p=true->
 M.Fh f u.kind u.op u.text u.other (fE w u.kids) p.level p.nP p.tV p.tX p.lZ=some (Ie (oV u p))
def atD{u:Tn}(hD:DT u){w:Bool}{f:Nat}{p:Ps}(hf:5 * u.size+1<=f)(hp:nX p=true)(hu:u.size<=1048576):
  M.zY f u.kind u.op u.text u.other (fE w u.kids) p.level p.nP p.tV p.tX p.lZ=some (Ie (vH u p)):=by
 obtain⟨g,rfl⟩:∃g,f=g+1:=⟨f - 1,ak⟩
 have h1:=hD w g p ak hp;have h2:=hD w g .top ak rfl;simp only[Ps.top] at h2;rw[M.ai5];simp only[jU,M.Fe,ahy u.kind u.op u.text u.other _ (au3 hu w),ah,(ahw u.kind u.op u.text u.other _ p).1,vH];cases fits u.kind u.op p with
 |true=>simp only[aK,h1,ah,MZ,Nh,Nj,Nl,Np,Nq,cZ]
 |false=>simp only[bg,kV,Em.1,h2,ah,MZ,Nh,Nj,Nl,Np,Nq,fM,alq,cZ,Ps.top]
section
variable {k op:Int} {x y:aA} {ks:List Tn} (ih:∀u,u∈ks->DT u)
include ih
theorem aIH{w:Bool}{f:Nat}{p:Ps}{j:Nat}{u:Tn}(hj:ks[j]? =some u)(hf:5 * u.size+2<=f)(hp:nX p=true)(hlv:lvl k op≠0)(hu:sizes ks<=1048575):
  M.Eh f k op x y (fE w ks) (j:Int) p.level p.nP p.tV p.tX p.lZ=some (Ie (RJ k op ks.length p j u)):=by
 obtain⟨g,rfl⟩:∃g,f=g+1:=⟨f - 1,ak⟩
 have hkl:=jr ks;have hju:=(PN.1 hj).1;have hus:=iP (AU hj);have hg:=F5 w hj;obtain⟨c0,c1,c2,c3,c4⟩:=kJ w u;have hkp:=aaw k op x y (encI (iota ks.length)) j p (by rw[bf,UE];omega);rw[bf,UE] at hkp;have hq:=xI (n:=ks.length) (j:=j) hp hju hlv;have e1:=ih u (AU hj);have h1:=e1 w g (dO k op ks.length j p) ak hq;have h2:=atD e1 (w:=w) (f:=g) (p:=dO k op ks.length j p) ak hq ak;rw[M.alc];simp only[jU,M.IX,aBb w hu,ah,hg,c0,c1,c2,c3,c4,hkp,Ps.JV,af2,RJ];unfold vH at h2;cases htg:qH k j with
 |true=>simp only[aK,Bool.true_or,h1,ah,MZ,Nh,Nj,Nl,Np,Nq,cZ]
 |false=>simp only[bg,Bool.false_or,h2,ah,MZ,Nh,Nj,Nl,Np,Nq,cZ]
theorem aBd{w:Bool}{f:Nat}(hf:5 * sizes ks+2<=f)(hu:sizes ks<=1048575):
  M.Fg f (fE w ks)=some (Ie (KO .top ks)):=by
 obtain⟨g,rfl⟩:∃g,f=g+1:=⟨f - 1,ak⟩
 have hkl:=jr ks;rw[M.ai6];simp only[jU,M.Fb,M.Ov,gY];rw[ajU (ks:=ks) (p:=.top) ak (λj u L hj hL=> ?_) (λr=> ?_)]
 ·simp only[ah,arp,MZ,Nh,Nj,Nl,Np,Nq,ajS,ahA,cZ];rfl
 ·have hjl:=(PN.1 hj).1;have hus:=iP (AU hj);obtain⟨c0,c1,c2,c3,c4⟩:=kJ w u;have h1:=atD (ih u (AU hj)) (w:=w) (f:=g) (p:=.top) ak rfl ak;simp only[Ps.top] at h1;have hw:i64.wrap ((j:Int)+1)=((j+1:Nat):Int):=by rw[aB ak ak];omega
  simp only[jU,M.QB,M.CP,F5 w hj,c0,c1,c2,c3,c4,ah,kV,ae4,M.J9,M.Vt,Em.1,h1,MZ,Nh,Nj,Nl,Np,Nq,fM,yQ,rJ,mQ,uH,hw];rw[zdt ak,aK]
  by_cases h0:j=0
  ·subst h0;rw[rH ak,bg,aS ak,aK,aS ak,aK,if_pos rfl,Ig];rfl
  ·rw[zdt ak,aK,aS ak,aK,aS ak,aK,aS ak,aK,aS ak,aK,if_neg h0,Ig,JR];rfl
 ·simp only[jU,M.QB,M.CP];rw[rH ak,bg]
end
def DC{n:Nat}(h:n<=8000000):n.ble 9223372036854775807=true:=aS ak
def XK(k op:Int)(n:Nat)(p:Ps)(u:Tn):pG k op n p [u] 0=[RJ k op n p 0 u]:=by rw[pG,pG];rfl
def aoA(k op:Int)(n:Nat)(p:Ps)(u v:Tn):pG k op n p [u,v] 0=[RJ k op n p 0 u,RJ k op n p 1 v]:=by rw[pG,pG,pG];rfl
def aBe(k op:Int)(n:Nat)(p:Ps)(u v z:Tn):pG k op n p [u,v,z] 0=[RJ k op n p 0 u,RJ k op n p 1 v,RJ k op n p 2 z]:=by rw[pG,pG,pG,pG];rfl
def ajV{k op:Int}{n:Nat}{p:Ps}(ht:∀j,qH k j=false)(hq:∀j,j<n->dO k op n j p=.top):∀(ts:List Tn) (j:Nat),j+ts.length=n->pG k op n p ts j=psD .top ts
 |[],j,_=>by rw[pG];rfl
 |t::ts,j,hj=>by rw[mQ] at hj;rw[pG,hq j ak,ht j,ajV ht hq ts (j+1) ak,Bool.false_or];rfl
def UG{k op:Int}{ks:List Tn}{p:Ps}(hp:nX p=true)(h:(lvl k op=15)\/(k=13/\Nat.blt 1 ks.length=true/\lvl k op≠0))(ht:∀j,qH k j=false):pG k op ks.length p ks 0=psD .top ks:=by
 refine ajV ht (λj hj=> ?_) ks 0 ak;rcases h with h|⟨h1,h2,h3⟩
 ·exact KR hp hj h
 ·have hb:Nat.blt j ks.length=true:=by rw[Nat.blt_eq];exact hj
  have h4:(lvl k op==0)=false:=by simpa using h3
  subst h1;unfold dO;rw[hp,hb,h4,h2];simp
def aGo{op:Int}{x y:aA}{u:Tn}(hD:DT u)(hT:PT u)(hok:BA u)(he:WJ u)(hs:WV u){w:Bool}{f:Nat}{p:Ps}(hc:Cnt 11 op y 1)(hf:5 * u.size+3<=f)(hp:nX p=true)(hu:u.size<=1048575):
  M.Ik f 11 op x y (fE w [u]) p.level p.nP p.tV p.tX p.lZ=some (Ie (oV (.mk 11 op x y [u]) p)):=by
 obtain⟨g,rfl⟩:∃g,f=g+1:=⟨f - 1,ak⟩
 have ihD:∀v,v∈[u]->DT v:=by intro v hv;rw[List.mem_singleton.1 hv];exact hD
 have ihT:∀v,v∈[u]->PT v:=by intro v hv;rw[List.mem_singleton.1 hv];exact hT
 have hs1:=sz1 u;have hlv:lvl 11 op≠0:=by simp[lvl]
 have hI:I64 op:=by rcases hc.una rfl with rfl|rfl|rfl<;>constructor<;>decide
 have h1:=aIH ihD (w:=w) (f:=g) (p:=p) (x:=x) (y:=y) (k:=11) (op:=op) (j:=0) (u:=u) rfl ak hp hlv ak;obtain⟨sp,h2,h3,h4⟩:=UF ihT (w:=w) (f:=5 * u.size+2) (p:=p) (toks:=[]) (sp:=[]) (x:=x) (y:=y) (op:=op) (k:=11) (j:=0) (u:=u) rfl ak hp hlv rfl (by simp only[uH];omega) (by simp only[uH];omega) ak;have h2':=M.abh h2;rw[pU] at h1 h2';have e0:mV []=[]:=rfl;rw[e0,List.nil_append] at h2';rw[oV,XK,U4,M.agu];have hne:=au8 (k:=11) (op:=op) (n:=[u].length) (p:=p) (j:=0) hok he;have hsm:=aA9 (k:=11) (op:=op) (n:=[u].length) (p:=p) (j:=0) hs;generalize wE 11 op [u].length p 0 u=K at *;cases K with
 |nil=>exact absurd rfl hne
 |cons b K=>have hsl:=PY op;have hg:M.vP op (spell op) 0 b.kind b.text b.at_=some (KN (tok op) b):=ae2 (tok op) b (by show(spell op).length<=_;omega) (by have:=hsm b zmf;omega);have i0:idx (mV (b::K)) 0=some (aiD b):=rfl;have i1:(mV (b::K))[0]? =some (aiD b):=rfl;simp(disch:=omega) only[M.Bf,M.LM,h2',ah,(oN op hI).2,(nH op hI).1,i0,i1,cT0,cT1,cT2,hg,h1,kV,MZ,Nh,Nj,Nl,Np,Nq,fM,alp,cZ,DC];have ha:Zu 11 op [u].length x (amG op [b::K]) [RJ 11 op [u].length p 0 u]=lV [jC (bif KN (tok op) b then spell op++[32] else spell op),RJ 11 op [u].length p 0 u]:=rfl;rw[ha];cases KN (tok op) b<;>rfl
set_option maxHeartbeats 2000000 in
def aBf(t:Tn):BA t->WJ t->WV t->t.size<=1048576->DT t:=by
 refine Tn.ind (P:=λt=>BA t->WJ t->WV t->t.size<=1048576->DT t) ?_ t;intro k op x y ks ih hok he hsm hsz;intro w f p hf hp;have hc:=NI hok;have he':=he;simp only[WJ,Tn.kind] at he';rw[WV] at hsm;obtain⟨⟨hx,hy⟩,hss⟩:=hsm;rw[Tn.size] at hsz hf;have hkE:∀u,u∈ks->BA u/\WJ u/\WV u:=by intro u hu;obtain⟨i,hi⟩:=List.mem_iff_getElem?.1 hu;obtain⟨h1,h2⟩:=abH hok he' hi;exact⟨h2,h1,yS hss hu⟩
 have ih':∀u,u∈ks->DT u:=by intro u hu;obtain⟨h1,h2,h3⟩:=hkE u hu;have:=iP hu;exact ih u hu h1 h2 h3 ak
 obtain⟨g,rfl⟩:∃g,f=g+1:=⟨f - 1,ak⟩
 have hlv:lvl k op≠0:=by have:=Xr he' hc;omega
 have hL:=aBd ih' (w:=w) (f:=g) ak ak;have hK:∀(j:Nat) u,ks[j]? =some u->M.Eh g k op x y (fE w ks) (j:Int) p.level p.nP p.tV p.tX p.lZ=some (Ie (RJ k op ks.length p j u)):=by intro j u hj;have:=iP (AU hj);exact aIH ih' (w:=w) (f:=g) (p:=p) (x:=x) (y:=y) (k:=k) (op:=op) hj ak hp hlv ak
 simp only[Tn.kind,Tn.op,Tn.text,Tn.other,Tn.kids];rw[M.ai7];have hk:k=1\/k=2\/k=3\/k=4\/k=5\/k=7\/k=8\/k=9\/k=10\/k=6\/k=11\/k=14\/k=13\/k=12\/k=15:=ak;rcases hk with rfl|rfl|rfl|rfl|rfl|rfl|rfl|rfl|rfl|rfl|rfl|rfl|rfl|rfl|rfl
 ·simp only[jU,M.fG,M.eu,M.eF,M.dI,Int.reduceBEq,aK,bg,kV,ah,MZ,Nh,Nj,Nl,Np,Nq,cZ];rfl
 ·simp only[jU,M.fG,M.eu,M.eF,M.dI,Int.reduceBEq,aK,bg,kV,ah,MZ,Nh,Nj,Nl,Np,Nq,cZ];rfl
 ·simp only[jU,M.fG,M.eu,M.eF,M.dI,Int.reduceBEq,aK,bg,kV,ah,MZ,Nh,Nj,Nl,Np,Nq,cZ];rfl
 ·simp only[jU,M.fG,M.eu,M.eF,M.dI,Int.reduceBEq,aK,bg,kV,ah,MZ,Nh,Nj,Nl,Np,Nq,cZ];rfl
 ·simp(disch:=omega) only[jU,M.fG,M.eu,M.eF,M.dI,Int.reduceBEq,aK,bg,kV,ah,hL,MZ,Nh,Nj,Nl,Np,Nq,fM,alq,cZ,DC];rw[oV,UG hp (.inl rfl) (λj=>by simp[qH])];rfl
 ·simp(disch:=omega) only[jU,M.fG,M.eu,M.eF,M.dI,Int.reduceBEq,aK,bg,kV,ah,hL,MZ,Nh,Nj,Nl,Np,Nq,fM,alq,cZ,DC];rw[oV,UG hp (.inl rfl) (λj=>by simp[qH])];rfl
 ·simp(disch:=omega) only[jU,M.fG,M.eu,M.eF,M.dI,Int.reduceBEq,aK,bg,kV,ah,hL,MZ,Nh,Nj,Nl,Np,Nq,fM,alq,cZ,DC];rw[oV,UG hp (.inl rfl) (λj=>by simp[qH])];rfl
 ·obtain⟨u,rfl⟩:=zlo.1 (hc.one ak);have hI:I64 op:=by rcases hc.stp ak with rfl|rfl<;>constructor<;>decide
  have k0:=hK 0 u rfl;rw[pU] at k0;simp only[jU,M.fG,M.eu,M.eF,M.dI,Int.reduceBEq,aK,bg,kV,ah,(oN op hI).2,k0,MZ,Nh,Nj,Nl,Np,Nq,fM,alp,cZ];rw[oV,XK];rfl
 ·obtain⟨u,rfl⟩:=zlo.1 (hc.one ak);have hI:I64 op:=by rcases hc.stp ak with rfl|rfl<;>constructor<;>decide
  have k0:=hK 0 u rfl;rw[pU] at k0;simp only[jU,M.fG,M.eu,M.eF,M.dI,Int.reduceBEq,aK,bg,kV,ah,(oN op hI).2,k0,MZ,Nh,Nj,Nl,Np,Nq,fM,alp,cZ];rw[oV,XK];rfl
 ·obtain⟨u,rfl⟩:=zlo.1 (hc.one ak);have k0:=hK 0 u rfl;rw[pU] at k0;simp only[jU,M.fG,M.eu,M.eF,M.dI,Int.reduceBEq,aK,bg,kV,ah,k0,MZ,Nh,Nj,Nl,Np,Nq,fM,alp,cZ];rw[oV,XK];rfl
 ·obtain⟨u,rfl⟩:=zlo.1 (hc.one ak);obtain⟨h1,h2,h3⟩:=hkE u (by simp);rw[sz1] at hf hsz;have a1:=aGo (x:=x) (ih' u (by simp)) (aKL u h1 h2) h1 h2 h3 (w:=w) (f:=g) (p:=p) hc ak hp ak;simp only[jU,M.fG,M.eu,M.eF,M.dI,Int.reduceBEq,aK,bg,a1,ah,MZ,Nh,Nj,Nl,Np,Nq,cZ]
 ·obtain⟨u,v,z,rfl⟩:=Yo (hc.three rfl);have k0:=hK 0 u rfl;have k1:=hK 1 v rfl;have k2:=hK 2 z rfl;rw[pU] at k0;rw[Y6] at k1;rw[awH] at k2;simp only[jU,M.fG,M.eu,M.eF,M.dI,Int.reduceBEq,aK,bg,kV,ah,k0,k1,k2,MZ,Nh,Nj,Nl,Np,Nq,fM,aYb,cZ];rw[oV,aBe];rfl
 ·cases hm:Nat.blt 1 ks.length with
  |true=>simp(disch:=omega) only[jU,M.fG,M.eu,M.eF,M.dI,Int.reduceBEq,aK,bg,gY,many,hm,kV,ah,hL,MZ,Nh,Nj,Nl,Np,Nq,fM,alq,cZ,DC];rw[oV,UG hp (.inr ⟨rfl,hm,by simp[lvl]⟩) (λj=>by simp[qH])];simp[Zu,hm,arq]
  |false=>
   have h1:ks.length=1:=by
    have h2:=hc.some_ ak;have h3:¬1<ks.length:=by rw[<-Nat.blt_eq,hm];simp
    omega
   obtain⟨u,rfl⟩:=zlo.1 h1;have k0:=hK 0 u rfl;rw[pU] at k0;simp(disch:=omega) only[jU,M.fG,M.eu,M.eF,M.dI,Int.reduceBEq,aK,bg,gY,many,hm,kV,ah,k0,MZ,Nh,Nj,Nl,Np,Nq,fM,alp,cZ,DC];rw[oV,XK];rfl
 ·obtain⟨u,v,rfl⟩:=PK (hc.two ak);have hI:=ahz (hc.bin rfl).1;have hsl:=PY op;have k0:=hK 0 u rfl;have k1:=hK 1 v rfl;rw[pU] at k0;rw[Y6] at k1;rw[oV,aoA]
  by_cases h99:op=99
  ·subst h99;simp only[jU,M.fG,M.eu,M.eF,M.dI,Int.reduceBEq,aK,bg,kV,ah,k0,k1,MZ,Nh,Nj,Nl,Np,Nq,fM,alq,cZ];rfl
  ·by_cases h45:op=45
   ·subst h45;simp(disch:=omega) only[jU,M.fG,M.eu,M.eF,M.dI,Int.reduceBEq,aK,bg,kV,ae4,ah,k0,k1,(oN 45 hI).2,MZ,Nh,Nj,Nl,Np,Nq,fM,awI,ajS,ahA,cZ,DC];rfl
   ·by_cases h44:op=44
    ·subst h44;simp(disch:=omega) only[jU,M.fG,M.eu,M.eF,M.dI,Int.reduceBEq,aK,bg,kV,ae4,ah,k0,k1,(oN 44 hI).2,MZ,Nh,Nj,Nl,Np,Nq,fM,awI,ajS,ahA,cZ,DC];rfl
    ·have e1:(op==99)=false:=by simpa using h99
     have e2:(op==45)=false:=by simpa using h45
     have e3:(op==44)=false:=by simpa using h44
     simp(disch:=omega) only[jU,M.fG,M.eu,M.eF,M.dI,Int.reduceBEq,e1,e2,e3,aK,bg,kV,ae4,ah,k0,k1,(oN op hI).2,rJ,mQ,uH,MZ,Nh,Nj,Nl,Np,Nq,fM,alq,cZ,DC];simp[Zu,e1,e2,e3,oP]
 ·obtain⟨u,v,rfl⟩:=PK (hc.two ak);have hI:I64 op:=by rcases hc.asg rfl with rfl|h<;>constructor<;>omega
  have hsl:=PY op;have k0:=hK 0 u rfl;have k1:=hK 1 v rfl;rw[pU] at k0;rw[Y6] at k1;rw[oV,aoA];simp(disch:=omega) only[jU,M.fG,M.eu,M.eF,M.dI,Int.reduceBEq,aK,bg,kV,ae4,ah,k0,k1,(oN op hI).2,rJ,mQ,uH,MZ,Nh,Nj,Nl,Np,Nq,fM,alq,cZ,DC];simp[Zu,oP]
structure Ex'(u:Tn):Prop where
 ok:BA u
 e:WJ u
 sm:WV u
 sz:u.size<=1048576
def aoB{u:Tn}(h:Ex' u)(w:Bool){p:Ps}(hp:nX p=true):M.je u.kind u.op u.text u.other (fE w u.kids) p.level p.nP p.tV p.tX p.lZ=some (Ie (vH u p)):=
 M.agv (atD (aBf u h.ok h.e h.sm h.sz) (f:=5 * u.size+1) (zaO _) hp h.sz)
def ajW{u:Tn}(h:Ex' u)(w:Bool):M.nK u.kind u.op u.text u.other (fE w u.kids)=some (Ie (Dw u)):=by have h1:=aoB h w (p:=.top) rfl;simp only[Ps.top] at h1;simp only[jU,M.nK,M.TR,Em.1,ah,h1,MZ,Nh,Nj,Nl,Np,Nq,cZ];rfl
def ajX{u:Tn}(h:u.kind=16\/Ex' u)(w:Bool):M.wO u.kind u.op u.text u.other (fE w u.kids)=some (Ie (RI u)):=by
 simp only[jU,M.wO,M.TS,RI];rcases h with h|h
 ·rw[h];simp only[beq_self_eq_true,aK,kV,ah,MZ,Nh,Nj,Nl,Np,Nq,cZ]
 ·have h1:(u.kind==16)=false:=by have:=h.e;unfold WJ at this;rw[II];omega
  simp only[h1,bg,kV,ajW h w,ah,MZ,Nh,Nj,Nl,Np,Nq,fM,alp,cZ]
def aKO{ks:List Tn}(h:∀u,u∈ks->Ex' u)(hs:sizes ks<=1048575)(w:Bool):M.qI (fE w ks)=some (Ie (KO .top ks)):=
 M.agw (aBd (λu hu=>aBf u (h u hu).ok (h u hu).e (h u hu).sm (h u hu).sz) (f:=5 * sizes ks+2) (zaO _) hs)
def au9{ks:List Tn}(h:∀u,u∈ks->Ex' u)(hs:sizes ks<=1048575)(w:Bool):M.sN (fE w ks)=some (Ie (KO ⟨1,false,false,true,false⟩ ks)):=by
 have hkl:=jr ks;simp only[jU,M.sN,M.LP,M.Jq,gY];rw[ajU (ks:=ks) (p:=⟨1,false,false,true,false⟩) ak (λj u L hj hL=> ?_) (λr=> ?_)]
 ·simp only[ah,arp,MZ,Nh,Nj,Nl,Np,Nq,ajS,ahA,cZ];rfl
 ·have hjl:=(PN.1 hj).1;have hus:=iP (AU hj);obtain⟨c0,c1,c2,c3,c4⟩:=kJ w u;have h1:=aoB (h u (AU hj)) w (p:=⟨1,false,false,true,false⟩) rfl;have hw:i64.wrap ((j:Int)+1)=((j+1:Nat):Int):=by rw[aB ak ak];omega
  simp only[jU,M.ND,M.yj,F5 w hj,c0,c1,c2,c3,c4,ah,kV,ae4,M.qZ,M.G9,h1,MZ,Nh,Nj,Nl,Np,Nq,fM,yQ,rJ,mQ,uH,hw];rw[zdt ak,aK]
  by_cases h0:j=0
  ·subst h0;rw[rH ak,bg,aS ak,aK,aS ak,aK,if_pos rfl,Ig];rfl
  ·rw[zdt ak,aK,aS ak,aK,aS ak,aK,aS ak,aK,aS ak,aK,if_neg h0,Ig,JR];rfl
 ·simp only[jU,M.ND,M.yj];rw[rH ak,bg]
def aBg{ks:List Tn}(h:∀u,u∈ks->Ex' u)(wd:aA)(k op:Int)(x y:aA)(w:Bool):M.yI wd k op x y (fE w ks)=some (Ie (aas wd ks)):=by
 simp only[jU,M.yI,M.QE];cases ks with
 |nil=>rw[show(((fE w []).length:Int)==0)=true from rfl];simp only[aK,kV,ah,MZ,Nh,Nj,Nl,Np,Nq,cZ];rfl
 |cons u l=>
  have hi:idx (fE w (u::l)) 0=some (u.row w):=rfl;obtain⟨c0,c1,c2,c3,c4⟩:=kJ w u;have e0:(((fE w (u::l)).length:Int)==0)=false:=by rw[II,gY,mQ];omega
  simp only[e0,bg,kV,ah,hi,c0,c1,c2,c3,c4,ajX (.inr (h u zmf)) w,MZ,Nh,Nj,Nl,Np,Nq,fM,alp,cZ];rfl
def aYc(a b c:Tn):M.dY ([Dz false a]++[Dz false b,Dz false c])=some (Ie (lV [a,b,c])):=rfl
def a7N(a b c d e:Tn):M.dY ([Dz false a]++[Dz false b,Dz false c]++[Dz false d,Dz false e])=some (Ie (lV [a,b,c,d,e])):=rfl
def a7O(a:Tn):M.dY [Dz false a]=some (Ie (lV [a])):=rfl
def ajY(w:Bool)(ks:List Tn)(n:Nat):(fE w ks).take n=fE w (ks.take n):=by simp[X9,List.map_take]
def aGp{ks:List Tn}(h:∀u,u∈ks->Ex' u)(hs:sizes ks<=1048575)(op:Int)(x y:aA)(hop:op=0\/op=1)(hy:y≠[]->1<=ks.length)(hyl:y.length<=1048576)(w:Bool):
  M.y9 21 op x y (fE w ks)=some (Ie (ajJ op y ks)):=by
 have hkl:=jr ks;have hst:cStr [D.str [112,114,105,110,116],D.str [112,114,105,110,116,102]] op.toNat=some (bif op==0 then[112,114,105,110,116] else[112,114,105,110,116,102]):=by rcases hop with rfl|rfl<;>rfl
 have hr:(decide (0<=op) && decide (op<2))=true:=by rcases hop with rfl|rfl<;>rfl
 simp only[M.y9,M.OB,M.LQ,M.LU,hst,hr,aK,ah,kV,ajJ];have gt:∀L:List Tn,decide (((fE w L).length:Int)>0)=Nat.blt 0 L.length:=by intro L;rw[gY];exact aa1 0 L.length
 by_cases hy0:y=[]
 ·have e0:(y==[])=true:=by simpa using hy0
  have l1:=au9 h hs w;simp only[e0,zaN,aK,bg,gt];cases Nat.blt 0 ks.length with
  |true=>simp only[aK,ah,l1,MZ,Nh,Nj,Nl,Np,Nq,fM,aYc,cZ];rfl
  |false=>simp only[bg,ah,MZ,Nh,Nj,Nl,Np,Nq,fM,a7O,cZ];rfl
 ·have e0:(y==[])=false:=by simpa using hy0
  have hn:=hy hy0;have hw:i64.wrap (((fE w ks).length:Int) - 1)=((ks.length - 1:Nat):Int):=by rw[gY,aB ak ak];omega
  have hcut:cut (fE w ks) 0 ((ks.length - 1:Nat):Int)=some (fE w (ks.take (ks.length - 1))):=by rw[awF _ _ (by rw[gY];omega),ajY]
  obtain⟨u,hu⟩:∃u,ks[ks.length - 1]? =some u:=⟨ks[ks.length - 1],by simp⟩
  have hnt:qm ks (ks.length - 1)=u:=by rw[qm,hu];rfl
  obtain⟨c0,c1,c2,c3,c4⟩:=kJ w u;have he:=aoB (h u (AU hu)) w (p:=⟨9,false,false,false,false⟩) rfl;have l1:=au9 (ks:=ks.take (ks.length - 1)) (λv hv=>h v (List.mem_of_mem_take hv)) (by have:=take_size ks (ks.length - 1);omega) w;simp only[e0,Bool.not_false,aK,bg,hw,hcut,ah,gt,hnt];cases Nat.blt 0 (ks.take (ks.length - 1)).length with
  |true=>simp(disch:=omega) only[aK,ah,l1,F5 w hu,c0,c1,c2,c3,c4,he,rJ,mQ,uH,MZ,Nh,Nj,Nl,Np,Nq,fM,a7N,cZ,DC];rfl
  |false=>simp(disch:=omega) only[aK,bg,ah,l1,F5 w hu,c0,c1,c2,c3,c4,he,rJ,mQ,uH,MZ,Nh,Nj,Nl,Np,Nq,fM,aYc,cZ,DC];rfl
def atE:M.EP=some (Ie IG):=rfl
def aYd(a b c d e f g h:Tn):M.dY [Dz false a,Dz false b,Dz false c,Dz false d,Dz false e,Dz false f,Dz false g,Dz false h]=some (Ie (lV [a,b,c,d,e,f,g,h])):=rfl
def af5:∀(L:List Tn) (x:Tn),AX (L++[x])=AX L++[IG,x]
 |[],x=>rfl
 |y::L,x=>by rw[VE,AX,AX,af5 L x];rfl
def ajZ:∀(L:List Tn),(AX L).length=2 * L.length
 |[]=>rfl
 |y::L=>by have:=ajZ L;rw[AX,mQ,mQ,this,mQ];omega
def aj0:∀(L:List Tn) (x:Tn),lW (L++[x])=lW L++[gZ x]
 |[],x=>rfl
 |y::L,x=>by rw[VE,lW,lW,aj0 L x];rfl
def ST(u:Tn):Prop:=∀(w:Bool) (f:Nat),4 * u.size<=f->M.wY f u.kind u.op u.text u.other (fE w u.kids)=some (Ie (gZ u))
def BT(u:Tn):Prop:=∀(w:Bool) (f:Nat),4 * u.size<=f+2->M.qP f u.kind u.op u.text u.other (fE w u.kids)=some (Ie (gZ u))
def aGq{k op:Int}{x y:aA}{ks:List Tn}(ih:∀u,u∈ks->ST u){w:Bool}{f:Nat}(hf:4 * sizes ks+1<=f)(hu:sizes ks<=1048575):
  M.qP f k op x y (fE w ks)=some (Ie (ajI (lW ks))):=by
 obtain⟨g,rfl⟩:∃g,f=g+1:=⟨f - 1,ak⟩
 have hkl:=jr ks;have hloop:=ji (b:=M.He (M.wY g) (fE w ks) (ks.length:Int) 0 0 [] 0) (t:=((ks.length:Int),oG false (AX (lW ks)))) (λj=>((j:Int),oG false (AX (lW (ks.take j))))) ks.length
  (by
   intro j hj;obtain⟨u,hu'⟩:∃u,ks[j]? =some u:=⟨ks[j],by simp[hj]⟩
   have hus:=iP (AU hu');obtain⟨c0,c1,c2,c3,c4⟩:=kJ w u;have h1:=ih u (AU hu') w g ak;have hl:=ajZ (lW (ks.take j));rw[RN,VF] at hl;have hw:i64.wrap ((j:Int)+1)=((j+1:Nat):Int):=by rw[aB ak ak];omega
   simp only[jU,M.He,M.Ac,F5 w hu',c0,c1,c2,c3,c4,ah,atE,h1,MZ,Nh,Nj,Nl,Np,Nq,fM,yQ,mQ,uH,hw];rw[zdt ak,aK,aS ak,aK,aS ak,aK,fV hu',aj0,af5,Ig];rfl)
  (by simp only[jU,M.He,M.Ac];rw[rH ak,bg,List.take_length]) 0 (Nat.zero_le _)
 have xY:M.LV (M.wY g) (fE w ks) (ks.length:Int) 0 0 [] 0 (0,[])=some ((ks.length:Int),oG false (AX (lW ks))):=hloop;rw[M.agB];simp only[jU,M.Bg,gY,xY,ah,kV,arp,atE,MZ,Nh,Nj,Nl,Np,Nq,ajS,fM,awI,cZ];rfl
set_option maxHeartbeats 2000000 in
def aBh(t:Tn):BA t->isS t->WV t->t.size<=1048576->ST t/\(t.kind=33->BT t):=by
 refine Tn.ind (P:=λt=>BA t->isS t->WV t->t.size<=1048576->ST t/\(t.kind=33->BT t)) ?_ t;intro k op x y ks ih hok hs hsm hsz;have hc:=NI hok;simp only[isS,Tn.kind] at hs;rw[WV] at hsm;obtain⟨⟨hx,hy⟩,hss⟩:=hsm;rw[Tn.size] at hsz;have kE:∀{j:Nat} {u:Tn},ks[j]? =some u->cls k op ks.length j=0->Ex' u:=by intro j u hj hcl;obtain⟨h1,h2⟩:=Ej hok hj;rw[hcl] at h1;have:=iP (AU hj);exact⟨h2,h1,yS hss (AU hj),ak⟩
 have kE3:∀{j:Nat} {u:Tn},ks[j]? =some u->cls k op ks.length j=3->u.kind=16\/Ex' u:=by
  intro j u hj hcl;obtain⟨h1,h2⟩:=Ej hok hj;rw[hcl] at h1;have:=iP (AU hj);rcases h1 with h1|h1
  ·exact .inl h1
  ·exact .inr ⟨h2,h1,yS hss (AU hj),ak⟩
 have kB:∀{j:Nat} {u:Tn},ks[j]? =some u->cls k op ks.length j=1->BT u:=by intro j u hj hcl;obtain⟨h1,h2⟩:=Ej hok hj;rw[hcl] at h1;have h1':u.kind=33:=h1;have:=iP (AU hj);exact(ih u (AU hj) h2 (by constructor<;>omega) (yS hss (AU hj)) ak).2 h1'
 have kS:k=33->∀u,u∈ks->ST u:=by intro e u hu;subst e;obtain⟨j,hj⟩:=List.mem_iff_getElem?.1 hu;obtain⟨h1,h2⟩:=auX hok hj (.inr (by simp[cls]));have:=iP hu;exact(ih u hu h2 h1 (yS hss hu) ak).1
 have hB:k=33->BT (.mk k op x y ks):=by
  intro e w f hf;have h1:=aGq (k:=k) (op:=op) (x:=x) (y:=y) (kS e) (w:=w) (f:=f) (by rw[Tn.size] at hf;omega) ak;have h2:gZ (.mk k op x y ks)=ajI (lW ks):=by rw[gZ,e];rfl
  rw[h2];exact h1
 refine⟨λw f hf=> ?_,hB⟩;rw[Tn.size] at hf;obtain⟨g,rfl⟩:∃g,f=g+1:=⟨f - 1,ak⟩
 have aE:∀(h:∀j,cls k op ks.length j=0),∀u,u∈ks->Ex' u:=by intro h u hu;obtain⟨j,hj⟩:=List.mem_iff_getElem?.1 hu;exact kE hj (h j)
 simp only[Tn.kind,Tn.op,Tn.text,Tn.other,Tn.kids];rw[M.aje];have hk:k=20\/k=21\/k=22\/k=25\/k=26\/k=23\/k=24\/k=27\/k=28\/k=29\/k=30\/k=31\/k=32\/k=33\/k=34:=ak;rcases hk with rfl|rfl|rfl|rfl|rfl|rfl|rfl|rfl|rfl|rfl|rfl|rfl|rfl|rfl|rfl
 ·obtain⟨u,rfl⟩:=zlo.1 (hc.one ak);obtain⟨c0,c1,c2,c3,c4⟩:=kJ w u;have i0:idx (fE w [u]) 0=some (u.row w):=rfl;have h0:=ajW (kE (j:=0) (u:=u) rfl (by simp[cls])) w;simp only[jU,M.fQ,Int.reduceBEq,aK,bg,i0,c0,c1,c2,c3,c4,ah,h0,MZ,Nh,Nj,Nl,Np,Nq,cZ];rw[gZ];rfl
 ·have h0:=aGp (aE (λj=>by simp[cls])) ak op x y (hc.prn rfl).1 (hc.prn rfl).2 hy w;simp only[jU,M.fQ,Int.reduceBEq,aK,bg,ah,h0,MZ,Nh,Nj,Nl,Np,Nq,cZ];rw[gZ];rfl
 ·simp only[jU,M.fQ,Int.reduceBEq,aK,bg,ah,kV,MZ,Nh,Nj,Nl,Np,Nq,cZ];rw[gZ];rfl
 ·simp only[jU,M.fQ,Int.reduceBEq,aK,bg,ah,kV,MZ,Nh,Nj,Nl,Np,Nq,cZ];rw[gZ];rfl
 ·simp only[jU,M.fQ,Int.reduceBEq,aK,bg,ah,kV,MZ,Nh,Nj,Nl,Np,Nq,cZ];rw[gZ];rfl
 ·have h0:=aBg (aE (λj=>by simp[cls])) [101,120,105,116] 23 op x y w;simp only[jU,M.fQ,Int.reduceBEq,aK,bg,ah,h0,MZ,Nh,Nj,Nl,Np,Nq,cZ];rw[gZ];rfl
 ·have h0:=aBg (aE (λj=>by simp[cls])) [114,101,116,117,114,110] 24 op x y w;simp only[jU,M.fQ,Int.reduceBEq,aK,bg,ah,h0,MZ,Nh,Nj,Nl,Np,Nq,cZ];rw[gZ];rfl
 ·have h0:=aKO (aE (λj=>by simp[cls])) ak w;rw[gZ];cases ks with
  |nil=>rw[show fE w []=[] from rfl];simp(disch:=omega) only[jU,M.fQ,Int.reduceBEq,aK,bg,uH,ah,kV,MZ,Nh,Nj,Nl,Np,Nq,cZ,DC,show((((0:Nat):Int))==0)=true from rfl];rfl
  |cons u l=>
   have e0:(((fE w (u::l)).length:Int)==0)=false:=by rw[II,gY,mQ];omega
   simp(disch:=omega) only[jU,M.fQ,Int.reduceBEq,aK,bg,e0,rJ,mQ,uH,ah,h0,kV,MZ,Nh,Nj,Nl,Np,Nq,fM,alq,cZ,DC];rfl
 ·rw[gZ];obtain⟨g',rfl⟩:∃g',g=g'+1:=⟨g - 1,ak⟩
  rcases hc.cnd rfl with h2|h3
  ·obtain⟨u,v,rfl⟩:=PK h2;have hs2:=sz2 u v;have i0:idx (fE w [u,v]) 0=some (u.row w):=rfl;have i1:idx (fE w [u,v]) 1=some (v.row w):=rfl;obtain⟨c0,c1,c2,c3,c4⟩:=kJ w u;obtain⟨d0,d1,d2,d3,d4⟩:=kJ w v;have h0:=ajW (kE (j:=0) (u:=u) rfl (by simp[cls])) w;have h1:=kB (j:=1) (u:=v) rfl (by simp[cls]) w g' ak;have hl:decide (((fE w [u,v]).length:Int)>2)=false:=rfl;simp only[jU,M.fQ,Int.reduceBEq,aK,bg,M.Yd,M.uZ,i0,i1,c0,c1,c2,c3,c4,d0,d1,d2,d3,d4,hl,ah,h0,h1,kV,MZ,Nh,Nj,Nl,Np,Nq,fM,awI,cZ];rfl
  ·obtain⟨u,v,z,rfl⟩:=Yo h3;have hs3:=sz3 u v z;have i0:idx (fE w [u,v,z]) 0=some (u.row w):=rfl;have i1:idx (fE w [u,v,z]) 1=some (v.row w):=rfl;have i2:idx (fE w [u,v,z]) 2=some (z.row w):=rfl;obtain⟨c0,c1,c2,c3,c4⟩:=kJ w u;obtain⟨d0,d1,d2,d3,d4⟩:=kJ w v;obtain⟨e0,e1,e2,e3,e4⟩:=kJ w z;have h0:=ajW (kE (j:=0) (u:=u) rfl (by simp[cls])) w;have h1:=kB (j:=1) (u:=v) rfl (by simp[cls]) w g' ak;have h2:=kB (j:=2) (u:=z) rfl (by simp[cls]) w g' ak;have hl:decide (((fE w [u,v,z]).length:Int)>2)=true:=rfl;simp only[jU,M.fQ,Int.reduceBEq,aK,bg,M.Yd,M.uZ,i0,i1,i2,c0,c1,c2,c3,c4,d0,d1,d2,d3,d4,e0,e1,e2,e3,e4,hl,ah,h0,h1,h2,kV,MZ,Nh,Nj,Nl,Np,Nq,fM,awI,alq,cZ];rfl
 ·rw[gZ];obtain⟨u,v,rfl⟩:=PK (hc.two ak);have hs2:=sz2 u v;have i0:idx (fE w [u,v]) 0=some (u.row w):=rfl;have i1:idx (fE w [u,v]) 1=some (v.row w):=rfl;obtain⟨c0,c1,c2,c3,c4⟩:=kJ w u;obtain⟨d0,d1,d2,d3,d4⟩:=kJ w v;have h0:=ajW (kE (j:=0) (u:=u) rfl (by simp[cls])) w;have h1:=kB (j:=1) (u:=v) rfl (by simp[cls]) w g ak;simp only[jU,M.fQ,Int.reduceBEq,aK,bg,i0,i1,c0,c1,c2,c3,c4,d0,d1,d2,d3,d4,ah,h0,h1,kV,MZ,Nh,Nj,Nl,Np,Nq,fM,awI,cZ];rfl
 ·rw[gZ];obtain⟨u,v,rfl⟩:=PK (hc.two ak);have hs2:=sz2 u v;have i0:idx (fE w [u,v]) 0=some (u.row w):=rfl;have i1:idx (fE w [u,v]) 1=some (v.row w):=rfl;obtain⟨c0,c1,c2,c3,c4⟩:=kJ w u;obtain⟨d0,d1,d2,d3,d4⟩:=kJ w v;have h0:=kB (j:=0) (u:=u) rfl (by simp[cls]) w g ak;have h1:=ajW (kE (j:=1) (u:=v) rfl (by simp[cls])) w;simp only[jU,M.fQ,Int.reduceBEq,aK,bg,i0,i1,c0,c1,c2,c3,c4,d0,d1,d2,d3,d4,ah,h0,h1,kV,MZ,Nh,Nj,Nl,Np,Nq,fM,aYb,cZ];rfl
 ·rw[gZ];obtain⟨g',rfl⟩:∃g',g=g'+1:=⟨g - 1,ak⟩
  obtain⟨u,v,z,q,rfl⟩:=aoq (hc.four rfl);have hs4:sizes [u,v,z,q]=u.size+(v.size+(z.size+q.size)):=by simp[sizes]
  have i0:idx (fE w [u,v,z,q]) 0=some (u.row w):=rfl;have i1:idx (fE w [u,v,z,q]) 1=some (v.row w):=rfl;have i2:idx (fE w [u,v,z,q]) 2=some (z.row w):=rfl;have i3:idx (fE w [u,v,z,q]) 3=some (q.row w):=rfl;obtain⟨c0,c1,c2,c3,c4⟩:=kJ w u;obtain⟨d0,d1,d2,d3,d4⟩:=kJ w v;obtain⟨e0,e1,e2,e3,e4⟩:=kJ w z;obtain⟨f0,f1,f2,f3,f4⟩:=kJ w q;have h1:=ajX (kE3 (j:=1) (u:=v) rfl (by simp[cls])) w;have h2:=ajX (kE3 (j:=2) (u:=z) rfl (by simp[cls])) w;have h3:=kB (j:=3) (u:=q) rfl (by simp[cls]) w g' ak;rcases kE3 (j:=0) (u:=u) rfl (by simp[cls]) with h0|h0
  ·have n0:(u.kind !=16)=false:=by simp[h0]
   have ha:ag0 31 op x y [u,v,z,q] (lW [u,v,z,q])=lV [jC [102,111,114,32,40],jC [],jC [59],RI v,jC [59],RI z,jC [41,32],gZ q]:=by simp[ag0,qm,oP,lW,h0]
   rw[ha];simp only[jU,M.fQ,Int.reduceBEq,aK,bg,M.aaj,M.zZ,M.Io,i0,i1,i2,i3,c0,c1,c2,c3,c4,d0,d1,d2,d3,d4,e0,e1,e2,e3,e4,f0,f1,f2,f3,f4,n0,ah,h1,h2,h3,kV,MZ,Nh,Nj,Nl,Np,Nq,fM,aYd,cZ]
  ·have n0:(u.kind !=16)=true:=by have:=h0.e;unfold WJ at this;simp only[bne_iff_ne];omega
   have n1:(u.kind==16)=false:=by simpa using n0
   have ha:ag0 31 op x y [u,v,z,q] (lW [u,v,z,q])=lV [jC [102,111,114,32,40],vH u ⟨1,false,true,false,false⟩,jC [59],RI v,jC [59],RI z,jC [41,32],gZ q]:=by simp[ag0,qm,oP,lW,n1]
   have he:=aoB h0 w (p:=⟨1,false,true,false,false⟩) rfl;rw[ha];simp only[jU,M.fQ,Int.reduceBEq,aK,bg,M.aaj,M.zZ,M.Io,i0,i1,i2,i3,c0,c1,c2,c3,c4,d0,d1,d2,d3,d4,e0,e1,e2,e3,e4,f0,f1,f2,f3,f4,n0,he,ah,h1,h2,h3,kV,MZ,Nh,Nj,Nl,Np,Nq,fM,aYd,cZ]
 ·rw[gZ];obtain⟨u,rfl⟩:=zlo.1 (hc.one ak);have hs1:=sz1 u;have i0:idx (fE w [u]) 0=some (u.row w):=rfl;obtain⟨c0,c1,c2,c3,c4⟩:=kJ w u;have h0:=kB (j:=0) (u:=u) rfl (by simp[cls]) w g ak;simp(disch:=omega) only[jU,M.fQ,Int.reduceBEq,aK,bg,rJ,mQ,uH,i0,c0,c1,c2,c3,c4,ah,h0,kV,MZ,Nh,Nj,Nl,Np,Nq,fM,alp,cZ,DC];rfl
 ·have h0:=hB rfl w g (by rw[Tn.size];omega);simp only[Tn.kind,Tn.op,Tn.text,Tn.other,Tn.kids] at h0;simp only[jU,M.fQ,Int.reduceBEq,aK,bg,ah,h0,MZ,Nh,Nj,Nl,Np,Nq,cZ]
 ·simp only[jU,M.fQ,Int.reduceBEq,aK,bg,ah,kV,MZ,Nh,Nj,Nl,Np,Nq,cZ];rw[gZ];rfl
structure Bk(u:Tn):Prop where
 ok:BA u
 k:u.kind=33
 sm:WV u
 sz:u.size<=1048576
def aBi{u:Tn}(h:Bk u)(w:Bool):M.kD u.kind u.op u.text u.other (fE w u.kids)=some (Ie (gZ u)):=by have hk:=h.k;exact M.aeG ((aBh u h.ok (by constructor<;>omega) h.sm h.sz).2 hk w (4 * u.size) ak)
def Ex'.kne{u:Tn}(h:Ex' u):(u.kind==33)=false:=by have:=h.e;unfold WJ at this;rw[II];omega
def Bk.keq{u:Tn}(h:Bk u):(u.kind==33)=true:=by rw[h.k];rfl
def amM(b:Bool)(u:Tn):yE [u] b=bif u.kind==33 then(bif b then[gZ u] else[jC [32],gZ u]) else(bif b then[Dw u] else[jC [44,32],Dw u]):=by rw[yE,yE,List.append_nil]
def acP:∀(L:List Tn) (b:Bool) (x:Tn),yE (L++[x]) b=yE L b++yE [x] (L.isEmpty && b)
 |[],b,x=>rfl
 |y::L,b,x=>by rw[VE,yE,yE,acP L false x,Bool.and_false,List.isEmpty_cons,Bool.false_and,JR]
def ae6:∀(L:List Tn) (b:Bool),(yE L b).length<=2 * L.length
 |[],b=>zaO _
 |y::L,b=>by have:=ae6 L false;rw[yE,rJ,mQ];cases(y.kind==33)<;>cases b<;>simp only[aK,bg,mQ,uH]<;>omega
def aKP{ks:List Tn}(h:∀u,u∈ks->Bk u\/Ex' u)(hn:ks.length<=1000)(k op:Int)(x y:aA)(w:Bool):M.yJ k op x y (fE w ks)=some (Ie (lV (yE ks true))):=by
 have hloop:=ji (b:=M.Jr (fE w ks) (ks.length:Int) 0 0 [] 0) (t:=((ks.length:Int),oG false (yE ks true))) (λj=>((j:Int),oG false (yE (ks.take j) true))) ks.length
  (by
   intro j hj;obtain⟨u,hu'⟩:∃u,ks[j]? =some u:=⟨ks[j],by simp[hj]⟩
   obtain⟨c0,c1,c2,c3,c4⟩:=kJ w u;have hl:=ae6 (ks.take j) true;rw[VF] at hl;have hw:i64.wrap ((j:Int)+1)=((j+1:Nat):Int):=by rw[aB ak ak];omega
   have he:(ks.take j).isEmpty=decide (j=0):=by
    cases j with
    |zero=>rfl
    |succ j=>cases ks with
     |nil=>simp at hj
     |cons a l=>rfl
   simp only[jU,M.Jr,M.CS,M.uM,M.Ad,F5 w hu',c0,c1,c2,c3,c4,ah];rw[zdt ak,aK,fV hu',acP,he,Bool.and_true,Ig,amM];rcases h u (AU hu') with hb|hb
   ·have h1:=aBi hb w;rw[hb.keq]
    by_cases h0:j=0
    ·subst h0;simp(disch:=omega) only[aK,bg,kV,h1,ah,MZ,Nh,Nj,Nl,Np,Nq,fM,yQ,mQ,uH,hw,aS];rfl
    ·rw[zdt (show(j:Int)>0 by omega),rH h0];simp(disch:=omega) only[aK,bg,kV,h1,ah,MZ,Nh,Nj,Nl,Np,Nq,fM,yQ,mQ,uH,hw,aS];rfl
   ·have h1:=ajW hb w;rw[hb.kne]
    by_cases h0:j=0
    ·subst h0;simp(disch:=omega) only[aK,bg,kV,h1,ah,MZ,Nh,Nj,Nl,Np,Nq,fM,yQ,mQ,uH,hw,aS];rfl
    ·rw[zdt (show(j:Int)>0 by omega),rH h0];simp(disch:=omega) only[aK,bg,kV,h1,ah,MZ,Nh,Nj,Nl,Np,Nq,fM,yQ,mQ,uH,hw,aS];rfl)
  (by simp only[jU,M.Jr,M.CS,M.uM,M.Ad];rw[rH ak,bg,List.take_length]) 0 (Nat.zero_le _)
 have xY:M.OC (fE w ks) (ks.length:Int) 0 0 [] 0 (0,[])=some ((ks.length:Int),oG false (yE ks true)):=hloop;simp only[jU,M.yJ,M.QG,gY,xY,ah,arp,MZ,Nh,Nj,Nl,Np,Nq,cZ]
def aj1:∀(L:List (aA)) (b:Bool) (x:aA),KP (L++[x]) b=KP L b++(bif L.isEmpty && b then x else[44,32]++x)
 |[],b,x=>by simp[KP]
 |y::L,b,x=>by rw[VE,KP,KP,aj1 L false x,Bool.and_false,List.isEmpty_cons,Bool.false_and,JR]
def aaB:∀(l:List (aA)),joinL [44,32] l=KP l true/\∀x,[44,32]++joinL [44,32] (x::l)=KP (x::l) false
 |[]=>⟨rfl,λx=>by simp[joinL,KP]⟩
 |y::l=>by
  have ih:=(aaB l).2;constructor
  ·cases l with
   |nil=>simp[joinL,KP]
   |cons z l=>have h1:=(aaB l).2 z;rw[joinL,h1];rfl
  ·intro x;rw[joinL,ih y];simp[KP]
def aa3{N:Nat}:∀(l:List (aA)) (b:Bool),(∀x,x∈l->x.length<=N)->(KP l b).length<=(N+2) * l.length
 |[],b,_=>by simp[KP]
 |x::l,b,h=>by have h1:=aa3 l false (λy hy=>h y (zmm _ hy));have h2:=h x zmf;rw[KP,rJ,mQ,Nat.mul_add,Nat.mul_one];cases b<;>simp only[aK,bg,rJ,mQ,uH]<;>omega
def amN:∀l:List (aA),asZ (encS l)=some l
 |[]=>rfl
 |x::l=>by have h:=amN l;unfold encS at *;rw[PO,asZ];simp only[h]
def ava{N:Nat}:∀(l:List (aA)),(∀x,x∈l->x.length<=N)->apH l<=N * l.length
 |[],_=>zaO _
 |x::l,h=>by have h1:=ava l (λy hy=>h y (zmm _ hy));have h2:=h x zmf;rw[apH,mQ,Nat.mul_add,Nat.mul_one];omega
def aKQ{ks:List Tn}(h:∀u,u∈ks->u.text.length<=1048576)(h0:1<=ks.length)(hn:ks.length<=1000)(k op:Int)(x y:aA)(hx:x.length<=1048576)(w:Bool):M.Gx k op x y (fE w ks)=some (Zj x ks)/\(Zj x ks).length<=1060000000:=by
 obtain⟨A,hA⟩:∃A,ks.take (ks.length - 1)=A:=⟨_,rfl⟩
 have hAl:A.length+1=ks.length:=by rw[<-hA,VF];omega
 have hAm:∀u,u∈A->u.text.length<=1048576:=λu hu=>h u (List.mem_of_mem_take (hA ▸ hu))
 have hmm:∀z,z∈A.map Tn.text->z.length<=1048576:=by intro z hz;obtain⟨u,hu,rfl⟩:=List.mem_map.1 hz;exact hAm u hu
 have hloop:=ji (b:=M.LX (fE w A) (A.length:Int) k op x y (fE w ks)) (t:=((A.length:Int),encS (A.map Tn.text))) (λj=>((j:Int),encS ((A.take j).map Tn.text))) A.length
  (by
   intro j hj;obtain⟨u,hu'⟩:∃u,A[j]? =some u:=⟨A[j],by simp[hj]⟩
   obtain⟨c0,c1,c2,c3,c4⟩:=kJ w u;have hl:(encS ((A.take j).map Tn.text)).length=j:=by simp[encS];omega
   have hw:i64.wrap ((j:Int)+1)=((j+1:Nat):Int):=by rw[aB ak ak];omega
   simp only[jU,M.LX,M.Fp,F5 w hu',c0,c1,c2,c3,c4,ah,hl,mQ,uH,hw];rw[zdt ak,aK,aS ak,aK,aS ak,aK,fV hu',List.map_append,encS,encS,List.map_append];rfl)
  (by simp only[jU,M.LX,M.Fp];rw[rH ak,bg,List.take_length]) 0 (Nat.zero_le _)
 have xY:M.QH (fE w A) (A.length:Int) k op x y (fE w ks) (0,[])=some ((A.length:Int),encS (A.map Tn.text)):=hloop;have hw:i64.wrap (((fE w ks).length:Int) - 1)=((ks.length - 1:Nat):Int):=by rw[gY,aB ak ak];omega
 have hcut:cut (fE w ks) 0 ((ks.length - 1:Nat):Int)=some (fE w A):=by rw[awF _ _ (by rw[gY];omega),ajY,hA]
 have hs:=ava _ hmm;rw[zaP] at hs;have hj:M.strings_Join (encS (A.map Tn.text)) [44,32]=some (KP (A.map Tn.text) true):=by simp only[M.strings_Join,amN];rw[aS (by rw[zaP];simp only[mQ,uH];omega),aK,(aaB _).1]
 have hjl:=aa3 _ true hmm;rw[zaP] at hjl;constructor
 ·rw[gY] at hw;simp only[M.Gx,M.TT,gY,hw,hcut,ah,xY,hj];rw[aS ak,aK,aS (by simp only[rJ,mQ,uH];omega),aK,aS (by simp only[rJ,mQ,uH];omega),aK,aS (by simp only[rJ,mQ,uH];omega),aK,Zj,hA,JR]
 ·rw[Zj,hA];simp only[rJ,mQ,uH];omega
mutual
def WY:Tn->Prop
 | .mk _ _ x _ ks=>x.length<=1000000000/\DI ks
def DI:List Tn->Prop
 |[]=>True
 |t::ts=>WY t/\DI ts
end
mutual
def aj2:∀(t:Tn) (b:Nat),WY t->∀n,n∈t.flat b->n.text.length<=1000000000
 | .mk k o x y ks,b,h,n,hn=>by
  rw[WY] at h;rw[Tn.flat] at hn;rcases List.mem_append.1 hn with hn|hn
  ·exact amO ks b h.2 n hn
  ·simp only[List.mem_singleton] at hn;subst hn;exact h.1
def amO:∀(ks:List Tn) (b:Nat),DI ks->∀n,n∈jE ks b->n.text.length<=1000000000
 |[],b,_,n,hn=>by simp[jE] at hn
 |t::ts,b,h,n,hn=>by
  rw[DI] at h;rw[jE] at hn;rcases List.mem_append.1 hn with hn|hn
  ·exact aj2 t b h.1 n hn
  ·exact amO ts _ h.2 n hn
end
def rM(s:aA):WY (jC s)↔s.length<=1000000000:=by simp[jC,WY,DI]
def ars:WY UD:=by simp[UD,WY,DI]
def aj3:WY IG:=by simp[IG,WY,DI]
def aj6(d:Tn):WY (WI d)↔WY d:=by simp[WI,WY,DI]
def avb(d:Tn):WY (alo d)↔WY d:=by simp[alo,WY,DI]
def yT(l:List Tn):WY (lV l)↔DI l:=by simp[lV,WY]
def aj7:∀l:List Tn,DI l↔∀t,t∈l->WY t
 |[]=>by simp[DI]
 |t::ts=>by simp[DI,aj7 ts]
def aaC(a b:List Tn):DI (a++b)↔DI a/\DI b:=by simp only[aj7,List.mem_append];exact⟨λh=>⟨λt ht=>h t (.inl ht),λt ht=>h t (.inr ht)⟩,λh t ht=>ht.elim (h.1 t) (h.2 t)⟩
def nS{a b:Tn}(c:Bool)(ha:WY a)(hb:WY b):WY (bif c then a else b):=by cases c<;>assumption
def aj8{a b:List Tn}(c:Bool)(ha:DI a)(hb:DI b):DI (bif c then a else b):=by cases c<;>assumption
def aru:∀(L:List Tn) (b:Bool),DI L->DI (RH b L)
 |[],b,_=>by simp[RH,DI]
 |x::l,b,h=>by rw[DI] at h;rw[RH,aaC];exact⟨aj8 _ ⟨h.1,trivial⟩ ⟨by simp[rM],ars,h.1,trivial⟩,aru l false h.2⟩
def amP{L:List Tn}(h:DI L):WY (Yl L):=by rw[Yl,avb,aj6,yT];exact aru L true h
def UH:∀{L:List Tn} (j:Nat),DI L->WY (oP L j)
 |[],j,_=>by simp[oP,rM]
 |x::l,0,h=>h.1
 |x::l,j+1,h=>UH (L:=l) j h.2
def aBj(k op:Int)(n:Nat){x:aA}(g:Bool){L:List Tn}(hx:x.length<=1048576)(h:DI L):WY (Zu k op n x g L):=by
 have hs:=PY op;have h0:=UH 0 h;have h1:=UH 1 h;have h2:=UH 2 h;have hl:=amP h;unfold Zu;refine nS _ ?_ (nS _ ?_ (nS _ ?_ (nS _ ?_ (nS _ ?_ (nS _ ?_ (nS _ ?_ (nS _ ?_ (nS _ (nS _ ?_ ?_) (nS _ ?_ (nS _ ?_ ?_))))))))))
 all_goals simp only[yT,avb,aj6,DI,rM,h0,h1,h2,hl,ars,true_and,and_true,rJ,mQ,uH]
 all_goals first
  |omega
  |(cases g<;>simp only[aK,bg,rJ,mQ,uH]<;>omega)
def amQ{a:Tn}(h:WY a):WY (lV [jC [40],a,jC [41]]):=by rw[yT];exact⟨by simp[rM],h,by simp[rM],trivial⟩
def amR(k op:Int)(n:Nat)(p:Ps):∀(ts:List Tn) (j:Nat),(∀u,u∈ts->∀q,WY (oV u q))->DI (pG k op n p ts j)
 |[],j,_=>by rw[pG];trivial
 |t::ts,j,h=>by rw[pG];exact⟨nS _ (h t zmf _) (amQ (h t zmf _)),amR k op n p ts (j+1) λu hu=>h u (zmm _ hu)⟩
def amS(t:Tn):WV t->∀q,WY (oV t q):=by refine Tn.ind (P:=λt=>WV t->∀q,WY (oV t q)) ?_ t;intro k op x y ks ih hs q;rw[WV] at hs;rw[oV];exact aBj _ _ _ _ hs.1.1 (amR _ _ _ _ _ _ λu hu=>ih u hu (yS hs.2 hu))
def S9{t:Tn}(h:WV t)(q:Ps):WY (vH t q):=nS _ (amS t h q) (amQ (amS t h _))
def aaD:∀{L:List Tn} (j:Nat),WW L->WV (qm L j)
 |[],j,_=>by simp[qm,WV,WW]
 |x::l,0,h=>h.1
 |x::l,j+1,h=>aaD (L:=l) j h.2
def aj9{t:Tn}(h:WV t):WY (RI t):=by refine nS _ (by simp[rM]) ?_;rw[yT];exact⟨by simp[rM],S9 h _,trivial⟩
def amT(p:Ps){L:List Tn}(h:WW L):WY (KO p L):=by refine amP ((aj7 _).2 λt ht=> ?_);obtain⟨u,hu,rfl⟩:=List.mem_map.1 ht;exact S9 (yS h hu) p
def amU:∀{L:List Tn} (n:Nat),WW L->WW (L.take n)
 |[],n,_=>by simp[WW]
 |x::l,0,_=>by simp[WW]
 |x::l,n+1,h=>⟨h.1,amU n h.2⟩
def akb:∀{L:List Tn},DI L->DI (AX L)
 |[],_=>trivial
 |d::l,h=>⟨aj3,h.1,akb h.2⟩
def aBk{L:List Tn}(h:DI L):WY (ajI L):=by rw[ajI,yT];exact⟨by simp[rM],(aj6 _).2 ((yT _).2 (akb h)),aj3,by simp[rM],trivial⟩
def amV{w:aA}(hw:w.length<=100):∀{ks:List Tn},WW ks->WY (aas w ks)
 |[],_=>by rw[aas,rM];omega
 |t::_,h=>by rw[aas,yT];exact⟨by rw[rM];omega,aj9 h.1,trivial⟩
def aBl(op:Int){y:aA}(hy:y.length<=1048576){ks:List Tn}(h:WW ks):WY (ajJ op y ks):=by
 have h1:WW (bif y==[] then ks else ks.take (ks.length - 1)):=by
  cases(y==[]) with
  |true=>exact h
  |false=>exact amU _ h
 unfold ajJ;simp only[yT,aaC];refine⟨⟨?_,trivial⟩,aj8 _ ⟨by simp[rM],amT _ h1,trivial⟩ trivial,aj8 _ trivial ⟨?_,S9 (aaD _ h) _,trivial⟩⟩
 ·cases op==0<;>simp[rM]
 ·rw[rM];simp;omega
def aBm(k op:Int){x y:aA}{ks L:List Tn}(hx:x.length<=1048576)(hy:y.length<=1048576)(hk:WW ks)(h:DI L):WY (ag0 k op x y ks L):=by
 have n0:=aaD 0 hk;have n1:=aaD 1 hk;have n2:=aaD 2 hk;have l0:=UH 0 h;have l1:=UH 1 h;have l2:=UH 2 h;have l3:=UH 3 h;have t0:WY (Dw (qm ks 0)):=S9 n0 _;have t1:WY (Dw (qm ks 1)):=S9 n1 _;have s1:=aj9 n1;have s2:=aj9 n2;unfold ag0;refine nS _ t0 (nS _ (aBl op hy hk) (nS _ (by simp[rM]) (nS _ (by simp[rM]) (nS _ (by simp[rM]) (nS _ (amV (by simp) hk) (nS _ (amV (by simp) hk) (nS _ ?_ (nS _ ?_ (nS _ ?_ (nS _ ?_ (nS _ ?_ (nS _ ?_ (nS _ (aBk h) ?_)))))))))))))
 ·cases ks with
  |nil=>simp only[rM,rJ,mQ,uH];omega
  |cons u l=>simp only[yT,DI,rM,rJ,mQ,uH,amT .top hk,true_and,and_true];omega
 ·have hd:WY (lV [jC [105,102,32,40],Dw (qm ks 0),jC [41,32],oP L 1]):=by simp only[yT,DI,rM,t0,l1,true_and,and_true,mQ,uH];omega
  exact nS _ ((yT _).2 ⟨hd,by simp[rM],l2,trivial⟩) hd
 ·simp only[yT,DI,rM,t0,l1,true_and,and_true,mQ,uH];omega
 ·simp only[yT,DI,rM,t1,l0,true_and,and_true,mQ,uH];omega
 ·have he:WY (bif(qm ks 0).kind==16 then jC [] else(vH (qm ks 0)) ⟨1,false,true,false,false⟩):=nS _ (by simp[rM]) (S9 n0 _);simp only[yT,DI,rM,he,s1,s2,l3,true_and,and_true,mQ,uH];omega
 ·simp only[yT,DI,rM,l0,true_and,and_true,rJ,mQ,uH];omega
 ·rw[rM];omega
def amW:∀{ks:List Tn},(∀u,u∈ks->WY (gZ u))->DI (lW ks)
 |[],_=>by rw[lW];trivial
 |t::ts,h=>by rw[lW];exact⟨h t zmf,amW λu hu=>h u (zmm _ hu)⟩
def aa4(t:Tn):WV t->WY (gZ t):=by refine Tn.ind (P:=λt=>WV t->WY (gZ t)) ?_ t;intro k op x y ks ih hs;rw[WV] at hs;rw[gZ];exact aBm k op hs.1.1 hs.1.2 hs.2 (amW λu hu=>ih u hu (yS hs.2 hu))
def ae7(t:Tn):Prop:=(40<=t.kind/\t.kind<=44)\/t.kind=34
section
variable {k op:Int} {x y:aA} {ks:List Tn} (hok:BA (.mk k op x y ks)) (hss:WW ks) (hsz:sizes ks<=1048576)
include hok hss hsz
theorem aKR{j:Nat}{u:Tn}(hj:ks[j]? =some u)(hc:cls k op ks.length j=1):Bk u:=by obtain⟨h1,h2⟩:=Ej hok hj;rw[hc] at h1;have:=iP (AU hj);exact⟨h2,h1,yS hss (AU hj),ak⟩
theorem a7P{j:Nat}{u:Tn}(hj:ks[j]? =some u)(hc:cls k op ks.length j=0):Ex' u:=by obtain⟨h1,h2⟩:=Ej hok hj;rw[hc] at h1;have:=iP (AU hj);exact⟨h2,h1,yS hss (AU hj),ak⟩
theorem aYe(hk:k=42\/k=43):∀u,u∈ks->Bk u\/Ex' u:=by
 intro u hu;obtain⟨j,hj⟩:=List.mem_iff_getElem?.1 hu;have:cls k op ks.length j=1\/cls k op ks.length j=0:=by
  rcases hk with rfl|rfl
  ·have e:cls 42 op ks.length j=if op=2\/(op=3/\j+1=ks.length) then 1 else 0:=by simp[cls]
   rw[e];split
   ·exact .inl rfl
   ·exact .inr rfl
  ·have e:cls 43 op ks.length j=if j=2 then 1 else 0:=by simp[cls]
   rw[e];split
   ·exact .inl rfl
   ·exact .inr rfl
 rcases this with h|h
 ·exact .inl (aKR hok hss hsz hj h)
 ·exact .inr (a7P hok hss hsz hj h)
end
def adW{t:Tn}(h:WV t):t.text.length<=1048576:=by cases t;exact h.1.1
def akc{ks:List Tn}(h:WW ks):∀u,u∈ks->u.text.length<=1048576:=λu hu=>adW (yS h hu)
def Bk.size{u:Tn}(h:Bk u):(gZ u).size+2<=40 * u.size:=by have hk:=h.k;exact Y1 u h.ok (by constructor<;>omega)
def acQ:∀(L:List Tn) (b:Bool),(∀u,u∈L->Bk u\/Ex' u)->sizes (yE L b)<=40 * sizes L
 |[],b,_=>zaO _
 |u::l,b,h=>by
  have h1:=acQ l false (λv hv=>h v (zmm _ hv));have h2:=u.uf;rw[yE,jd,sizes];rcases h u zmf with hb|hb
  ·have h3:=hb.size;rw[hb.keq,aK];cases b<;>simp only[aK,bg,sizes,iC]<;>omega
  ·have h3:=og u .top;rw[hb.kne,bg];cases b<;>simp only[aK,bg,sizes,iC,Dw]<;>omega
def amX:∀(L:List Tn) (b:Bool),WW L->DI (yE L b)
 |[],b,_=>trivial
 |u::l,b,h=>by have h1:=amX l false h.2;have h2:=aa4 u h.1;have h3:=S9 h.1 .top;rw[yE,aaC];refine⟨?_,h1⟩;cases(u.kind==33)<;>cases b<;>simp only[aK,bg,DI,rM,Dw]<;>simp[h2,h3]
def aBn{ks:List Tn}(h:1<=ks.length):∃u,ks[ks.length - 1]? =some u/\qm ks (ks.length - 1)=u:=by have:ks.length - 1<ks.length:=ak;refine⟨ks[ks.length - 1],by simp[this], ?_⟩;simp[qm,this]
def Y7{t:Tn}(hok:BA t)(hi:ae7 t)(hs:WV t)(hz:t.size<=1048576):
  (∃u,(t.kind=40\/t.kind=41)/\t.kids=[u]/\Bk u)\/((t.kind=42\/t.kind=43)/\t.kids.length<=7/\∀u,u∈t.kids->Bk u\/Ex' u)\/
  (t.kind=44/\1<=t.kids.length/\t.kids.length<=7/\∃u,t.kids[t.kids.length - 1]? =some u/\qm t.kids (t.kids.length - 1)=u/\Bk u)\/t.kind=34:=by
 have hss:=aaz hs;have hks:=t.uf;obtain⟨k,op,x,y,ks⟩:=t;simp only[Tn.kids,Tn.kind] at *;have hc:=NI hok;unfold ae7 at hi;simp only[Tn.kind] at hi;rcases hi with hi|hi
 ·have hk:(k=40\/k=41)\/(k=42\/k=43)\/k=44:=ak;rcases hk with hk|hk|hk
  ·obtain⟨u,rfl⟩:=zlo.1 (hc.one ak);refine .inl ⟨u,hk,rfl,aKR hok hss ak (j:=0) rfl ?_⟩;rcases hk with rfl|rfl<;>simp[cls]
  ·exact .inr (.inl ⟨hk,hc.few ak ak,aYe hok hss ak hk⟩)
  ·have h1:=hc.some_ ak;obtain⟨u,h2,h3⟩:=aBn h1;refine .inr (.inr (.inl ⟨hk,h1,hc.few ak ak,u,h2,h3,aKR hok hss ak h2 ?_⟩));subst hk;simp[cls];omega
 ·exact .inr (.inr (.inr hi))
def akd{t:Tn}(hok:BA t)(hi:ae7 t)(hs:WV t)(hz:t.size<=1048576):(itemD t).size+1<=40 * t.size:=by
 have hks:=t.uf;unfold itemD;rcases Y7 hok hi hs hz with⟨u,hk,hu,hb⟩|⟨hk,hn,hb⟩|⟨hk,h1,h7,u,hu,hn,hb⟩|hk
 ·have h2:=hb.size;rw[hu,sizes,sizes] at hks;rw[hu];rcases hk with hk|hk<;>rw[hk]<;>simp only[Int.reduceBEq,aK,bg,ql,sizes,iC,qm,List.getElem?_cons_zero,Option.getD_some]<;>omega
 ·have h2:=acQ _ true hb;rcases hk with hk|hk<;>rw[hk]<;>simp only[Int.reduceBEq,aK,bg,Bool.true_or,Bool.or_true,ql]<;>omega
 ·have h2:=hb.size;have h3:=iP (AU hu);rw[hk,hn];simp only[Int.reduceBEq,aK,bg,Bool.or_false,ql,sizes,iC];omega
 ·have h2:=Y1 t hok (by constructor<;>omega);rw[hk];simp only[Int.reduceBEq,bg,Bool.or_false];omega
def amY{ks:List Tn}(h:∀u,u∈ks->u.text.length<=1048576)(h0:1<=ks.length)(hn:ks.length<=7){x:aA}(hx:x.length<=1048576):(Zj x ks).length<=10000000:=by
 have hmm:∀z,z∈(ks.take (ks.length - 1)).map Tn.text->z.length<=1048576:=by intro z hz;obtain⟨u,hu,rfl⟩:=List.mem_map.1 hz;exact h u (List.mem_of_mem_take hu)
 have h1:=aa3 _ true hmm;rw[zaP,VF] at h1;rw[Zj];simp only[rJ,mQ,uH];have h2:min (ks.length - 1) ks.length<=6:=ak;have h3:(1048576+2) * min (ks.length - 1) ks.length<=(1048576+2) * 6:=Nat.mul_le_mul_left _ h2;omega
def awJ{t:Tn}(hok:BA t)(hi:ae7 t)(hs:WV t)(hz:t.size<=1048576):WY (itemD t):=by
 have hss:=aaz hs;have h0:=aa4 t hs;unfold itemD;rcases Y7 hok hi hs hz with⟨u,hk,hu,hb⟩|⟨hk,hn,hb⟩|⟨hk,h1,h7,u,hu,hn,hb⟩|hk
 ·have h2:=aa4 u hb.sm;rw[hu];rcases hk with hk|hk<;>rw[hk]<;>simp only[Int.reduceBEq,aK,bg,yT,DI,rM,qm,List.getElem?_cons_zero,Option.getD_some]<;>simp[h2]
 ·have h2:=amX _ true hss;rcases hk with hk|hk<;>rw[hk]<;>simp only[Int.reduceBEq,aK,bg,Bool.true_or,Bool.or_true,yT]<;>exact h2
 ·have h2:=aa4 u hb.sm;have h3:=amY (akc hss) h1 h7 (adW hs);rw[hk,hn];simp only[Int.reduceBEq,aK,bg,Bool.or_false,yT,DI,rM,rJ,mQ,uH];exact⟨ak,h2,trivial⟩
 ·rw[hk];simp only[Int.reduceBEq,bg,Bool.or_false];exact h0
def aKS{t:Tn}(hok:BA t)(hi:ae7 t)(hs:WV t)(hz:t.size<=1048576)(w:Bool):M.BO t.kind t.op t.text t.other (fE w t.kids)=some (Ie (itemD t)):=by
 have hss:=aaz hs;simp only[jU,M.BO,M.QI,M.Ip,itemD];rcases Y7 hok hi hs hz with⟨u,hk,hu,hb⟩|⟨hk,hn,hb⟩|⟨hk,h1,h7,u,hu,hn,hb⟩|hk
 ·have h2:=aBi hb w;obtain⟨c0,c1,c2,c3,c4⟩:=kJ w u;have i0:idx (fE w [u]) 0=some (u.row w):=rfl;have e0:qm [u] 0=u:=rfl;rw[hu];rcases hk with hk|hk<;>rw[hk]<;>simp only[Int.reduceBEq,aK,bg,e0,i0,c0,c1,c2,c3,c4,h2,kV,ah,MZ,Nh,Nj,Nl,Np,Nq,fM,alp,cZ]
 ·have h2:=aKP hb ak t.kind t.op t.text t.other w;rcases hk with hk|hk<;>rw[hk] at h2|-<;>simp only[Int.reduceBEq,aK,bg,Bool.true_or,Bool.or_true,h2,ah,MZ,Nh,Nj,Nl,Np,Nq,cZ]
 ·have h2:=aBi hb w;have h3:=aKQ (akc hss) h1 ak t.kind t.op t.text t.other (adW hs) w;obtain⟨c0,c1,c2,c3,c4⟩:=kJ w u;have hw:i64.wrap (((fE w t.kids).length:Int) - 1)=((t.kids.length - 1:Nat):Int):=by rw[gY,aB ak ak];omega
  have hr:((Zj t.text t.kids).length+1).ble 9223372036854775807=true:=aS (by have:=h3.2;omega);rw[hk] at h3|-;rw[hn];simp only[Int.reduceBEq,aK,bg,Bool.or_false,h3.1,hr,hw,F5 w hu,c0,c1,c2,c3,c4,h2,kV,ah,MZ,Nh,Nj,Nl,Np,Nq,fM,alp,cZ]
 ·have h2:=M.agC ((aBh t hok (by constructor<;>omega) hs hz).1 w (4 * t.size) (zaO _));rw[hk] at h2|-;simp only[Int.reduceBEq,bg,Bool.or_false,h2,ah,MZ,Nh,Nj,Nl,Np,Nq,cZ]
def aaE:∀(L:List Tn) (x:Tn),tY (L++[x])=tY L++[itemD x,IG]
 |[],x=>rfl
 |y::L,x=>by rw[VE,tY,tY,aaE L x];rfl
def acR:∀(L:List Tn),(tY L).length=2 * L.length
 |[]=>rfl
 |y::L=>by have:=acR L;rw[tY,mQ,mQ,this,mQ];omega
structure It(u:Tn):Prop where
 ok:BA u
 i:ae7 u
 sm:WV u
 sz:u.size<=1048576
def af6:∀{L:List Tn},(∀u,u∈L->It u)->sizes (tY L)<=40 * sizes L
 |[],_=>zaO _
 |u::l,h=>by have h1:=af6 (λv hv=>h v (zmm _ hv));have hu:=h u zmf;have h2:=akd hu.ok hu.i hu.sm hu.sz;rw[tY,sizes,sizes,sizes,adQ];omega
def ake:∀{L:List Tn},(∀u,u∈L->It u)->DI (tY L)
 |[],_=>trivial
 |u::l,h=>by have h1:=ake (λv hv=>h v (zmm _ hv));have hu:=h u zmf;exact⟨awJ hu.ok hu.i hu.sm hu.sz,aj3,h1⟩
def aKT{t:Tn}(hok:BA t)(hk:t.kind=45)(hs:WV t)(hz:t.size<=1048576):∀u,u∈t.kids->It u:=by
 intro u hu;have hss:=aaz hs;have hks:=t.uf;obtain⟨k,op,x,y,ks⟩:=t;simp only[Tn.kids,Tn.kind] at *;obtain⟨j,hj⟩:=List.mem_iff_getElem?.1 hu;obtain⟨h1,h2⟩:=Ej hok hj;have hc:cls k op ks.length j=5:=by subst hk;simp[cls]
 rw[hc] at h1;have:=iP hu;exact⟨h2,h1,yS hss hu,ak⟩
def aoC(s:aA)(h0:s≠[])(hs:s.length<=4000000):M.Lj s 0=some ((opF s XH 0 0 0).1,((ajH s XH 0:Nat):Int)):=by
 have hl:XH.length=39:=rfl;have hn:1<=s.length:=by cases s with|nil=>exact absurd rfl h0|cons=>simp
 simp only[M.Lj,M.Xp,M.Vy,aq4,ah];rw[auZ s XH (λi g k m hg hm=> ?_) (λk m=> ?_) aA5,ah,ahx]
 ·have hi:=(PN.1 hg).1;rw[hl] at hi;have hg2:=aA5 g (AU hg);have hw1:i64.wrap (30+(i:Int))=30+(i:Int):=aB ak ak;have hw2:i64.wrap ((i:Int)+1)=(i:Int)+1:=aB ak ak;have hw3:i64.wrap ((s.length:Int) - 0)=(s.length:Int):=by rw[aB ak ak];omega
  have hw4:i64.wrap (0+(g.length:Int))=(g.length:Int):=by rw[aB ak ak];omega
  simp only[M.WE,M.KE,zu,bC,WG,VO,hg,Oa,ah,cS0,hw1,hw2,hw3,hw4,hl];rw[zdt (show((i:Int))<((39:Nat):Int) by omega),aK,zdt (show(0:Int)>=0 by omega),aK,zdt (show(0:Int)<=(s.length:Int) by omega),aK]
  by_cases hq:g.length<=s.length
  ·rw[zdt ak,aK,awF s g.length hq,ah,pre_eq g s hq,aa1];cases Nat.blt m g.length<;>cases g.isPrefixOf s<;>rfl
  ·rw[rH ak,bg,amJ g s ak,Bool.and_false];rfl
 ·simp only[M.WE,M.KE,zu];rw[rH ak,bg]
def ae8(a b:Tk)(ha:a.text.length<=2000000)(hb:b.text.length<=2000000):M.vY a.kind a.text a.at_ b.kind b.text b.at_=some (KN a b):=by
 rw[af4];simp only[M.vY,M.O1,M.zH]
 by_cases h1:a.text=[]
 ·rw[show(a.text==[])=true by simpa using h1,aK,aK]
 ·rw[show(a.text==[])=false by simpa using h1,bg,bg]
  by_cases h2:b.text=[]
  ·rw[show(b.text==[])=true by simpa using h2,aK,aK]
  ·obtain⟨c,hc,hc'⟩:=arn h1 ha;obtain⟨d,hd,hd'⟩:=au0 h2;have hop:=aoC (a.text++b.text) (by simp[h1]) (by simp only[rJ];omega);rw[show(b.text==[])=false by simpa using h2,bg,bg,hc',hd'];have hnn:∀(c:Bool) (r:Bool),some (bif !c then false else r)=bif c then some r else some false:=by intro c r;cases c<;>rfl
   simp only[hc,hd,ah,au1,Ul,gu,hop,aa1,ge_iff_le,acO,aow,Yn,hnn,aS (show a.text.length+b.text.length<=9223372036854775807 by omega),aK]
def room{n:Nat}(h:n<=1000000000):n.ble 140737488355328=true:=aS ak
def RS{n:Nat}(h:n<=1000000000):(n * 32).ble 140737488355328=true:=aS ak
def aaF{k op:Int}{x y:aA}{r:au}{j:Nat}{p:Ps}(he:1<=k/\k<=15)(hc:Cnt k op y r.length)(hj:j<r.length)(hr:r.length<=1048576):
  M.gG k op x y r (j:Int) p.level p.nP p.tV p.tX p.lZ=some (dO k op r.length j p).JV:=by
 have hb:Nat.blt j r.length=true:=by rw[Nat.blt_eq];exact hj
 have hl:=Xr he hc;have hz:(lvl k op==0)=false:=by rw[II];omega
 have ho:=ajK op;have h15:(AV op==15)=false:=by rw[II];omega
 have h2:k=12->j=0\/j=1:=λe=>by have:=hc.two ak;omega
 have hk:k=1\/k=2\/k=3\/k=4\/k=5\/k=6\/k=7\/k=8\/k=9\/k=10\/k=11\/k=13\/k=14\/k=15\/k=12:=ak;simp only[M.gG,M.Ug,(adU p).2,gu,auY j r.length hr,hb,(Y5 k op x y r).2,hz,atC,Em.2,ah,many,nb0,gt0,dO,zaN,Bool.false_or,bg];cases nX p with
 |false=>rfl
 |true=>
  rcases hk with rfl|rfl|rfl|rfl|rfl|rfl|rfl|rfl|rfl|rfl|rfl|rfl|rfl|rfl|rfl
  case inr.inr.inr.inr.inr.inr.inr.inr.inr.inr.inr.inr.inr.inr=>have hl12:lvl 12 op=AV op:=rfl;rw[hl12,h15];rcases h2 rfl with rfl|rfl<;>cases p.lZ<;>simp[Ps.JV,Y0,show Nat.beq 1 0=false from rfl]
  all_goals(cases p.lZ<;>cases hq:Nat.beq j 0<;>cases hm:Nat.blt 1 r.length<;>simp[lvl,Ps.JV,Ps.top,Y0,hq,hm])
def PS(t:Tn):Prop:=∀(o:Bool) (f:Nat) (p:Ps) (l:List Nd) (b:Nat),l.length<=1048576->Lies l b t->5 * t.size<=f->nX p=true->
 M.FP f (aZ o l) false ((b+sizes t.kids:Nat):Int) p.level p.nP p.tV p.tX p.lZ=some (mV (xH t p))
def aYf{u:Tn}(hS:PS u){o:Bool}{f:Nat}{p:Ps}{l:List Nd}{b:Nat}(hl:l.length<=1048576)(h:Lies l b u)(hf:5 * u.size+1<=f)(hp:nX p=true):
  M.wB f (aZ o l) false ((b+sizes u.kids:Nat):Int) p.level p.nP p.tV p.tX p.lZ=some (mV (abG u p)):=by
 obtain⟨g,rfl⟩:∃g,f=g+1:=⟨f - 1,ak⟩
 have hlt:=h.lt;have h1:=hS o g p l b hl h ak hp;have h2:=hS o g .top l b hl h ak rfl;have hb:=rG u .top;have hr:idx (aZ o l) ((b+sizes u.kids:Nat):Int)=some (NU o ⟨u.kind,u.op,u.text,u.other,ends u.kids b⟩):=by rw[bC,kZ,Lies.root' h];rfl
 have e1:=(nH 32 (by constructor<;>decide)).2;have e2:=(nH 33 (by constructor<;>decide)).2;simp only[Ps.top] at h2 hb;rw[M.aoc];simp only[jU,M.MH,M.Ui,M.NZ,hr,ah,Nw,PU,Pz,PV,JM,(ahw u.kind u.op u.text u.other _ p).2,Bool.not_false,aK,bg,abG];cases fits u.kind u.op p with
 |true=>simp only[aK,h1,ah,dH]
 |false=>simp(disch:=omega) only[bg,e1,e2,Em.2,ah,h2,yR,<-nR,iT,rJ,JU,mQ,uH,room,RS,dH,aK,Ps.top];rfl
def amZ:∀(L:List (List Tk)) (b:Bool) (x:List Tk),Ja b (L++[x])=Ja b L++(bif L.isEmpty && b then x else tok 36::x)
 |[],b,x=>by cases b<;>simp[Ja]
 |y::L,b,x=>by rw[VE,Ja,Ja,amZ L false x];simp
def KU(ks:List Tn):List (List Tk):=ks.map λu=>abG u .top
def am0:∀ks:List Tn,XJ (KU ks)+2 * ks.length<=8 * sizes ks
 |[]=>by simp[KU,XJ,sizes]
 |t::ts=>by have h1:=amL t .top;have h2:=am0 ts;simp only[KU,PO,XJ,sizes,mQ] at h2|-;omega
def acS(ks:List Tn)(b:Bool):(Ja b (KU ks)).length<=9 * sizes ks:=by
 have h1:=aax (KU ks) b;have h2:=am0 ks;have h3:(KU ks).length=ks.length:=by simp[KU]
 omega
def akf{k op:Int}{n:Nat}{p:Ps}(ht:∀j,qH k j=false)(hq:∀j,j<n->dO k op n j p=.top):∀(ts:List Tn) (j:Nat),j+ts.length=n->jL k op n p ts j=KU ts
 |[],j,_=>by rw[jL];rfl
 |t::ts,j,hj=>by rw[mQ] at hj;rw[jL,hq j ak,ht j,akf ht hq ts (j+1) ak,Bool.false_or];rfl
def At(l:List Nd)(b:Nat)(ks:List Tn):Prop:=∀j u,ks[j]? =some u->Lies l (b+sizes (ks.take j)) u
def mM{ks:List Tn}{b j:Nat}{u:Tn}(hj:ks[j]? =some u):idx (encI (ends ks b)) (j:Int)=some [D.int .i64 ((b+sizes (ks.take j)+sizes u.kids:Nat):Int)]:=by rw[bC,nI,YZ hj];rfl
def aBo{ks:List Tn}(ih:∀u,u∈ks->PS u){o:Bool}{f:Nat}{l:List Nd}{b:Nat}(hl:l.length<=1048576)(hat:At l b ks)(hf:5 * sizes ks+2<=f)(hu:sizes ks<=1048575):
  M.FM f (aZ o l) false (encI (ends ks b))=some (mV (Ja true (KU ks))):=by
 obtain⟨g,rfl⟩:∃g,f=g+1:=⟨f - 1,ak⟩
 have hkl:=jr ks;have e1:=(nH 36 (by constructor<;>decide)).2;have hloop:=ji (b:=M.JD (M.wB g) (encI (ends ks b)) (aZ o l) false) (t:=((ks.length:Int),mV (Ja true (KU ks)))) (λj=>((j:Int),mV (Ja true (KU (ks.take j))))) ks.length
  (by
   intro j hj;obtain⟨u,hu'⟩:∃u,ks[j]? =some u:=⟨ks[j],by simp[hj]⟩
   have hus:=iP (AU hu');have hst:=KL hu';have ha:=aYf (ih u (AU hu')) (o:=o) (f:=g) (p:=.top) hl (hat j u hu') ak rfl;have hi:=mM (b:=b) hu';have hel:=amL u .top;have hcl:=acS (ks.take j) true;have hsn:Ja true (KU (ks.take (j+1)))=Ja true (KU (ks.take j))++(bif(KU (ks.take j)).isEmpty && true then abG u .top else tok 36::abG u .top):=by rw[fV hu',KU,List.map_append];exact amZ _ _ _
   have hw:i64.wrap ((j:Int)+1)=((j+1:Nat):Int):=by rw[aB ak ak];omega
   simp only[Ps.top] at ha hel;rw[hsn];simp only[jU,M.JD,M.Dk,bf,eH];rw[zdt ak,aK]
   by_cases h0:j=0
   ·subst h0;rw[rH ak,bg];have z:(KU (ks.take 0)).isEmpty=true:=rfl;simp(disch:=omega) only[hi,ah,NV,Em.2,ha,<-nR,iT,rJ,room,RS,aK,hw,z,Bool.and_true,Ps.top]
   ·rw[zdt ak,aK];have z:(KU (ks.take j)).isEmpty=false:=by
     have hl2:(KU (ks.take j)).length=j:=by rw[KU,zaP,VF];omega
     cases hq:KU (ks.take j) with
     |nil=>rw[hq,uH] at hl2;omega
     |cons _ _=>rfl
    simp(disch:=omega) only[hi,ah,NV,Em.2,ha,e1,yR,<-nR,iT,rJ,JU,mQ,uH,room,RS,aK,bg,hw,z,Bool.false_and,Ps.top];simp)
  (by simp only[jU,M.JD,M.Dk,bf,eH];rw[rH ak,bg,List.take_length]) 0 (Nat.zero_le _)
 have e0:mV (Ja true (KU (ks.take 0)))=[]:=rfl;rw[pU,e0] at hloop;rw[M.ajj];simp only[M.FK,M.OZ,hloop,ah,dH,aK]
def abI{ks:List Tn}(ih:∀u,u∈ks->PS u){o:Bool}{f:Nat}{l:List Nd}{b:Nat}{k op:Int}{x y:aA}{p:Ps}{j:Nat}{u:Tn}(he:1<=k/\k<=15)(hc:Cnt k op y ks.length)(hp:nX p=true)(hl:l.length<=1048576)(hat:At l b ks)(hf:5 * sizes ks+1<=f)(hu:sizes ks<=1048575)(hj:ks[j]? =some u)(ht:qH k j=false):
  (idx (encI (ends ks b)) (j:Int)=some [D.int .i64 ((b+sizes (ks.take j)+sizes u.kids:Nat):Int)]/\
   M.gG k op x y (encI (ends ks b)) (j:Int) p.level p.nP p.tV p.tX p.lZ=some (dO k op ks.length j p).JV/\
   M.wB f (aZ o l) false ((b+sizes (ks.take j)+sizes u.kids:Nat):Int) (dO k op ks.length j p).JV.1 (dO k op ks.length j p).JV.2.1 (dO k op ks.length j p).JV.2.2.1 (dO k op ks.length j p).JV.2.2.2.1 (dO k op ks.length j p).JV.2.2.2.2=some (mV (wE k op ks.length p j u)))/\(wE k op ks.length p j u).length+2<=8 * u.size:=by
 have hkl:=jr ks;have hus:=iP (AU hj);have hjl:j<ks.length:=(PN.1 hj).1;have hen:(encI (ends ks b)).length=ks.length:=by rw[bf,eH]
 have hlv:lvl k op≠0:=by have:=Xr he hc;omega
 refine⟨⟨mM hj, ?_, ?_⟩,RQ (rG u)⟩
 ·have h:=aaF (x:=x) (r:=encI (ends ks b)) (j:=j) (p:=p) he (by rw[hen];exact hc) ak ak;rw[hen] at h;exact h
 ·have h:=aYf (ih u (AU hj)) (o:=o) (f:=f) (p:=dO k op ks.length j p) hl (hat j u hj) ak (xI hp hjl hlv);rw[wE,ht,Bool.false_or];exact h
def aoD{ks:List Tn}(ih:∀u,u∈ks->PS u){o:Bool}{f:Nat}{l:List Nd}{b:Nat}(hl:l.length<=1048576)(hat:At l b ks)(hf:5 * sizes ks+3<=f)(hu:sizes ks<=1048575)(t':Int)(x:aA)(c:Int)(hop:c=32\/c=34):
  M.Iw f (aZ o l) false t' x 0 (encI (ends ks b)) c=some (mV (⟨t',x,0⟩::tok c::(Ja true (KU ks)++[tok (c+1)]))):=by
 obtain⟨g,rfl⟩:∃g,f=g+1:=⟨f - 1,ak⟩
 have h1:=aBo ih (o:=o) (f:=g) (b:=b) hl hat ak hu;have h2:=acS ks true;have e1:=(nH c (by rcases hop with rfl|rfl<;>constructor<;>decide)).2;have e2:=(nH (c+1) (by rcases hop with rfl|rfl<;>constructor<;>decide)).2;have e3:i64.wrap (c+1)=c+1:=by rcases hop with rfl|rfl<;>rfl
 have hr:([[D.int .i64 t',D.str x,D.int .i64 0],[D.int .i64 c,D.str (spell c),D.int .i64 0]]:au)=mV [⟨t',x,0⟩,tok c]:=rfl;rw[M.agL];simp(disch:=omega) only[jU,M.Bo,e1,e2,e3,h1,ah,hr,yR (c+1),<-nR,iT,rJ,JU,mQ,uH,room,RS,dH,aK];simp
def akg{u:Tn}(hS:PS u)(hok:BA u)(he:WJ u)(hh:13<=lvl u.kind u.op){o:Bool}{f:Nat}{l:List Nd}{b:Nat}(hl:l.length<=1048576)(h:Lies l b u)(hf:5 * u.size+1<=f)(p:Ps)(hp:nX p=true):
  M.FN f (aZ o l) false ((b+sizes u.kids:Nat):Int)=some (mV (xH u p)):=by
 obtain⟨g,rfl⟩:∃g,f=g+1:=⟨f - 1,ak⟩
 have h1:=hS o g ⟨14,false,false,false,false⟩ l b hl h ak rfl;rw[atA u hok hh he _ p rfl hp] at h1;rw[M.aeO];simp only[M.zG,h1,ah,dH,aK]
def aaG(k:Int)(h:k=12\/k=14\/k=6\/k=11\/k=13)(j:Nat):qH k j=false:=by rcases h with rfl|rfl|rfl|rfl|rfl<;>simp[qH]
def avc{ks:List Tn}(ih:∀u,u∈ks->PS u){o:Bool}{f:Nat}{l:List Nd}{b:Nat}{k op:Int}{x y:aA}{p:Ps}(hk:k=12\/k=14)(hc:Cnt k op y ks.length)(hp:nX p=true)(hl:l.length<=1048576)(hat:At l b ks)(hf:5 * sizes ks+2<=f)(hu:sizes ks<=1048575):
  M.Iy f (aZ o l) false k op x y (encI (ends ks b)) p.level p.nP p.tV p.tX p.lZ=some (mV (JO k op ks.length x (jL k op ks.length p ks 0))):=by
 obtain⟨g,rfl⟩:∃g,f=g+1:=⟨f - 1,ak⟩
 rw[M.agM];rcases hk with rfl|rfl
 ·obtain⟨u,v,rfl⟩:=PK (hc.two ak);have hsz:=sz2 u v;obtain⟨⟨a1,a2,a3⟩,a4⟩:=abI ih (o:=o) (f:=g) (b:=b) (k:=12) (op:=op) (x:=x) (y:=y) (p:=p) (j:=0) (u:=u) ak hc hp hl hat ak hu rfl (aaG 12 ak 0);obtain⟨⟨b1,b2,b3⟩,b4⟩:=abI ih (o:=o) (f:=g) (b:=b) (k:=12) (op:=op) (x:=x) (y:=y) (p:=p) (j:=1) (u:=v) ak hc hp hl hat ak hu rfl (aaG 12 ak 1);rw[pU] at a1 a2;rw[Y6] at b1 b2;generalize (dO 12 op [u,v].length 0 p).JV=q0 at a2 a3;generalize hk0:wE 12 op [u,v].length p 0 u=K0 at a3 a4;generalize (dO 12 op [u,v].length 1 p).JV=q1 at b2 b3;generalize hk1:wE 12 op [u,v].length p 1 v=K1 at b3 b4;rw[aay,hk0,hk1]
  by_cases h99:op=99
  ·have e99:(op !=99)=false:=by simp[h99]
   simp(disch:=omega) only[jU,M.uD,a1,a2,a3,b1,b2,b3,NV,ah,Int.reduceBEq,e99,bg,<-nR,iT,rJ,JU,mQ,uH,room,RS,dH,aK];simp[JO,Dv,h99]
  ·have e99:(op !=99)=true:=by simpa using h99
   have e98:(op==99)=false:=by simpa using h99
   have e1:=(nH op (ahz (hc.bin rfl).1)).2;simp(disch:=omega) only[jU,M.uD,a1,a2,a3,b1,b2,b3,e1,NV,ah,Int.reduceBEq,e99,bg,yR,<-nR,iT,rJ,JU,mQ,uH,room,RS,dH,aK];simp[JO,Dv,e98]
 ·obtain⟨u,v,z,rfl⟩:=Yo (hc.three rfl);have hsz:=sz3 u v z;obtain⟨⟨a1,a2,a3⟩,a4⟩:=abI ih (o:=o) (f:=g) (b:=b) (k:=14) (op:=op) (x:=x) (y:=y) (p:=p) (j:=0) (u:=u) ak hc hp hl hat ak hu rfl (aaG 14 ak 0);obtain⟨⟨b1,b2,b3⟩,b4⟩:=abI ih (o:=o) (f:=g) (b:=b) (k:=14) (op:=op) (x:=x) (y:=y) (p:=p) (j:=1) (u:=v) ak hc hp hl hat ak hu rfl (aaG 14 ak 1);obtain⟨⟨c1,c2,c3⟩,c4⟩:=abI ih (o:=o) (f:=g) (b:=b) (k:=14) (op:=op) (x:=x) (y:=y) (p:=p) (j:=2) (u:=z) ak hc hp hl hat ak hu rfl (aaG 14 ak 2);rw[pU] at a1 a2;rw[Y6] at b1 b2;rw[awH] at c1 c2;generalize (dO 14 op [u,v,z].length 0 p).JV=q0 at a2 a3;generalize hk0:wE 14 op [u,v,z].length p 0 u=K0 at a3 a4;generalize (dO 14 op [u,v,z].length 1 p).JV=q1 at b2 b3;generalize hk1:wE 14 op [u,v,z].length p 1 v=K1 at b3 b4;generalize (dO 14 op [u,v,z].length 2 p).JV=q2 at c2 c3;generalize hk2:wE 14 op [u,v,z].length p 2 z=K2 at c3 c4;rw[aA7,hk0,hk1,hk2];have e1:=(nH 65 (by constructor<;>decide)).2;have e2:=(nH 66 (by constructor<;>decide)).2;simp(disch:=omega) only[jU,M.uD,a1,a2,a3,b1,b2,b3,c1,c2,c3,e1,e2,NV,ah,Int.reduceBEq,bg,yR,<-nR,iT,rJ,JU,mQ,uH,room,RS,dH,aK];simp[JO,Dv]
def ahB{k op:Int}{ks:List Tn}{p:Ps}(hp:nX p=true)(h:(lvl k op=15)\/(k=13/\Nat.blt 1 ks.length=true/\lvl k op≠0))(ht:∀j,qH k j=false):jL k op ks.length p ks 0=KU ks:=by
 refine akf ht (λj hj=> ?_) ks 0 ak;rcases h with h|⟨h1,h2,h3⟩
 ·exact KR hp hj h
 ·have hb:Nat.blt j ks.length=true:=by rw[Nat.blt_eq];exact hj
  have h4:(lvl k op==0)=false:=by simpa using h3
  subst h1;unfold dO;rw[hp,hb,h4,h2];simp
def ahC(k:Int)(x:aA):([[D.int .i64 k,D.str x,D.int .i64 0]]:au)=mV [⟨k,x,0⟩]:=rfl
def arv(x:aA):([[D.int .i64 24,D.str (spell 24),D.int .i64 0],[D.int .i64 6,D.str x,D.int .i64 0]]:au)=mV [tok 24,⟨6,x,0⟩]:=rfl
set_option maxHeartbeats 2000000 in
def awK(t:Tn):BA t->WJ t->t.size<=1048576->PS t:=by
 refine Tn.ind (P:=λt=>BA t->WJ t->t.size<=1048576->PS t) ?_ t;intro k op x y ks ih hok he hsz;intro o f p l b hl h hf hp;have a7Q:=h;simp only[WJ,Tn.kind] at he;have hc:=NI hok;have hsz':sizes ks+1=(Tn.mk k op x y ks).size:=by rw[Tn.size]
 have ih':∀u,u∈ks->PS u:=by intro u hu;obtain⟨i,hi⟩:=List.mem_iff_getElem?.1 hu;obtain⟨h1,h2⟩:=abH hok he hi;have:=iP hu;exact ih u hu h2 h1 ak
 have hat:At l b ks:=λj u hj=>Lies.RG h hj
 obtain⟨g,rfl⟩:∃g,f=g+1:=⟨f - 1,ak⟩
 have hr:idx (aZ o l) ((b+sizes ks:Nat):Int)=some (NU o ⟨k,op,x,y,ends ks b⟩):=by have hr0:l[b+sizes ks]? =some ⟨k,op,x,y,ends ks b⟩:=Lies.root' h;rw[bC,kZ,hr0];rfl
 have hkl:=jr ks;have tgt:∀{u:Tn},ks[0]? =some u->cls k op ks.length 0=6->BA u/\WJ u/\13<=lvl u.kind u.op:=by intro u hu hcls;obtain⟨h1,h2⟩:=abH hok he hu;obtain⟨h3,_⟩:=Ej hok hu;rw[hcls] at h3;exact⟨h2,h1,(aov h3).1⟩
 rw[M.ajk,Tn.kids];have hk:k=1\/k=2\/k=3\/k=4\/k=5\/k=7\/k=8\/k=6\/k=9\/k=10\/k=11\/k=13\/k=15\/k=12\/k=14:=ak;rw[xH];rcases hk with rfl|rfl|rfl|rfl|rfl|rfl|rfl|rfl|rfl|rfl|rfl|rfl|rfl|rfl|rfl
 ·simp only[jU,M.iw,M.gQ,hr,ah,Nw,PU,Pz,PV,JM,M.dw,M.bY,Int.reduceBEq,Int.reduceBNe,aK,bg,ahC];rfl
 ·simp only[jU,M.iw,M.gQ,hr,ah,Nw,PU,Pz,PV,JM,M.dw,M.bY,Int.reduceBEq,Int.reduceBNe,aK,bg,ahC];rfl
 ·simp only[jU,M.iw,M.gQ,hr,ah,Nw,PU,Pz,PV,JM,M.dw,M.bY,Int.reduceBEq,Int.reduceBNe,aK,bg,ahC];rfl
 ·simp only[jU,M.iw,M.gQ,hr,ah,Nw,PU,Pz,PV,JM,M.dw,M.bY,Int.reduceBEq,Int.reduceBNe,aK,bg,ahC];rfl
 ·have a1:=aoD ih' (o:=o) (f:=g) (b:=b) hl hat ak ak 6 x 34 (.inr rfl);rw[ahB hp (.inl rfl) (λj=>by simp[qH])];simp only[jU,M.iw,M.gQ,hr,ah,Nw,PU,Pz,PV,JM,M.dw,M.bY,Int.reduceBEq,Int.reduceBNe,aK,bg,a1,dH];rfl
 ·have a1:=aoD ih' (o:=o) (f:=g) (b:=b) hl hat ak ak 7 x 32 (.inl rfl);rw[ahB hp (.inl rfl) (λj=>by simp[qH])];simp only[jU,M.iw,M.gQ,hr,ah,Nw,PU,Pz,PV,JM,M.dw,M.bY,Int.reduceBEq,Int.reduceBNe,aK,bg,a1,dH];rfl
 ·have a1:=aoD ih' (o:=o) (f:=g) (b:=b) hl hat ak ak 8 x 32 (.inl rfl);rw[ahB hp (.inl rfl) (λj=>by simp[qH])];simp only[jU,M.iw,M.gQ,hr,ah,Nw,PU,Pz,PV,JM,M.dw,M.bY,Int.reduceBEq,Int.reduceBNe,aK,bg,a1,dH];rfl
 ·obtain⟨u,rfl⟩:=zlo.1 (hc.one ak);have hs1:=sz1 u;have e1:=(nH 68 (by constructor<;>decide)).2;obtain⟨⟨a1,a2,a3⟩,a4⟩:=abI ih' (o:=o) (f:=g) (b:=b) (k:=6) (op:=op) (x:=x) (y:=y) (p:=p) (j:=0) (u:=u) ak hc hp hl hat ak ak rfl (aaG 6 ak 0);rw[pU] at a1 a2;rw[U4];generalize (dO 6 op [u].length 0 p).JV=q0 at a2 a3;generalize wE 6 op [u].length p 0 u=K0 at a3 a4|-;simp(disch:=omega) only[jU,M.iw,M.gQ,hr,ah,Nw,PU,Pz,PV,JM,M.dw,M.bY,Int.reduceBEq,Int.reduceBNe,aK,bg,a1,a2,a3,e1,NV,yR,<-nR,iT,rJ,JU,mQ,uH,room,RS,dH];simp[JO,Dv]
 ·obtain⟨u,rfl⟩:=zlo.1 (hc.one ak);have hs1:=sz1 u;have e1:=(nH op (by rcases hc.stp ak with rfl|rfl<;>constructor<;>decide)).2;have a1:=mM (ks:=[u]) (b:=b) (j:=0) (u:=u) rfl;obtain⟨t1,t2,t3⟩:=tgt (u:=u) rfl (by simp[cls]);have a3:=akg (ih' u (by simp)) t1 t2 t3 (o:=o) (f:=g) (p:=dO 9 op [u].length 0 p) hl (hat 0 u rfl) (by rw[sz1] at hsz';omega) (xI hp (by simp) (by simp[lvl]));have a4:=rG u (dO 9 op [u].length 0 p);rw[sz1] at hsz';rw[pU] at a1;rw[U4,wE,show qH 9 0=true from rfl,Bool.true_or,aK];generalize xH u (dO 9 op [u].length 0 p)=K0 at a3 a4|-;simp(disch:=omega) only[jU,M.iw,M.gQ,hr,ah,Nw,PU,Pz,PV,JM,M.dw,M.bY,Int.reduceBEq,Int.reduceBNe,aK,bg,a1,a3,e1,NV,yR,<-nR,iT,rJ,JU,mQ,uH,room,RS,dH];simp[JO,Dv]
 ·obtain⟨u,rfl⟩:=zlo.1 (hc.one ak);have hs1:=sz1 u;have e1:=(nH op (by rcases hc.stp ak with rfl|rfl<;>constructor<;>decide)).2;have a1:=mM (ks:=[u]) (b:=b) (j:=0) (u:=u) rfl;obtain⟨t1,t2,t3⟩:=tgt (u:=u) rfl (by simp[cls]);have a3:=akg (ih' u (by simp)) t1 t2 t3 (o:=o) (f:=g) (p:=dO 10 op [u].length 0 p) hl (hat 0 u rfl) (by rw[sz1] at hsz';omega) (xI hp (by simp) (by simp[lvl]));have a4:=rG u (dO 10 op [u].length 0 p);rw[sz1] at hsz';rw[pU] at a1;rw[U4,wE,show qH 10 0=true from rfl,Bool.true_or,aK];generalize xH u (dO 10 op [u].length 0 p)=K0 at a3 a4|-;simp(disch:=omega) only[jU,M.iw,M.gQ,hr,ah,Nw,PU,Pz,PV,JM,M.dw,M.bY,Int.reduceBEq,Int.reduceBNe,aK,bg,a1,a3,e1,NV,yR,<-nR,iT,rJ,JU,mQ,uH,room,RS,dH];simp[JO,Dv]
 ·obtain⟨u,rfl⟩:=zlo.1 (hc.one ak);have hs1:=sz1 u;have e1:=(nH op (by rcases hc.una ak with rfl|rfl|rfl<;>constructor<;>decide)).2;obtain⟨⟨a1,a2,a3⟩,a4⟩:=abI ih' (o:=o) (f:=g) (b:=b) (k:=11) (op:=op) (x:=x) (y:=y) (p:=p) (j:=0) (u:=u) ak hc hp hl hat ak ak rfl (aaG 11 ak 0);rw[pU] at a1 a2;rw[U4];generalize (dO 11 op [u].length 0 p).JV=q0 at a2 a3;generalize wE 11 op [u].length p 0 u=K0 at a3 a4|-;simp(disch:=omega) only[jU,M.iw,M.gQ,hr,ah,Nw,PU,Pz,PV,JM,M.dw,M.bY,Int.reduceBEq,Int.reduceBNe,aK,bg,a1,a2,a3,e1,NV,yR,<-nR,iT,rJ,JU,mQ,uH,room,RS,dH];simp[JO,Dv]
 ·have e1:=(nH 24 (by constructor<;>decide)).2;have e2:=(nH 32 (by constructor<;>decide)).2;have e3:=(nH 33 (by constructor<;>decide)).2;obtain⟨u,hu⟩:∃u,ks[0]? =some u:=by have:=hc.some_ ak;exact⟨ks[0],by simp⟩
  obtain⟨⟨a1,a2,a3⟩,a4⟩:=abI ih' (o:=o) (f:=g) (b:=b) (k:=13) (op:=op) (x:=x) (y:=y) (p:=p) (j:=0) (u:=u) ak hc hp hl hat ak ak hu (aaG 13 ak 0);have hus:=iP (AU hu);rw[pU] at a1 a2;have hel:(encI (ends ks b)).length=ks.length:=by rw[bf,eH]
  cases hm:Nat.blt 1 ks.length with
  |true=>have b1:=aBo ih' (o:=o) (f:=g) (b:=b) hl hat ak ak;have b2:=acS ks true;rw[ahB hp (.inr ⟨rfl,hm,by simp[lvl]⟩) (λj=>by simp[qH])];simp(disch:=omega) only[jU,M.iw,M.gQ,hr,ah,Nw,PU,Pz,PV,JM,M.dw,M.bY,Int.reduceBEq,Int.reduceBNe,aK,bg,a1,a2,a3,b1,e1,e2,e3,NV,hel,many,hm,arv,yR 32,yR 33,<-nR,iT,rJ,JU,mQ,uH,room,RS,dH];simp[JO,hm]
  |false=>
   have h1:ks.length=1:=by
    have h2:=hc.some_ ak;have h3:¬1<ks.length:=by rw[<-Nat.blt_eq,hm];simp
    omega
   obtain⟨u',rfl⟩:=zlo.1 h1;obtain rfl:u'=u:=by simpa using hu
   rw[U4];generalize (dO 13 op [u'].length 0 p).JV=q0 at a2 a3;generalize wE 13 op [u'].length p 0 u'=K0 at a3 a4|-;simp(disch:=omega) only[jU,M.iw,M.gQ,hr,ah,Nw,PU,Pz,PV,JM,M.dw,M.bY,Int.reduceBEq,Int.reduceBNe,aK,bg,a1,a2,a3,e1,e2,e3,NV,hel,many,hm,arv,<-nR,iT,rJ,JU,mQ,uH,room,RS,dH];simp[JO,Dv,show Nat.blt 1 1=false from rfl]
 ·obtain⟨u,v,rfl⟩:=PK (hc.two ak);have hsv:=sz2 u v;have e1:=(nH op (by rcases hc.asg rfl with rfl|h<;>constructor<;>omega)).2;have a1:=mM (ks:=[u,v]) (b:=b) (j:=0) (u:=u) rfl;obtain⟨t1,t2,t3⟩:=tgt (u:=u) rfl (by simp[cls]);have a3:=akg (ih' u (by simp)) t1 t2 t3 (o:=o) (f:=g) (p:=dO 15 op [u,v].length 0 p) hl (hat 0 u rfl) ak (xI hp (by simp) (by simp[lvl]));have a4:=rG u (dO 15 op [u,v].length 0 p);obtain⟨⟨b1,b2,b3⟩,b4⟩:=abI ih' (o:=o) (f:=g) (b:=b) (k:=15) (op:=op) (x:=x) (y:=y) (p:=p) (j:=1) (u:=v) ak hc hp hl hat ak ak rfl rfl;rw[pU] at a1;rw[Y6] at b1 b2;have e98:(op==99)=false:=by rw[II];have:=hc.asg rfl;omega
  rw[aay]
  conv=>rhs;rw[wE,show qH 15 0=true from rfl,Bool.true_or,aK]
  generalize xH u (dO 15 op [u,v].length 0 p)=K0 at a3 a4|-;generalize (dO 15 op [u,v].length 1 p).JV=q1 at b2 b3;generalize wE 15 op [u,v].length p 1 v=K1 at b3 b4|-;simp(disch:=omega) only[jU,M.iw,M.gQ,hr,ah,Nw,PU,Pz,PV,JM,M.dw,M.bY,Int.reduceBEq,Int.reduceBNe,aK,bg,a1,a3,b1,b2,b3,e1,NV,yR,<-nR,iT,rJ,JU,mQ,uH,room,RS,dH];simp[JO,Dv,e98]
 ·have a1:=avc ih' (o:=o) (f:=g) (b:=b) (k:=12) (op:=op) (x:=x) (y:=y) (p:=p) (.inl rfl) hc hp hl hat ak ak;simp only[jU,M.iw,M.gQ,hr,ah,Nw,PU,Pz,PV,JM,M.dw,M.bY,Int.reduceBEq,Int.reduceBNe,aK,bg,a1,dH]
 ·have a1:=avc ih' (o:=o) (f:=g) (b:=b) (k:=14) (op:=op) (x:=x) (y:=y) (p:=p) (.inr rfl) hc hp hl hat ak ak;simp only[jU,M.iw,M.gQ,hr,ah,Nw,PU,Pz,PV,JM,M.dw,M.bY,Int.reduceBEq,Int.reduceBNe,aK,bg,a1,dH]
def dE(t:Tn):au:=dG true (t.flat 0)
def aaH(t:Tn):Row:=[D.sl true 4 (dE t)]
def kK(s:aA):M.aI s=some (dE (jC s)):=by simp[M.aI,M.QY,dE,jC,Tn.flat,jE,ends,dG,ae1,encI]
def atF:M.vX=some (dE UD):=by simp[M.vX,M.Q9,dE,UD,Tn.flat,jE,ends,dG,ae1,encI]
def atG:M.qN=some (dE IG):=by simp[M.qN,M.QZ,dE,IG,Tn.flat,jE,ends,dG,ae1,encI]
def oh(t:Tn):[[D.sl true 4 (dE t)]].all bn=true:=awE _
def Um(L:List Tn):aG (L.map aaH)=tZ L:=by
 induction L with
 |nil=>rfl
 |cons t L ih=>
  have h1:qo (aaH t)=[D.sl false 4 (dG false (t.flat 0))]:=by simp[aaH,qo,D.fz,dE]
  rw[PO,aG,ih,h1];rfl
section
variable (a b c d e f g h:Tn)
def fz1:aG [[D.sl true 4 (dE a)]]=tZ [a]:=Um [a]
def fz2:aG [[D.sl true 4 (dE a)],[D.sl true 4 (dE b)]]=tZ [a,b]:=Um [a,b]
def fz3:aG [[D.sl true 4 (dE a)],[D.sl true 4 (dE b)],[D.sl true 4 (dE c)]]=tZ [a,b,c]:=Um [a,b,c]
def fz4:aG [[D.sl true 4 (dE a)],[D.sl true 4 (dE b)],[D.sl true 4 (dE c)],[D.sl true 4 (dE d)]]=tZ [a,b,c,d]:=Um [a,b,c,d]
def fz5:aG [[D.sl true 4 (dE a)],[D.sl true 4 (dE b)],[D.sl true 4 (dE c)],[D.sl true 4 (dE d)],[D.sl true 4 (dE e)]]=tZ [a,b,c,d,e]:=Um [a,b,c,d,e]
def fz8:aG [[D.sl true 4 (dE a)],[D.sl true 4 (dE b)],[D.sl true 4 (dE c)],[D.sl true 4 (dE d)],[D.sl true 4 (dE e)],[D.sl true 4 (dE f)],[D.sl true 4 (dE g)],[D.sl true 4 (dE h)]]=tZ [a,b,c,d,e,f,g,h]:=Um [a,b,c,d,e,f,g,h]
end
def uS(ts:List Tn)(h:sizes ts<=90000000):M.aN 6 0 (tZ ts)=some (dE (lV ts)):=atz 6 0 ts h
def aoE(t:Tn)(h:sizes [t]<=90000000):M.aN 4 4 (tZ [t])=some (dE (WI t)):=atz 4 4 [t] h
def aBp(t:Tn)(h:sizes [t]<=90000000):M.aN 5 0 (tZ [t])=some (dE (alo t)):=atz 5 0 [t] h
def arw(p:Ps):∀ks:List Tn,sizes (psD p ks)+3 * ks.length<=16 * sizes ks
 |[]=>by simp[psD,sizes]
 |t::ts=>by have h1:=og t p;have h2:=arw p ts;simp only[psD,PO,sizes,mQ] at h2|-;omega
def DS(t:Tn):Prop:=∀(o:Bool) (f:Nat) (p:Ps) (l:List Nd) (b:Nat),l.length<=1048576->Lies l b t->5 * t.size<=f->nX p=true->
 M.FT f (aZ o l) false ((b+sizes t.kids:Nat):Int) p.level p.nP p.tV p.tX p.lZ=some (dE (oV t p))
def U5{u:Tn}{o:Bool}{l:List Nd}{b:Nat}(h:Lies l b u):idx (aZ o l) ((b+sizes u.kids:Nat):Int)=some (NU o ⟨u.kind,u.op,u.text,u.other,ends u.kids b⟩):=by rw[bC,kZ,Lies.root' h];rfl
def aKU{u:Tn}(hS:DS u){o:Bool}{f:Nat}{p:Ps}{l:List Nd}{b:Nat}(hl:l.length<=1048576)(h:Lies l b u)(hf:5 * u.size+1<=f)(hp:nX p=true):
  M.tC f (aZ o l) false ((b+sizes u.kids:Nat):Int) p.level p.nP p.tV p.tX p.lZ=some (dE (vH u p)):=by
 obtain⟨g,rfl⟩:∃g,f=g+1:=⟨f - 1,ak⟩
 have hlt:=h.lt;have h1:=hS o g p l b hl h ak hp;have h2:=hS o g .top l b hl h ak rfl;have hb:=PG u .top;simp only[Ps.top] at h2 hb;rw[M.aoe];simp only[jU,M.MI,U5 h,ah,Nw,PU,Pz,PV,JM,(ahw u.kind u.op u.text u.other _ p).2,vH];cases fits u.kind u.op p with
 |true=>simp only[aK,h1,ah]
 |false=>
  have hs:sizes [jC [40],oV u ⟨1,false,false,false,false⟩,jC [41]]<=90000000:=by simp only[sizes,iC];omega
  simp only[bg,kK,Em.2,ah,h2,fz3,uS _ hs,oh,aK,Ps.top]
def atH{ks:List Tn}(ih:∀u,u∈ks->DS u){o:Bool}{f:Nat}{p:Ps}(hp:nX p=true){l:List Nd}{b:Nat}(hl:l.length<=1048576)(hat:At l b ks)(hf:5 * sizes ks+2<=f)(hu:sizes ks<=1048575):
  M.Ap f (aZ o l) false (encI (ends ks b)) p.level p.nP p.tV p.tX p.lZ=some (dE (KO p ks)):=by
 obtain⟨g,rfl⟩:∃g,f=g+1:=⟨f - 1,ak⟩
 have hkl:=jr ks;have hpz:=arw p ks;have hcz:=aeX (psD p ks) true;rw[adV] at hcz;have hloop:=ji (b:=M.JC (M.tC g) (encI (ends ks b)) (aZ o l) false p.level p.nP p.tV p.tX p.lZ) (t:=((ks.length:Int),(RH true (psD p ks)).map aaH)) (λj=>((j:Int),(RH true (psD p (ks.take j))).map aaH)) ks.length
  (by
   intro j hj;obtain⟨u,hu'⟩:∃u,ks[j]? =some u:=⟨ks[j],by simp[hj]⟩
   have hus:=iP (AU hu');have ha:=aKU (ih u (AU hu')) (o:=o) (f:=g) (p:=p) hl (hat j u hu') ak hp;have hi:=mM (b:=b) hu';have hcl:=ajT (psD p (ks.take j)) true;rw[adV,VF] at hcl;have hw:i64.wrap ((j:Int)+1)=((j+1:Nat):Int):=by rw[aB ak ak];omega
   have e:psD p (ks.take (j+1))=psD p (ks.take j)++[vH u p]:=by rw[fV hu'];simp[psD]
   rw[e,ae5];simp only[jU,M.JC,M.Dj,bf,eH,kK,atF,hi,NV,ha,ah,rJ,zaP,mQ,uH,hw];rw[zdt ak,aK]
   by_cases h0:j=0
   ·subst h0;rw[rH ak,bg,aS ak,aK,aS ak,aK];rfl
   ·have z:(psD p (ks.take j)).isEmpty=false:=by
     cases hq:psD p (ks.take j) with
     |nil=>have:=adV p (ks.take j);rw[hq,uH,VF] at this;omega
     |cons _ _=>rfl
    rw[zdt ak,aK,aS ak,aK,aS ak,aK,aS ak,aK,aS ak,aK,z,Bool.false_and,bg,List.map_append,JR];rfl)
  (by simp only[jU,M.JC,M.Dj,bf,eH];rw[rH ak,bg,List.take_length]) 0 (Nat.zero_le _)
 have xY:M.OY (M.tC g) (encI (ends ks b)) (aZ o l) false p.level p.nP p.tV p.tX p.lZ (0,[])=some ((ks.length:Int),(RH true (psD p ks)).map aaH):=hloop;have z1:sizes [lV (RH true (psD p ks))]<=90000000:=by simp only[sizes,ql];omega
 have z2:sizes [WI (lV (RH true (psD p ks)))]<=90000000:=by simp only[sizes,ql,Ym];omega
 rw[M.ajm];simp only[M.FI,xY,ah,Um,uS _ (show sizes (RH true (psD p ks))<=90000000 by omega),oh,aK,fz1,aoE _ z1,aBp _ z2];rfl
def adX{ks:List Tn}(ih:∀u,u∈ks->DS u){o:Bool}{f:Nat}{l:List Nd}{b:Nat}{k op:Int}{x y:aA}{p:Ps}{j:Nat}{u:Tn}(he:1<=k/\k<=15)(hc:Cnt k op y ks.length)(hp:nX p=true)(hl:l.length<=1048576)(hat:At l b ks)(hf:5 * sizes ks+1<=f)(hu:sizes ks<=1048575)(hj:ks[j]? =some u)(ht:qH k j=false):
  (idx (encI (ends ks b)) (j:Int)=some [D.int .i64 ((b+sizes (ks.take j)+sizes u.kids:Nat):Int)]/\
   M.gG k op x y (encI (ends ks b)) (j:Int) p.level p.nP p.tV p.tX p.lZ=some (dO k op ks.length j p).JV/\
   M.tC f (aZ o l) false ((b+sizes (ks.take j)+sizes u.kids:Nat):Int) (dO k op ks.length j p).JV.1 (dO k op ks.length j p).JV.2.1 (dO k op ks.length j p).JV.2.2.1 (dO k op ks.length j p).JV.2.2.2.1 (dO k op ks.length j p).JV.2.2.2.2=some (dE (RJ k op ks.length p j u)))/\(RJ k op ks.length p j u).size+3<=16 * u.size:=by
 have hkl:=jr ks;have hus:=iP (AU hj);have hjl:j<ks.length:=(PN.1 hj).1;have hen:(encI (ends ks b)).length=ks.length:=by rw[bf,eH]
 have hlv:lvl k op≠0:=by have:=Xr he hc;omega
 refine⟨⟨mM hj, ?_, ?_⟩,amI (PG u)⟩
 ·have h:=aaF (x:=x) (r:=encI (ends ks b)) (j:=j) (p:=p) he (by rw[hen];exact hc) ak ak;rw[hen] at h;exact h
 ·have h:=aKU (ih u (AU hj)) (o:=o) (f:=f) (p:=dO k op ks.length j p) hl (hat j u hj) ak (xI hp hjl hlv);rw[RJ,ht,Bool.false_or];exact h
def aoF{ks:List Tn}(ih:∀u,u∈ks->DS u){o:Bool}{f:Nat}{l:List Nd}{b:Nat}(hl:l.length<=1048576)(hat:At l b ks)(hf:5 * sizes ks+3<=f)(hu:sizes ks<=1048575)(k op:Int)(x y:aA)(hx:x.length<=1048576)(c d:UInt8):
  M.IB f (aZ o l) false k op x y (encI (ends ks b)) [c] [d]=some (dE (lV [jC (x++[c]),KO .top ks,jC [d]])):=by
 obtain⟨g,rfl⟩:∃g,f=g+1:=⟨f - 1,ak⟩
 have h1:=atH ih (o:=o) (f:=g) (p:=.top) rfl (b:=b) hl hat ak hu;have h2:=PI .top ks;simp only[Ps.top] at h1 h2;have hs:sizes [jC (x++[c]),KO ⟨1,false,false,false,false⟩ ks,jC [d]]<=90000000:=by simp only[sizes,iC];omega
 rw[M.agP];simp(disch:=omega) only[M.Bl,mQ,uH,DC,aK,kK,Em.2,h1,ah,fz3,uS _ hs,oh,Ps.top]
def akh{u:Tn}(hS:DS u)(hok:BA u)(he:WJ u)(hh:13<=lvl u.kind u.op){o:Bool}{f:Nat}{l:List Nd}{b:Nat}(hl:l.length<=1048576)(h:Lies l b u)(hf:5 * u.size+1<=f)(p:Ps)(hp:nX p=true):
  M.FQ f (aZ o l) false ((b+sizes u.kids:Nat):Int)=some (dE (oV u p)):=by
 obtain⟨g,rfl⟩:∃g,f=g+1:=⟨f - 1,ak⟩
 have h1:=hS o g ⟨14,false,false,false,false⟩ l b hl h ak rfl;rw[atB u hok hh he _ p rfl hp] at h1;rw[M.aeQ];simp only[M.zF,h1,ah]
def aYg{ks:List Tn}(ih:∀u,u∈ks->DS u){o:Bool}{f:Nat}{l:List Nd}{b:Nat}{op:Int}{x y:aA}{p:Ps}(hc:Cnt 12 op y ks.length)(hp:nX p=true)(hl:l.length<=1048576)(hat:At l b ks)(hf:5 * sizes ks+2<=f)(hu:sizes ks<=1048575)(gp:Bool):
  M.N8 f (aZ o l) false 12 op x y (encI (ends ks b)) p.level p.nP p.tV p.tX p.lZ=some (dE (Zu 12 op ks.length x gp (pG 12 op ks.length p ks 0))):=by
 obtain⟨g,rfl⟩:∃g,f=g+1:=⟨f - 1,ak⟩
 rw[M.alj];obtain⟨u,v,rfl⟩:=PK (hc.two ak);have hsz:=sz2 u v;have hI:=ahz (hc.bin rfl).1;have hsl:=PY op;obtain⟨⟨a1,a2,a3⟩,a4⟩:=adX ih (o:=o) (f:=g) (b:=b) (k:=12) (op:=op) (x:=x) (y:=y) (p:=p) (j:=0) (u:=u) ak hc hp hl hat ak hu rfl (aaG 12 ak 0);obtain⟨⟨b1,b2,b3⟩,b4⟩:=adX ih (o:=o) (f:=g) (b:=b) (k:=12) (op:=op) (x:=x) (y:=y) (p:=p) (j:=1) (u:=v) ak hc hp hl hat ak hu rfl (aaG 12 ak 1);rw[pU] at a1 a2;rw[Y6] at b1 b2;rw[aoA];generalize (dO 12 op [u,v].length 0 p).JV=q0 at a2 a3;generalize RJ 12 op [u,v].length p 0 u=K0 at a3 a4|-;generalize (dO 12 op [u,v].length 1 p).JV=q1 at b2 b3;generalize RJ 12 op [u,v].length p 1 v=K1 at b3 b4|-
 by_cases h99:op=99
 ·subst h99;have hs:sizes [K0,jC [32],K1]<=90000000:=by simp only[sizes,iC];omega
  simp only[M.wC,M.Am,a1,a2,a3,b1,b2,b3,NV,ah,Int.reduceBEq,aK,bg,kK,fz3,uS _ hs,oh];rfl
 ·have e1:(op==99)=false:=by simpa using h99
  have hs:sizes [K0,jC ([32]++spell op),UD,K1]<=90000000:=by simp only[sizes,iC,aat];omega
  have z1:sizes [lV [K0,jC ([32]++spell op),UD,K1]]<=90000000:=by simp only[sizes,iC,aat,ql];omega
  have z2:sizes [WI (lV [K0,jC ([32]++spell op),UD,K1])]<=90000000:=by simp only[sizes,iC,aat,ql,Ym];omega
  by_cases h45:op=45
  ·subst h45;simp(disch:=omega) only[M.wC,M.Am,a1,a2,a3,b1,b2,b3,NV,ah,Int.reduceBEq,aK,bg,(oN 45 hI).1,kK,atF,fz4,fz1,uS _ hs,aoE _ z1,aBp _ z2,oh,DC];rfl
  ·have e2:(op==45)=false:=by simpa using h45
   by_cases h44:op=44
   ·subst h44;simp(disch:=omega) only[M.wC,M.Am,a1,a2,a3,b1,b2,b3,NV,ah,Int.reduceBEq,aK,bg,(oN 44 hI).1,kK,atF,fz4,fz1,uS _ hs,aoE _ z1,aBp _ z2,oh,DC];rfl
   ·have e3:(op==44)=false:=by simpa using h44
    have hs3:sizes [K0,jC ([32]++spell op++[32]),K1]<=90000000:=by simp only[sizes,iC];omega
    simp(disch:=omega) only[M.wC,M.Am,a1,a2,a3,b1,b2,b3,NV,ah,e1,e2,e3,aK,bg,(oN op hI).1,rJ,mQ,uH,kK,fz3,uS _ hs3,oh,DC];simp[Zu,e1,e2,e3,oP]
set_option maxHeartbeats 4000000 in
def aki(t:Tn):BA t->WJ t->WV t->t.size<=1048576->DS t:=by
 refine Tn.ind (P:=λt=>BA t->WJ t->WV t->t.size<=1048576->DS t) ?_ t;intro k op x y ks ih hok he hsm hsz;intro o f p l b hl h hf hp;have a7Q:=h;simp only[WJ,Tn.kind] at he;have hc:=NI hok;rw[WV] at hsm;obtain⟨⟨hx,hy⟩,hss⟩:=hsm;rw[Tn.size] at hsz hf;have hkE:∀u,u∈ks->BA u/\WJ u/\WV u:=by intro u hu;obtain⟨i,hi⟩:=List.mem_iff_getElem?.1 hu;obtain⟨h1,h2⟩:=abH hok he hi;exact⟨h2,h1,yS hss hu⟩
 have ih':∀u,u∈ks->DS u:=by intro u hu;obtain⟨h1,h2,h3⟩:=hkE u hu;have:=iP hu;exact ih u hu h1 h2 h3 ak
 have hat:At l b ks:=λj u hj=>Lies.RG h hj
 obtain⟨g,rfl⟩:∃g,f=g+1:=⟨f - 1,ak⟩
 have hr:idx (aZ o l) ((b+sizes ks:Nat):Int)=some (NU o ⟨k,op,x,y,ends ks b⟩):=by have hr0:l[b+sizes ks]? =some ⟨k,op,x,y,ends ks b⟩:=Lies.root' h;rw[bC,kZ,hr0];rfl
 have hkl:=jr ks;have tgt:∀{u:Tn},ks[0]? =some u->cls k op ks.length 0=6->BA u/\WJ u/\13<=lvl u.kind u.op:=by intro u hu hcls;obtain⟨h1,h2⟩:=abH hok he hu;obtain⟨h3,_⟩:=Ej hok hu;rw[hcls] at h3;exact⟨h2,h1,(aov h3).1⟩
 rw[M.ajn,Tn.kids];have hk:k=1\/k=2\/k=3\/k=4\/k=5\/k=7\/k=8\/k=6\/k=9\/k=10\/k=11\/k=13\/k=15\/k=12\/k=14:=ak;rw[oV];rcases hk with rfl|rfl|rfl|rfl|rfl|rfl|rfl|rfl|rfl|rfl|rfl|rfl|rfl|rfl|rfl
 ·simp only[jU,M.iy,M.gU,hr,ah,Nw,PU,Pz,PV,JM,M.dw,M.bY,Int.reduceBEq,Int.reduceBNe,aK,bg,kK];rfl
 ·simp only[jU,M.iy,M.gU,hr,ah,Nw,PU,Pz,PV,JM,M.dw,M.bY,Int.reduceBEq,Int.reduceBNe,aK,bg,kK];rfl
 ·simp only[jU,M.iy,M.gU,hr,ah,Nw,PU,Pz,PV,JM,M.dw,M.bY,Int.reduceBEq,Int.reduceBNe,aK,bg,kK];rfl
 ·simp only[jU,M.iy,M.gU,hr,ah,Nw,PU,Pz,PV,JM,M.dw,M.bY,Int.reduceBEq,Int.reduceBNe,aK,bg,kK];rfl
 ·have a1:=aoF ih' (o:=o) (f:=g) (b:=b) hl hat ak ak 5 op x y hx 91 93;rw[UG hp (.inl rfl) (λj=>by simp[qH])];simp only[jU,M.iy,M.gU,hr,ah,Nw,PU,Pz,PV,JM,M.dw,M.bY,Int.reduceBEq,Int.reduceBNe,aK,bg,a1];rfl
 ·have a1:=aoF ih' (o:=o) (f:=g) (b:=b) hl hat ak ak 7 op x y hx 40 41;rw[UG hp (.inl rfl) (λj=>by simp[qH])];simp only[jU,M.iy,M.gU,hr,ah,Nw,PU,Pz,PV,JM,M.dw,M.bY,Int.reduceBEq,Int.reduceBNe,aK,bg,a1];rfl
 ·have a1:=aoF ih' (o:=o) (f:=g) (b:=b) hl hat ak ak 8 op x y hx 40 41;rw[UG hp (.inl rfl) (λj=>by simp[qH])];simp only[jU,M.iy,M.gU,hr,ah,Nw,PU,Pz,PV,JM,M.dw,M.bY,Int.reduceBEq,Int.reduceBNe,aK,bg,a1];rfl
 ·obtain⟨u,rfl⟩:=zlo.1 (hc.one ak);have hs1:=sz1 u;obtain⟨⟨a1,a2,a3⟩,a4⟩:=adX ih' (o:=o) (f:=g) (b:=b) (k:=6) (op:=op) (x:=x) (y:=y) (p:=p) (j:=0) (u:=u) ak hc hp hl hat ak ak rfl (aaG 6 ak 0);rw[pU] at a1 a2;rw[XK];generalize (dO 6 op [u].length 0 p).JV=q0 at a2 a3;generalize RJ 6 op [u].length p 0 u=K0 at a3 a4|-;have hs:sizes [jC [36],K0]<=90000000:=by simp only[sizes,iC];omega
  simp only[jU,M.iy,M.gU,hr,ah,Nw,PU,Pz,PV,JM,M.dw,M.bY,Int.reduceBEq,Int.reduceBNe,aK,bg,a1,a2,a3,NV,kK,fz2,uS _ hs,oh];rfl
 ·obtain⟨u,rfl⟩:=zlo.1 (hc.one ak);have hs1:=sz1 u;have hI:I64 op:=by rcases hc.stp ak with rfl|rfl<;>constructor<;>decide
  have a1:=mM (ks:=[u]) (b:=b) (j:=0) (u:=u) rfl;obtain⟨t1,t2,t3⟩:=tgt (u:=u) rfl (by simp[cls]);have a3:=akh (ih' u (by simp)) t1 t2 t3 (o:=o) (f:=g) (p:=dO 9 op [u].length 0 p) hl (hat 0 u rfl) ak (xI hp (by simp) (by simp[lvl]));have a4:=PG u (dO 9 op [u].length 0 p);rw[pU] at a1;rw[XK,RJ,show qH 9 0=true from rfl,Bool.true_or,aK];generalize oV u (dO 9 op [u].length 0 p)=K0 at a3 a4|-;have hs:sizes [jC (spell op),K0]<=90000000:=by simp only[sizes,iC];omega
  simp only[jU,M.iy,M.gU,hr,ah,Nw,PU,Pz,PV,JM,M.dw,M.bY,Int.reduceBEq,Int.reduceBNe,aK,bg,a1,a3,(oN op hI).1,NV,kK,fz2,uS _ hs,oh];rfl
 ·obtain⟨u,rfl⟩:=zlo.1 (hc.one ak);have hs1:=sz1 u;have hI:I64 op:=by rcases hc.stp ak with rfl|rfl<;>constructor<;>decide
  have a1:=mM (ks:=[u]) (b:=b) (j:=0) (u:=u) rfl;obtain⟨t1,t2,t3⟩:=tgt (u:=u) rfl (by simp[cls]);have a3:=akh (ih' u (by simp)) t1 t2 t3 (o:=o) (f:=g) (p:=dO 10 op [u].length 0 p) hl (hat 0 u rfl) ak (xI hp (by simp) (by simp[lvl]));have a4:=PG u (dO 10 op [u].length 0 p);rw[pU] at a1;rw[XK,RJ,show qH 10 0=true from rfl,Bool.true_or,aK];generalize oV u (dO 10 op [u].length 0 p)=K0 at a3 a4|-;have hs:sizes [K0,jC (spell op)]<=90000000:=by simp only[sizes,iC];omega
  simp only[jU,M.iy,M.gU,hr,ah,Nw,PU,Pz,PV,JM,M.dw,M.bY,Int.reduceBEq,Int.reduceBNe,aK,bg,a1,a3,(oN op hI).1,NV,kK,fz2,uS _ hs,oh];rfl
 ·obtain⟨u,rfl⟩:=zlo.1 (hc.one ak);have hs1:=sz1 u;obtain⟨u1,u2,u3⟩:=hkE u (by simp);have hI:I64 op:=by rcases hc.una ak with rfl|rfl|rfl<;>constructor<;>decide
  have ihS:∀v,v∈[u]->PS v:=by intro v hv;rw[List.mem_singleton.1 hv];exact awK u u1 u2 ak
  obtain⟨⟨a1,a2,a3⟩,a4⟩:=adX ih' (o:=o) (f:=g) (b:=b) (k:=11) (op:=op) (x:=x) (y:=y) (p:=p) (j:=0) (u:=u) ak hc hp hl hat ak ak rfl (aaG 11 ak 0);obtain⟨⟨c1,c2,c3⟩,c4⟩:=abI ihS (o:=o) (f:=5 * sizes [u]+1) (b:=b) (k:=11) (op:=op) (x:=x) (y:=y) (p:=p) (j:=0) (u:=u) ak hc hp hl hat ak ak rfl (aaG 11 ak 0);have c3':=M.alg c3;rw[pU] at a1 a2;rw[XK,U4];have hne:=au8 (k:=11) (op:=op) (n:=[u].length) (p:=p) (j:=0) u1 u2;have aYh:=aA9 (k:=11) (op:=op) (n:=[u].length) (p:=p) (j:=0) u3;clear c3 c2;generalize (dO 11 op [u].length 0 p).JV=q0 at a2 a3 c3';generalize RJ 11 op [u].length p 0 u=K0 at a3 a4|-;generalize wE 11 op [u].length p 0 u=K at hne aYh c3'|-;cases K with
  |nil=>exact absurd rfl hne
  |cons t0 K=>
   have hsl:=PY op;have hg:M.vY op (spell op) 0 t0.kind t0.text t0.at_=some (KN (tok op) t0):=ae8 (tok op) t0 (by show(spell op).length<=_;omega) (by have:=aYh t0 zmf;omega);have i0:idx (mV (t0::K)) 0=some (aiD t0):=rfl;have i1:(mV (t0::K))[0]? =some (aiD t0):=rfl;have hs:sizes [jC (spell op),K0]<=90000000:=by simp only[sizes,iC];omega
   have hs2:sizes [jC (spell op++[32]),K0]<=90000000:=by simp only[sizes,iC];omega
   have ha:Zu 11 op [u].length x (amG op [t0::K]) [K0]=lV [jC (bif KN (tok op) t0 then spell op++[32] else spell op),K0]:=rfl;rw[ha];simp(disch:=omega) only[jU,M.iy,M.gU,hr,ah,Nw,PU,Pz,PV,JM,M.dw,M.bY,Int.reduceBEq,Int.reduceBNe,aK,bg,a1,a2,a3,c3',i0,i1,cT0,cT1,cT2,hg,(oN op hI).1,(nH op hI).2,NV,kK,fz2,uS _ hs,uS _ hs2,oh,DC];cases KN (tok op) t0<;>rfl
 ·obtain⟨u,hu⟩:∃u,ks[0]? =some u:=by have:=hc.some_ ak;exact⟨ks[0],by simp⟩
  obtain⟨⟨a1,a2,a3⟩,a4⟩:=adX ih' (o:=o) (f:=g) (b:=b) (k:=13) (op:=op) (x:=x) (y:=y) (p:=p) (j:=0) (u:=u) ak hc hp hl hat ak ak hu (aaG 13 ak 0);have hus:=iP (AU hu);rw[pU] at a1 a2;have hel:(encI (ends ks b)).length=ks.length:=by rw[bf,eH]
  cases hm:Nat.blt 1 ks.length with
  |true=>
   have b1:=atH ih' (o:=o) (f:=g) (p:=.top) rfl (b:=b) hl hat ak ak;have b2:=PI .top ks;simp only[Ps.top] at b1 b2;have e1:((ks.length:Int)==1)=false:=by rw[Nat.blt_eq] at hm;rw[II];omega
   have hs:sizes [jC [40],KO ⟨1,false,false,false,false⟩ ks,jC ([41,32,105,110,32]++x)]<=90000000:=by simp only[sizes,iC];omega
   rw[UG hp (.inr ⟨rfl,hm,by simp[lvl]⟩) (λj=>by simp[qH])];simp(disch:=omega) only[jU,M.iy,M.gU,hr,ah,Nw,PU,Pz,PV,JM,M.dw,M.bY,Int.reduceBEq,Int.reduceBNe,aK,bg,hel,e1,kK,Em.2,b1,fz3,uS _ hs,oh,DC];simp[Zu,hm,arq,Ps.top]
  |false=>
   have h1:ks.length=1:=by
    have h2:=hc.some_ ak;have h3:¬1<ks.length:=by rw[<-Nat.blt_eq,hm];simp
    omega
   obtain⟨u',rfl⟩:=zlo.1 h1;obtain rfl:u'=u:=by simpa using hu
   rw[XK];have e1:(([u'].length:Int)==1)=true:=rfl;generalize (dO 13 op [u'].length 0 p).JV=q0 at a2 a3;generalize RJ 13 op [u'].length p 0 u'=K0 at a3 a4|-;have hs:sizes [K0,jC ([32,105,110,32]++x)]<=90000000:=by simp only[sizes,iC];omega
   simp(disch:=omega) only[jU,M.iy,M.gU,hr,ah,Nw,PU,Pz,PV,JM,M.dw,M.bY,Int.reduceBEq,Int.reduceBNe,aK,bg,hel,e1,a1,a2,a3,NV,kK,fz2,uS _ hs,oh,DC];rfl
 ·obtain⟨u,v,rfl⟩:=PK (hc.two ak);have hsv:=sz2 u v;have hI:I64 op:=by rcases hc.asg rfl with rfl|h<;>constructor<;>omega
  have hsl:=PY op;have a1:=mM (ks:=[u,v]) (b:=b) (j:=0) (u:=u) rfl;obtain⟨t1,t2,t3⟩:=tgt (u:=u) rfl (by simp[cls]);have a3:=akh (ih' u (by simp)) t1 t2 t3 (o:=o) (f:=g) (p:=dO 15 op [u,v].length 0 p) hl (hat 0 u rfl) ak (xI hp (by simp) (by simp[lvl]));have a4:=PG u (dO 15 op [u,v].length 0 p);obtain⟨⟨b1,b2,b3⟩,b4⟩:=adX ih' (o:=o) (f:=g) (b:=b) (k:=15) (op:=op) (x:=x) (y:=y) (p:=p) (j:=1) (u:=v) ak hc hp hl hat ak ak rfl rfl;rw[pU] at a1;rw[Y6] at b1 b2;rw[aoA]
  conv=>rhs;rw[RJ,show qH 15 0=true from rfl,Bool.true_or,aK]
  generalize oV u (dO 15 op [u,v].length 0 p)=K0 at a3 a4|-;generalize (dO 15 op [u,v].length 1 p).JV=q1 at b2 b3;generalize RJ 15 op [u,v].length p 1 v=K1 at b3 b4|-;have hs3:sizes [K0,jC ([32]++spell op++[32]),K1]<=90000000:=by simp only[sizes,iC];omega
  simp(disch:=omega) only[jU,M.iy,M.gU,hr,ah,Nw,PU,Pz,PV,JM,M.dw,M.bY,Int.reduceBEq,Int.reduceBNe,aK,bg,a1,a3,b1,b2,b3,(oN op hI).1,NV,rJ,mQ,uH,kK,fz3,uS _ hs3,oh,DC];simp[Zu,oP]
 ·have a1:=aYg ih' (o:=o) (f:=g) (b:=b) (op:=op) (x:=x) (y:=y) (p:=p) hc hp hl hat ak ak (amG op (jL 12 op ks.length p ks 0));simp only[jU,M.iy,M.gU,hr,ah,Nw,PU,Pz,PV,JM,M.dw,M.bY,Int.reduceBEq,Int.reduceBNe,aK,bg,a1]
 ·obtain⟨u,v,z,rfl⟩:=Yo (hc.three rfl);have hsz3:=sz3 u v z;obtain⟨⟨a1,a2,a3⟩,a4⟩:=adX ih' (o:=o) (f:=g) (b:=b) (k:=14) (op:=op) (x:=x) (y:=y) (p:=p) (j:=0) (u:=u) ak hc hp hl hat ak ak rfl (aaG 14 ak 0);obtain⟨⟨b1,b2,b3⟩,b4⟩:=adX ih' (o:=o) (f:=g) (b:=b) (k:=14) (op:=op) (x:=x) (y:=y) (p:=p) (j:=1) (u:=v) ak hc hp hl hat ak ak rfl (aaG 14 ak 1);obtain⟨⟨c1,c2,c3⟩,c4⟩:=adX ih' (o:=o) (f:=g) (b:=b) (k:=14) (op:=op) (x:=x) (y:=y) (p:=p) (j:=2) (u:=z) ak hc hp hl hat ak ak rfl (aaG 14 ak 2);rw[pU] at a1 a2;rw[Y6] at b1 b2;rw[awH] at c1 c2;rw[aBe];generalize (dO 14 op [u,v,z].length 0 p).JV=q0 at a2 a3;generalize RJ 14 op [u,v,z].length p 0 u=K0 at a3 a4|-;generalize (dO 14 op [u,v,z].length 1 p).JV=q1 at b2 b3;generalize RJ 14 op [u,v,z].length p 1 v=K1 at b3 b4|-;generalize (dO 14 op [u,v,z].length 2 p).JV=q2 at c2 c3;generalize RJ 14 op [u,v,z].length p 2 z=K2 at c3 c4|-;have hs:sizes [K0,jC [32,63,32],K1,jC [32,58,32],K2]<=90000000:=by simp only[sizes,iC];omega
  simp only[jU,M.iy,M.gU,hr,ah,Nw,PU,Pz,PV,JM,M.dw,M.bY,Int.reduceBEq,Int.reduceBNe,aK,bg,a1,a2,a3,b1,b2,b3,c1,c2,c3,NV,kK,fz5,uS _ hs,oh];rfl
def am1:∀(ks:List Tn) (b m:Nat),(ends ks b).take m=ends (ks.take m) b
 |[],b,m=>by simp[ends]
 |t::ts,b,0=>by simp[ends]
 |t::ts,b,m+1=>by rw[ends,List.take_succ_cons,List.take_succ_cons,ends,am1 ts]
def aGr{l:List Nd}{b:Nat}{ks:List Tn}(hat:At l b ks)(m:Nat):At l b (ks.take m):=by
 intro j u hj;have hjm:j<m:=by have:=(PN.1 hj).1;rw[VF] at this;omega
 rw[List.getElem?_take,if_pos hjm] at hj;have:=hat j u hj
 rwa [List.take_take,Nat.min_eq_left ak]
section
variable {o:Bool} {l:List Nd} {b:Nat} (hl:l.length<=1048576)
include hl
theorem aKV{u:Tn}(h:Ex' u)(hh:Lies l b u){p:Ps}(hp:nX p=true):M.iq (aZ o l) false ((b+sizes u.kids:Nat):Int) p.level p.nP p.tV p.tX p.lZ=some (dE (vH u p)):=
 M.alk (aKU (aki u h.ok h.e h.sm h.sz) (f:=5 * u.size+1) hl hh (zaO _) hp)
theorem Y8{u:Tn}(h:Ex' u)(hh:Lies l b u):M.iq (aZ o l) false ((b+sizes u.kids:Nat):Int) 1 false false false false=some (dE (Dw u)):=aKV (o:=o) hl h hh (p:=.top) rfl
theorem aBq{ks:List Tn}(h:∀u,u∈ks->Ex' u)(hat:At l b ks)(hs:sizes ks<=1048575){p:Ps}(hp:nX p=true):M.kX (aZ o l) false (encI (ends ks b)) p.level p.nP p.tV p.tX p.lZ=some (dE (KO p ks)):=
 M.agQ (atH (λu hu=>aki u (h u hu).ok (h u hu).e (h u hu).sm (h u hu).sz) (f:=5 * sizes ks+2) hp hl hat (zaO _) hs)
theorem atI{u:Tn}(h:u.kind=16\/Ex' u)(hh:Lies l b u):M.sS (aZ o l) false ((b+sizes u.kids:Nat):Int)=some (dE (RI u)):=by
 simp only[M.sS,M.Rh,U5 hh,ah,Nw,RI];rcases h with h|h
 ·rw[h];simp only[beq_self_eq_true,aK,kK,ah]
 ·have h1:(u.kind==16)=false:=by have:=h.e;unfold WJ at this;rw[II];omega
  have h2:=Y8 (o:=o) hl h hh;have h3:=og u .top;have h4:=h.sz;have hs:sizes [jC [32],Dw u]<=90000000:=by simp only[sizes,iC,Dw];omega
  simp only[h1,bg,kK,Em.2,ah,h2,fz2,uS _ hs,oh,aK]
theorem aII{ks:List Tn}(h:∀u,u∈ks->Ex' u)(hat:At l b ks)(wd:aA):M.yO (aZ o l) false wd (encI (ends ks b))=some (dE (aas wd ks)):=by
 simp only[M.yO,M.Ri,bf,eH];cases ks with
 |nil=>rw[show(((([]:List Tn).length:Nat):Int)==0)=true from rfl];simp only[aK,kK,ah];rfl
 |cons u t=>
  have hu:=h u zmf;have hi:=mM (ks:=u::t) (b:=b) (j:=0) (u:=u) rfl;have h1:=atI (o:=o) hl (.inr hu) (hat 0 u rfl);have h3:=VL u;have h4:=hu.sz;have e0:((((u::t).length:Nat):Int)==0)=false:=by rw[II,mQ];omega
  have hs:sizes [jC wd,RI u]<=90000000:=by simp only[sizes,iC];omega
  rw[pU] at hi;simp only[e0,bg,kK,ah,hi,NV,h1,fz2,uS _ hs,oh,aK];rfl
theorem aYi{ks:List Tn}(h:∀u,u∈ks->Ex' u)(hat:At l b ks)(hs:sizes ks<=1048575)(op:Int)(x y:aA)(hop:op=0\/op=1)(hy:y≠[]->1<=ks.length)(hyl:y.length<=1048576):
  M.zl (aZ o l) false 21 op x y (encI (ends ks b))=some (dE (ajJ op y ks)):=by
 have hkl:=jr ks;have key:∀wd:aA,(bif !(y==[]) then
   ((cut (encI (ends ks b)) 0 (i64.wrap (((encI (ends ks b)).length:Int) - 1))).bind λrows=>(bif decide ((rows.length:Int)>0) then
    ((M.aI [32]).bind λr2=>((M.kX (aZ o l) false rows 1 false false true false).bind λr3=>(bif(1+y.length).ble 9223372036854775807 then(bif(([32]++y).length+1).ble 9223372036854775807 then((M.aI ([32]++y++[32])).bind λr4=>((idx (encI (ends ks b)) (i64.wrap (((encI (ends ks b)).length:Int) - 1))).bind λrow=>((bM IntKind.i64 row 0).bind λn=>((M.iq (aZ o l) false n 9 false false false false).bind λr5=>((M.aN 6 0 (aG ([[D.sl true 4 (dE (jC wd))]]++[[D.sl true 4 r2],[D.sl true 4 r3]]++[[D.sl true 4 r4],[D.sl true 4 r5]]))).bind λr6=>(bif[[D.sl true 4 r6]].all bn then some r6 else none)))))) else none) else none))) else
    (bif(1+y.length).ble 9223372036854775807 then(bif(([32]++y).length+1).ble 9223372036854775807 then((M.aI ([32]++y++[32])).bind λr4=>((idx (encI (ends ks b)) (i64.wrap (((encI (ends ks b)).length:Int) - 1))).bind λrow=>((bM IntKind.i64 row 0).bind λn=>((M.iq (aZ o l) false n 9 false false false false).bind λr5=>((M.aN 6 0 (aG ([[D.sl true 4 (dE (jC wd))]]++[[D.sl true 4 r4],[D.sl true 4 r5]]))).bind λr6=>(bif[[D.sl true 4 r6]].all bn then some r6 else none)))))) else none) else none))) else
   (bif decide (((encI (ends ks b)).length:Int)>0) then
    ((M.aI [32]).bind λr2=>((M.kX (aZ o l) false (encI (ends ks b)) 1 false false true false).bind λr3=>((M.aN 6 0 (aG ([[D.sl true 4 (dE (jC wd))]]++[[D.sl true 4 r2],[D.sl true 4 r3]]))).bind λr6=>(bif[[D.sl true 4 r6]].all bn then some r6 else none)))) else
    ((M.aN 6 0 (aG [[D.sl true 4 (dE (jC wd))]])).bind λr6=>(bif[[D.sl true 4 r6]].all bn then some r6 else none))))=
   some (dE (lV ([jC wd]++((bif Nat.blt 0 (bif y==[] then ks else ks.take (ks.length - 1)).length then[jC [32],KO ⟨1,false,false,true,false⟩ (bif y==[] then ks else ks.take (ks.length - 1))] else[])++
    (bif y==[] then[] else[jC (([32]++y)++[32]),vH (qm ks (ks.length - 1)) ⟨9,false,false,false,false⟩]))))):=by
  intro wd;have gt:∀L:List Tn,decide (((encI (ends L b)).length:Int)>0)=Nat.blt 0 L.length:=by intro L;rw[bf,eH];exact aa1 0 L.length
  by_cases hy0:y=[]
  ·have e0:(y==[])=true:=by simpa using hy0
   have l1:=aBq (o:=o) hl h hat hs (p:=⟨1,false,false,true,false⟩) rfl;have l2:=PI ⟨1,false,false,true,false⟩ ks;have z1:sizes [jC wd,jC [32],KO ⟨1,false,false,true,false⟩ ks]<=90000000:=by simp only[sizes,iC];omega
   have z2:sizes [jC wd]<=90000000:=by simp only[sizes,iC];omega
   simp only[e0,zaN,aK,bg,gt];cases Nat.blt 0 ks.length with
   |true=>simp only[aK,ah,kK,l1,VE,List.nil_append,fz3,uS _ z1,oh]
   |false=>simp only[bg,ah,fz1,uS _ z2,oh,aK];rfl
  ·have e0:(y==[])=false:=by simpa using hy0
   have hn:=hy hy0;have hw:i64.wrap (((encI (ends ks b)).length:Int) - 1)=((ks.length - 1:Nat):Int):=by rw[bf,eH,aB ak ak];omega
   have hcut:cut (encI (ends ks b)) 0 ((ks.length - 1:Nat):Int)=some (encI (ends (ks.take (ks.length - 1)) b)):=by rw[awF _ _ (by rw[bf,eH];omega),<-am1 ks b,encI,encI,List.map_take]
   obtain⟨u,hu⟩:∃u,ks[ks.length - 1]? =some u:=⟨ks[ks.length - 1],by simp⟩
   have hnt:qm ks (ks.length - 1)=u:=by rw[qm,hu];rfl
   have hue:=h u (AU hu);have he:=aKV (o:=o) hl hue (hat _ u hu) (p:=⟨9,false,false,false,false⟩) rfl;have hi:=mM (b:=b) hu;have s1:=og u ⟨9,false,false,false,false⟩;have s2:=hue.sz;have s3:=take_size ks (ks.length - 1);have l1:=aBq (o:=o) hl (ks:=ks.take (ks.length - 1)) (λv hv=>h v (List.mem_of_mem_take hv)) (aGr hat _) ak (p:=⟨1,false,false,true,false⟩) rfl;have l2:=PI ⟨1,false,false,true,false⟩ (ks.take (ks.length - 1));have z1:sizes [jC wd,jC [32],KO ⟨1,false,false,true,false⟩ (ks.take (ks.length - 1)),jC ([32]++y++[32]),vH u ⟨9,false,false,false,false⟩]<=90000000:=by simp only[sizes,iC];omega
   have z2:sizes [jC wd,jC ([32]++y++[32]),vH u ⟨9,false,false,false,false⟩]<=90000000:=by simp only[sizes,iC];omega
   have r1:(1+y.length).ble 9223372036854775807=true:=DC ak;have r2:(([32]++y).length+1).ble 9223372036854775807=true:=DC (by simp only[rJ,mQ,uH];omega);simp only[e0,Bool.not_false,aK,bg,hw,hcut,ah,gt,hnt,r1,r2];cases Nat.blt 0 (ks.take (ks.length - 1)).length with
   |true=>rw[VE,List.nil_append] at z1 z2|-;simp only[aK,ah,kK,l1,hi,NV,he,VE,List.nil_append,fz5,oh] at z1|-;rw[uS _ z1,ah,oh,aK]
   |false=>simp only[aK,bg,ah,kK,hi,NV,he,VE,List.nil_append,fz3,oh] at z2|-;rw[uS _ z2,ah,oh,aK]
 have hyy:∀{R:Type} (a c:R),(bif !(y==[]) then(bif !(y==[]) then a else c) else c)=bif !(y==[]) then a else c:=by intro R a c;cases(y==[])<;>rfl
 simp only[M.zl,M.O5,M.NG,M.NH,M.MK,ajJ];rcases hop with rfl|rfl
 ·have k1:=key [112,114,105,110,116];rw[show((0:Int)==1)=false from rfl,bg,kK,ah];rw[show((0:Int)==0)=true from rfl,aK,<-k1];cases(y==[])<;>rfl
 ·have k1:=key [112,114,105,110,116,102];rw[show((1:Int)==1)=true from rfl,aK,kK,ah];rw[show((1:Int)==0)=false from rfl,bg,<-k1];cases(y==[])<;>rfl
end
def SS(u:Tn):Prop:=∀(o:Bool) (f:Nat) (l:List Nd) (b:Nat),l.length<=1048576->Lies l b u->6 * u.size<=f->M.KH f (aZ o l) false ((b+sizes u.kids:Nat):Int)=some (dE (gZ u))
def BS(u:Tn):Prop:=∀(o:Bool) (f:Nat) (l:List Nd) (b:Nat),l.length<=1048576->Lies l b u->6 * u.size<=f+3->M.iE f (aZ o l) false ((b+sizes u.kids:Nat):Int)=some (dE (gZ u))
def Zk:List Tn->au
 |[]=>[]
 |d::l=>[D.sl true 4 (dE IG)]::[D.sl false 4 (dG false (d.flat 0))]::Zk l
def akj:∀(L:List Tn) (x:Tn),Zk (L++[x])=Zk L++[[D.sl true 4 (dE IG)],[D.sl false 4 (dG false (x.flat 0))]]
 |[],x=>rfl
 |y::L,x=>by rw[VE,Zk,Zk,akj L x];rfl
def am2:∀L:List Tn,(Zk L).length=2 * L.length
 |[]=>rfl
 |y::L=>by have:=am2 L;rw[Zk,mQ,mQ,this,mQ];omega
def arx:∀L:List Tn,aG (Zk L)=tZ (AX L)
 |[]=>rfl
 |d::l=>by
  have h1:qo [D.sl true 4 (dE IG)]=[D.sl false 4 (dG false (IG.flat 0))]:=by simp[qo,D.fz,dE]
  have h2:qo [D.sl false 4 (dG false (d.flat 0))]=[D.sl false 4 (dG false (d.flat 0))]:=by simp[qo,D.fz]
  rw[Zk,aG,aG,h1,h2,arx l];rfl
def aGs(L:List Tn)(hn:L.length<=1048576)(hs:sizes (AX L)<=90000000):M.zk (tZ L)=some (dE (lV (AX L))):=by
 have hpl:(tZ L).length=L.length:=by simp[tZ]
 have hloop:=ji (b:=M.Hz (tZ L)) (t:=((L.length:Int),Zk L)) (λj=>((j:Int),Zk (L.take j))) L.length
  (by
   intro j hj;obtain⟨d,hd⟩:∃d,L[j]? =some d:=⟨L[j],by simp[hj]⟩
   have hr:idx (tZ L) (j:Int)=some [.sl false 4 (dG false (d.flat 0))]:=by rw[bC];simp[tZ,hd]
   have c0:NP 4 [D.sl false 4 (dG false (d.flat 0))] 0=some (dG false (d.flat 0)):=rfl;have hll:=am2 (L.take j);rw[VF] at hll;have hw:i64.wrap ((j:Int)+1)=((j+1:Nat):Int):=by rw[aB ak ak];omega
   simp only[jU,M.Hz,M.Ak,hpl,atG,hr,ah,c0,mQ,uH,hw];rw[zdt ak,aK,aS ak,aK,aS ak,aK,fV hd,akj])
  (by simp only[jU,M.Hz,M.Ak,hpl];rw[rH ak,bg,List.take_length]) 0 (Nat.zero_le _)
 have xY:M.MG (tZ L) (0,[])=some ((L.length:Int),Zk L):=hloop;simp only[M.zk,M.OX,xY,ah,arx,uS _ hs,oh,aK]
def aBr{u:Tn}(hS:SS u)(hk:20<=u.kind/\u.kind<=34){o:Bool}{f:Nat}{l:List Nd}{b:Nat}(hl:l.length<=1048576)(h:Lies l b u)(hf:6 * u.size+1<=f):
  M.qG f (aZ o l) false ((b+sizes u.kids:Nat):Int)=some (dE (gZ u)):=by
 obtain⟨g,rfl⟩:∃g,f=g+1:=⟨f - 1,ak⟩
 have h1:=hS o g l b hl h ak;have n0:(u.kind==40)=false:=by rw[II];omega
 have n1:(u.kind==41)=false:=by rw[II];omega
 have n2:(u.kind==42)=false:=by rw[II];omega
 have n3:(u.kind==43)=false:=by rw[II];omega
 have n4:(u.kind==44)=false:=by rw[II];omega
 rw[M.Rk];simp only[jU,M.tH,U5 h,ah,Nw,PU,Pz,PV,JM,n0,n1,n2,n3,n4,bg,h1]
def aKW{ks:List Tn}{o:Bool}{f:Nat}{l:List Nd}{b:Nat}{D':Tn->Tn}(ih:∀j u,ks[j]? =some u->M.qG f (aZ o l) false ((b+sizes (ks.take j)+sizes u.kids:Nat):Int)=some (dE (D' u)))(hn:ks.length<=1048576):
  M.FX (f+1) (aZ o l) false (encI (ends ks b))=some ((ks.map D').map aaH):=by
 have hloop:=ji (b:=M.JB (M.qG f) (encI (ends ks b)) (aZ o l) false) (t:=((ks.length:Int),(ks.map D').map aaH)) (λj=>((j:Int),((ks.take j).map D').map aaH)) ks.length
  (by
   intro j hj;obtain⟨u,hu⟩:∃u,ks[j]? =some u:=⟨ks[j],by simp[hj]⟩
   have hi:=mM (b:=b) hu;have h1:=ih j u hu;have hw:i64.wrap ((j:Int)+1)=((j+1:Nat):Int):=by rw[aB ak ak];omega
   simp only[jU,M.JB,M.Df,bf,eH,hi,ah,NV,h1,zaP,VF,mQ,uH,hw];rw[zdt ak,aK,aS ak,aK,aS ak,aK,fV hu,List.map_append,List.map_append];rfl)
  (by simp only[jU,M.JB,M.Df,bf,eH];rw[rH ak,bg,List.take_length]) 0 (Nat.zero_le _)
 have xY:M.OU (M.qG f) (encI (ends ks b)) (aZ o l) false (0,[])=some ((ks.length:Int),(ks.map D').map aaH):=hloop;rw[M.ajr];simp only[M.FD,xY,ah]
def am3:∀ks:List Tn,lW ks=ks.map gZ
 |[]=>rfl
 |t::ts=>by rw[lW,am3 ts];rfl
def aGt{k op:Int}{x y:aA}{ks:List Tn}(ih:∀u,u∈ks->SS u/\(20<=u.kind/\u.kind<=34)){o:Bool}{f:Nat}{l:List Nd}{b:Nat}(hl:l.length<=1048576)(h:Lies l b (.mk k op x y ks))(hf:6 * sizes ks+3<=f)(hu:sizes ks<=1048575)(hz:sizes (lW ks)+2 * ks.length<=40 * sizes ks):
  M.iE f (aZ o l) false ((b+sizes ks:Nat):Int)=some (dE (ajI (lW ks))):=by
 obtain⟨g,rfl⟩:∃g,f=g+1+1:=⟨f - 2,ak⟩
 have hkl:=jr ks;have hr:idx (aZ o l) ((b+sizes ks:Nat):Int)=some (NU o ⟨k,op,x,y,ends ks b⟩):=U5 h;have hk:M.FX (g+1) (aZ o l) false (encI (ends ks b))=some ((lW ks).map aaH):=by rw[am3];refine aKW (λj u hj=> ?_) ak;obtain⟨h1,h2⟩:=ih u (AU hj);have:=iP (AU hj);exact aBr h1 h2 hl (Lies.RG h hj) ak
 have hll:=aau (lW ks);rw[RN] at hll;have hL:=aGs (lW ks) (by rw[RN];omega) ak;have z1:sizes [lV (AX (lW ks))]<=90000000:=by simp only[sizes,ql];omega
 have z2:sizes [jC [123],WI (lV (AX (lW ks))),IG,jC [125]]<=90000000:=by simp only[sizes,ql,Ym,iC,adQ];omega
 rw[M.agV];simp only[M.Bj,kK,atG,hr,ah,JM,hk,Um,hL,oh,aK,fz1,aoE _ z1,fz4,uS _ z2];rfl
set_option maxHeartbeats 4000000 in
def aBs(t:Tn):BA t->isS t->WV t->t.size<=1048576->SS t/\(t.kind=33->BS t):=by
 refine Tn.ind (P:=λt=>BA t->isS t->WV t->t.size<=1048576->SS t/\(t.kind=33->BS t)) ?_ t;intro k op x y ks ih hok hs hsm hsz;have hc:=NI hok;simp only[isS,Tn.kind] at hs;rw[WV] at hsm;obtain⟨⟨hx,hy⟩,hss⟩:=hsm;rw[Tn.size] at hsz;have kE:∀{j:Nat} {u:Tn},ks[j]? =some u->cls k op ks.length j=0->Ex' u:=by intro j u hj hcl;obtain⟨h1,h2⟩:=Ej hok hj;rw[hcl] at h1;have:=iP (AU hj);exact⟨h2,h1,yS hss (AU hj),ak⟩
 have kE3:∀{j:Nat} {u:Tn},ks[j]? =some u->cls k op ks.length j=3->u.kind=16\/Ex' u:=by
  intro j u hj hcl;obtain⟨h1,h2⟩:=Ej hok hj;rw[hcl] at h1;have:=iP (AU hj);rcases h1 with h1|h1
  ·exact .inl h1
  ·exact .inr ⟨h2,h1,yS hss (AU hj),ak⟩
 have kB:∀{j:Nat} {u:Tn},ks[j]? =some u->cls k op ks.length j=1->BS u/\(gZ u).size+2<=40 * u.size:=by intro j u hj hcl;obtain⟨h1,h2⟩:=Ej hok hj;rw[hcl] at h1;have h1':u.kind=33:=h1;have:=iP (AU hj);exact⟨(ih u (AU hj) h2 (by constructor<;>omega) (yS hss (AU hj)) ak).2 h1',Y1 u h2 (by constructor<;>omega)⟩
 have kS:k=33->∀u,u∈ks->SS u/\(20<=u.kind/\u.kind<=34):=by intro e u hu;subst e;obtain⟨j,hj⟩:=List.mem_iff_getElem?.1 hu;obtain⟨h1,h2⟩:=auX hok hj (.inr (by simp[cls]));have:=iP hu;exact⟨(ih u hu h2 h1 (yS hss hu) ak).1,h1⟩
 have hB:k=33->BS (.mk k op x y ks):=by
  intro e o f l b hl h hf;have hz:sizes (lW ks)+2 * ks.length<=40 * sizes ks:=acM λu hu=>by subst e;obtain⟨j,hj⟩:=List.mem_iff_getElem?.1 hu;obtain⟨h1,h2⟩:=auX hok hj (.inr (by simp[cls]));exact Y1 u h2 h1
  have h1:=aGt (k:=k) (op:=op) (x:=x) (y:=y) (kS e) (o:=o) (f:=f) hl h (by rw[Tn.size] at hf;omega) ak hz;have h2:gZ (.mk k op x y ks)=ajI (lW ks):=by rw[gZ,e];rfl
  rw[h2];exact h1
 refine⟨λo f l b hl h hf=> ?_,hB⟩;have hbk:∀f,6 * (sizes ks+1)<=f+3->k=33->M.iE f (aZ o l) false ((b+sizes ks:Nat):Int)=some (dE (gZ (.mk k op x y ks))):=λf hf e=>hB e o f l b hl h (by rw[Tn.size];exact hf)
 rw[Tn.size] at hf;obtain⟨g,rfl⟩:∃g,f=g+1:=⟨f - 1,ak⟩
 have aE:∀(h:∀j,cls k op ks.length j=0),∀u,u∈ks->Ex' u:=by intro h u hu;obtain⟨j,hj⟩:=List.mem_iff_getElem?.1 hu;exact kE hj (h j)
 have hat:At l b ks:=λj u hj=>Lies.RG h hj
 have hr:idx (aZ o l) ((b+sizes ks:Nat):Int)=some (NU o ⟨k,op,x,y,ends ks b⟩):=U5 h;have hel:(encI (ends ks b)).length=ks.length:=by rw[bf,eH]
 rw[M.ajt,Tn.kids];have hk:k=20\/k=21\/k=22\/k=25\/k=26\/k=23\/k=24\/k=27\/k=28\/k=29\/k=30\/k=31\/k=32\/k=33\/k=34:=ak;rcases hk with rfl|rfl|rfl|rfl|rfl|rfl|rfl|rfl|rfl|rfl|rfl|rfl|rfl|rfl|rfl
 ·obtain⟨u,rfl⟩:=zlo.1 (hc.one ak);have i0:=mM (ks:=[u]) (b:=b) (j:=0) (u:=u) rfl;have h0:=Y8 (o:=o) hl (kE (j:=0) (u:=u) rfl (by simp[cls])) (hat 0 u rfl);rw[pU] at i0;simp only[jU,M.fU,hr,Nw,PU,Pz,PV,JM,Int.reduceBEq,aK,bg,i0,NV,ah,Em.2,h0];rw[gZ];rfl
 ·have h0:=aYi (o:=o) hl (aE (λj=>by simp[cls])) hat ak op x y (hc.prn rfl).1 (hc.prn rfl).2 hy;simp only[jU,M.fU,hr,Nw,PU,Pz,PV,JM,Int.reduceBEq,aK,bg,ah,h0];rw[gZ];rfl
 ·simp only[jU,M.fU,hr,Nw,PU,Pz,PV,JM,Int.reduceBEq,aK,bg,ah,kK];rw[gZ];rfl
 ·simp only[jU,M.fU,hr,Nw,PU,Pz,PV,JM,Int.reduceBEq,aK,bg,ah,kK];rw[gZ];rfl
 ·simp only[jU,M.fU,hr,Nw,PU,Pz,PV,JM,Int.reduceBEq,aK,bg,ah,kK];rw[gZ];rfl
 ·have h0:=aII (o:=o) hl (aE (λj=>by simp[cls])) hat [101,120,105,116];simp only[jU,M.fU,hr,Nw,PU,Pz,PV,JM,Int.reduceBEq,aK,bg,ah,h0];rw[gZ];rfl
 ·have h0:=aII (o:=o) hl (aE (λj=>by simp[cls])) hat [114,101,116,117,114,110];simp only[jU,M.fU,hr,Nw,PU,Pz,PV,JM,Int.reduceBEq,aK,bg,ah,h0];rw[gZ];rfl
 ·have h0:=aBq (o:=o) hl (aE (λj=>by simp[cls])) hat ak (p:=.top) rfl;have h1:=PI .top ks;simp only[Ps.top] at h0 h1;rw[gZ];cases ks with
  |nil=>simp(disch:=omega) only[jU,M.fU,hr,Nw,PU,Pz,PV,JM,Int.reduceBEq,aK,bg,hel,uH,ah,kK,DC,show((((0:Nat):Int))==0)=true from rfl];rfl
  |cons u t=>
   have e0:((((u::t).length:Nat):Int)==0)=false:=by rw[II,mQ];omega
   have z1:sizes [jC ([100,101,108,101,116,101,32]++x++[91]),KO ⟨1,false,false,false,false⟩ (u::t),jC [93]]<=90000000:=by simp only[sizes,iC] at *;omega
   have r1:(7+x.length).ble 9223372036854775807=true:=DC ak;have r2:(([100,101,108,101,116,101,32]++x).length+1).ble 9223372036854775807=true:=DC (by simp only[rJ,mQ,uH];omega);simp only[jU,M.fU,hr,Nw,PU,Pz,PV,JM,Int.reduceBEq,aK,bg,hel,e0,r1,r2,ah,kK,Em.2,h0,fz3,uS _ z1,oh];rfl
 ·rw[gZ];obtain⟨g',rfl⟩:∃g',g=g'+1:=⟨g - 1,ak⟩
  rcases hc.cnd rfl with h2|h3
  ·obtain⟨u,v,rfl⟩:=PK h2;have hs2:=sz2 u v;have i0:=mM (ks:=[u,v]) (b:=b) (j:=0) (u:=u) rfl;have i1:=mM (ks:=[u,v]) (b:=b) (j:=1) (u:=v) rfl;rw[pU] at i0;rw[Y6] at i1;have e0:=kE (j:=0) (u:=u) rfl (by simp[cls]);have h0:=Y8 (o:=o) hl e0 (hat 0 u rfl);have s0:=og u .top;obtain⟨h1,s1⟩:=kB (j:=1) (u:=v) rfl (by simp[cls]);have h1':=h1 o g' l _ hl (hat 1 v rfl) ak;have e2:((([u,v]:List Tn).length:Int)==2)=true:=rfl;have z1:sizes [jC [105,102,32,40],Dw u,jC [41,32],gZ v]<=90000000:=by simp only[sizes,iC,Dw] at *;omega
   simp only[jU,M.fU,hr,Nw,PU,Pz,PV,JM,Int.reduceBEq,aK,bg,M.adK,M.H8,hel,e2,i0,i1,NV,ah,kK,Em.2,h0,h1',fz4,uS _ z1,oh];rfl
  ·obtain⟨u,v,z,rfl⟩:=Yo h3;have hs3:=sz3 u v z;have i0:=mM (ks:=[u,v,z]) (b:=b) (j:=0) (u:=u) rfl;have i1:=mM (ks:=[u,v,z]) (b:=b) (j:=1) (u:=v) rfl;have i2:=mM (ks:=[u,v,z]) (b:=b) (j:=2) (u:=z) rfl;rw[pU] at i0;rw[Y6] at i1;rw[awH] at i2;have e0:=kE (j:=0) (u:=u) rfl (by simp[cls]);have h0:=Y8 (o:=o) hl e0 (hat 0 u rfl);have s0:=og u .top;obtain⟨h1,s1⟩:=kB (j:=1) (u:=v) rfl (by simp[cls]);have h1':=h1 o g' l _ hl (hat 1 v rfl) ak;obtain⟨h2,s2⟩:=kB (j:=2) (u:=z) rfl (by simp[cls]);have h2':=h2 o g' l _ hl (hat 2 z rfl) ak;have e2:((([u,v,z]:List Tn).length:Int)==2)=false:=rfl;have z1:sizes [jC [105,102,32,40],Dw u,jC [41,32],gZ v]<=90000000:=by simp only[sizes,iC,Dw] at *;omega
   have z2:sizes [lV [jC [105,102,32,40],Dw u,jC [41,32],gZ v],jC [32,101,108,115,101,32],gZ z]<=90000000:=by simp only[sizes,iC,ql,Dw] at *;omega
   simp only[jU,M.fU,hr,Nw,PU,Pz,PV,JM,Int.reduceBEq,aK,bg,M.adK,M.H8,hel,e2,i0,i1,i2,NV,ah,kK,Em.2,h0,h1',h2',fz4,fz3,uS _ z1,uS _ z2,oh];rfl
 ·rw[gZ];obtain⟨u,v,rfl⟩:=PK (hc.two ak);have hs2:=sz2 u v;have i0:=mM (ks:=[u,v]) (b:=b) (j:=0) (u:=u) rfl;have i1:=mM (ks:=[u,v]) (b:=b) (j:=1) (u:=v) rfl;rw[pU] at i0;rw[Y6] at i1;have e0:=kE (j:=0) (u:=u) rfl (by simp[cls]);have h0:=Y8 (o:=o) hl e0 (hat 0 u rfl);have s0:=og u .top;obtain⟨h1,s1⟩:=kB (j:=1) (u:=v) rfl (by simp[cls]);have h1':=h1 o g l _ hl (hat 1 v rfl) ak;have z1:sizes [jC [119,104,105,108,101,32,40],Dw u,jC [41,32],gZ v]<=90000000:=by simp only[sizes,iC,Dw] at *;omega
  simp only[jU,M.fU,hr,Nw,PU,Pz,PV,JM,Int.reduceBEq,aK,bg,i0,i1,NV,ah,kK,Em.2,h0,h1',fz4,uS _ z1,oh];rfl
 ·rw[gZ];obtain⟨u,v,rfl⟩:=PK (hc.two ak);have hs2:=sz2 u v;have i0:=mM (ks:=[u,v]) (b:=b) (j:=0) (u:=u) rfl;have i1:=mM (ks:=[u,v]) (b:=b) (j:=1) (u:=v) rfl;rw[pU] at i0;rw[Y6] at i1;have e0:=kE (j:=1) (u:=v) rfl (by simp[cls]);have h0:=Y8 (o:=o) hl e0 (hat 1 v rfl);have s0:=og v .top;obtain⟨h1,s1⟩:=kB (j:=0) (u:=u) rfl (by simp[cls]);have h1':=h1 o g l _ hl (hat 0 u rfl) ak;have z1:sizes [jC [100,111,32],gZ u,jC [32,119,104,105,108,101,32,40],Dw v,jC [41]]<=90000000:=by simp only[sizes,iC,Dw] at *;omega
  simp only[jU,M.fU,hr,Nw,PU,Pz,PV,JM,Int.reduceBEq,aK,bg,i0,i1,NV,ah,kK,Em.2,h0,h1',fz5,uS _ z1,oh];rfl
 ·rw[gZ];obtain⟨g',rfl⟩:∃g',g=g'+1:=⟨g - 1,ak⟩
  obtain⟨u,v,z,q,rfl⟩:=aoq (hc.four rfl);have hs4:sizes [u,v,z,q]=u.size+(v.size+(z.size+q.size)):=by simp[sizes]
  have a7R:((3:Nat):Int)=3:=rfl;have i0:=mM (ks:=[u,v,z,q]) (b:=b) (j:=0) (u:=u) rfl;have i1:=mM (ks:=[u,v,z,q]) (b:=b) (j:=1) (u:=v) rfl;have i2:=mM (ks:=[u,v,z,q]) (b:=b) (j:=2) (u:=z) rfl;have i3:=mM (ks:=[u,v,z,q]) (b:=b) (j:=3) (u:=q) rfl;rw[pU] at i0;rw[Y6] at i1;rw[awH] at i2;rw[a7R] at i3;have s1:=VL v;have s2:=VL z;have h1:=atI (o:=o) hl (kE3 (j:=1) (u:=v) rfl (by simp[cls])) (hat 1 v rfl);have h2:=atI (o:=o) hl (kE3 (j:=2) (u:=z) rfl (by simp[cls])) (hat 2 z rfl);obtain⟨h3,s3⟩:=kB (j:=3) (u:=q) rfl (by simp[cls]);have h3':=h3 o g' l _ hl (hat 3 q rfl) ak;have hr0:=U5 (o:=o) (hat 0 u rfl);rcases kE3 (j:=0) (u:=u) rfl (by simp[cls]) with h0|h0
  ·have n0:(u.kind !=16)=false:=by simp[h0]
   have ha:ag0 31 op x y [u,v,z,q] (lW [u,v,z,q])=lV [jC [102,111,114,32,40],jC [],jC [59],RI v,jC [59],RI z,jC [41,32],gZ q]:=by simp[ag0,qm,oP,lW,h0]
   have z1:sizes [jC [102,111,114,32,40],jC [],jC [59],RI v,jC [59],RI z,jC [41,32],gZ q]<=90000000:=by simp only[sizes,iC] at *;omega
   rw[ha];simp only[jU,M.fU,hr,Nw,PU,Pz,PV,JM,Int.reduceBEq,aK,bg,M.abB,M.Ei,M.KF,i0,i1,i2,i3,NV,hr0,n0,ah,kK,h1,h2,h3',fz8,uS _ z1,oh]
  ·have n0:(u.kind !=16)=true:=by have:=h0.e;unfold WJ at this;simp only[bne_iff_ne];omega
   have n1:(u.kind==16)=false:=by simpa using n0
   have ha:ag0 31 op x y [u,v,z,q] (lW [u,v,z,q])=lV [jC [102,111,114,32,40],vH u ⟨1,false,true,false,false⟩,jC [59],RI v,jC [59],RI z,jC [41,32],gZ q]:=by simp[ag0,qm,oP,lW,n1]
   have s0:=og u ⟨1,false,true,false,false⟩;have he:=aKV (o:=o) hl h0 (hat 0 u rfl) (p:=⟨1,false,true,false,false⟩) rfl;have z1:sizes [jC [102,111,114,32,40],vH u ⟨1,false,true,false,false⟩,jC [59],RI v,jC [59],RI z,jC [41,32],gZ q]<=90000000:=by simp only[sizes,iC] at *;omega
   rw[ha];simp only[jU,M.fU,hr,Nw,PU,Pz,PV,JM,Int.reduceBEq,aK,bg,M.abB,M.Ei,M.KF,i0,i1,i2,i3,NV,hr0,n0,he,ah,kK,h1,h2,h3',fz8,uS _ z1,oh]
 ·rw[gZ];obtain⟨u,rfl⟩:=zlo.1 (hc.one ak);have hs1:=sz1 u;have i0:=mM (ks:=[u]) (b:=b) (j:=0) (u:=u) rfl;rw[pU] at i0;obtain⟨h1,s1⟩:=kB (j:=0) (u:=u) rfl (by simp[cls]);have h1':=h1 o g l _ hl (hat 0 u rfl) ak;have z1:sizes [jC ([102,111,114,32,40]++x++[32,105,110,32]++y++[41,32]),gZ u]<=90000000:=by simp only[sizes,iC] at *;omega
  simp(disch:=first|omega|(simp only[rJ,mQ,uH];omega)) only[jU,M.fU,hr,Nw,PU,Pz,PV,JM,Int.reduceBEq,aK,bg,i0,NV,ah,kK,h1',fz2,uS _ z1,oh,DC];rfl
 ·have h0:=hbk g ak rfl;simp only[jU,M.fU,hr,Nw,PU,Pz,PV,JM,Int.reduceBEq,aK,bg,ah,h0]
 ·simp only[jU,M.fU,hr,Nw,PU,Pz,PV,JM,Int.reduceBEq,aK,bg,ah,kK];rw[gZ];rfl
section
variable {o:Bool} {l:List Nd} {b:Nat} (hl:l.length<=1048576)
include hl
theorem aBt{u:Tn}(h:Bk u)(hh:Lies l b u){f:Nat}(hf:6 * u.size<=f+3):M.iE f (aZ o l) false ((b+sizes u.kids:Nat):Int)=some (dE (gZ u)):=by have hk:=h.k;exact(aBs u h.ok (by constructor<;>omega) h.sm h.sz).2 hk o f l b hl hh hf
theorem aKX{ks:List Tn}(h:∀u,u∈ks->Bk u\/Ex' u)(hat:At l b ks)(hn:ks.length<=1000)(hz:sizes (yE ks true)<=90000000){f:Nat}(hf:6 * sizes ks<=f+3)(k op:Int)(x y:aA):
  M.xX (M.iE f) (aZ o l) false k op x y (encI (ends ks b)) some=some (dE (lV (yE ks true))):=by
 have hel:(encI (ends ks b)).length=ks.length:=by rw[bf,eH]
 have hloop:=ji (b:=M.H7 (M.iE f) (aZ o l) false k op x y (encI (ends ks b))) (t:=((ks.length:Int),(yE ks true).map aaH)) (λj=>((j:Int),(yE (ks.take j) true).map aaH)) ks.length
  (by
   intro j hj;obtain⟨u,hu'⟩:∃u,ks[j]? =some u:=⟨ks[j],by simp[hj]⟩
   have hi:=mM (b:=b) hu';have hlu:=hat j u hu';have hr:=U5 (o:=o) hlu;have hus:=iP (AU hu');have hll:=ae6 (ks.take j) true;rw[VF] at hll;have hw:i64.wrap ((j:Int)+1)=((j+1:Nat):Int):=by rw[aB ak ak];omega
   have he:(ks.take j).isEmpty=decide (j=0):=by
    cases j with
    |zero=>rfl
    |succ j=>cases ks with
     |nil=>simp at hj
     |cons a l=>rfl
   simp only[M.H7,M.Aq,M.yA,M.yx,hel,hi,hr,NV,Nw,ah];rw[zdt ak,aK,fV hu',acP,he,Bool.and_true,List.map_append,amM];rcases h u (AU hu') with hb|hb
   ·have h1:=aBt (o:=o) hl hb hlu (f:=f) ak;rw[hb.keq]
    by_cases h0:j=0
    ·subst h0;simp(disch:=omega) only[aK,bg,kK,h1,ah,zaP,rJ,mQ,uH,hw,aS];rfl
    ·rw[zdt (show(j:Int)>0 by omega),rH h0];simp(disch:=omega) only[aK,bg,kK,h1,ah,zaP,rJ,mQ,uH,hw,aS,JR];rfl
   ·have h1:=Y8 (o:=o) hl hb hlu;rw[hb.kne]
    by_cases h0:j=0
    ·subst h0;simp(disch:=omega) only[aK,bg,kK,Em.2,h1,ah,zaP,rJ,mQ,uH,hw,aS];rfl
    ·rw[zdt (show(j:Int)>0 by omega),rH h0];simp(disch:=omega) only[aK,bg,kK,Em.2,h1,ah,zaP,rJ,mQ,uH,hw,aS,JR];rfl)
  (by simp only[M.H7,M.Aq,M.yA,M.yx,hel];rw[rH ak,bg,List.take_length]) 0 (Nat.zero_le _)
 have xY:M.MJ (M.iE f) (aZ o l) false k op x y (encI (ends ks b)) (0,[])=some ((ks.length:Int),(yE ks true).map aaH):=hloop;simp only[M.xX,xY,ah,Um,uS _ hz,oh,aK]
theorem aKY{ks:List Tn}(ht:∀u,u∈ks->u.text.length<=1048576)(h1:1<=ks.length)(h7:ks.length<=7){v:Tn}(hv:ks[ks.length - 1]? =some v)(hb:Bk v)(hat:At l b ks){f:Nat}(hf:6 * sizes ks<=f+3)(k op:Int){x:aA}(hx:x.length<=1048576)(y:aA):
  M.Ar (M.iE f) (aZ o l) false k op x y (encI (ends ks b)) some=some (dE (lV [jC (Zj x ks++[32]),gZ v])):=by
 have hel:(encI (ends ks b)).length=ks.length:=by rw[bf,eH]
 have hw0:i64.wrap ((ks.length:Int) - 1)=((ks.length - 1:Nat):Int):=by rw[aB ak ak];omega
 have hvs:=iP (AU hv);have hhead:=amY ht h1 h7 hx;have hmm:∀m:Nat,∀z,z∈(ks.take m).map Tn.text->z.length<=1048576:=by intro m z hz;obtain⟨u,hu,rfl⟩:=List.mem_map.1 hz;exact ht u (List.mem_of_mem_take hu)
 have hjl:∀m:Nat,(KP ((ks.take m).map Tn.text) true).length<=8000000:=by intro m;have h2:=aa3 _ true (hmm m);rw[zaP,VF] at h2;have h3:(1048576+2) * min m ks.length<=(1048576+2) * 7:=Nat.mul_le_mul_left _ ak;omega
 have hloop:=ji (b:=M.JE (M.iE f) ((ks.length - 1:Nat):Int) (aZ o l) false k op x y (encI (ends ks b))) (t:=(([102,117,110,99,116,105,111,110,32]++x++[40])++KP ((ks.take (ks.length - 1)).map Tn.text) true,((ks.length - 1:Nat):Int))) (λj=>(([102,117,110,99,116,105,111,110,32]++x++[40])++KP ((ks.take j).map Tn.text) true,(j:Int))) (ks.length - 1)
  (by
   intro j hj;obtain⟨u,hu'⟩:∃u,ks[j]? =some u:=⟨ks[j],by simp[show j<ks.length by omega]⟩
   have hi:=mM (b:=b) hu';have hlu:=hat j u hu';have hr:=U5 (o:=o) hlu;have hq:=hjl j;have htu:=ht u (AU hu');have hw:i64.wrap ((j:Int)+1)=((j+1:Nat):Int):=by rw[aB ak ak];omega
   have he:((ks.take j).map Tn.text).isEmpty=decide (j=0):=by
    cases j with
    |zero=>rfl
    |succ j=>cases ks with
     |nil=>simp at hj
     |cons a l=>rfl
   simp only[M.JE,M.Dn,hi,hr,NV,Pz,ah,hw];rw[zdt ak,aK,fV hu',List.map_append,PO,List.map_nil,aj1,he,Bool.and_true]
   by_cases h0:j=0
   ·subst h0;rw[rH ak,bg,aS (by simp only[rJ,mQ,uH];omega),aK,zdt rfl,aK,JR]
   ·rw[zdt ak,aK,aS (by simp only[rJ,mQ,uH];omega),aK,aS (by simp only[rJ,mQ,uH];omega),aK,rH h0,bg];simp only[JR])
  (by simp only[M.JE,M.Dn];rw[rH ak,bg]) 0 (Nat.zero_le _)
 have e0:([102,117,110,99,116,105,111,110,32]++x++[40])++KP ((ks.take 0).map Tn.text) true=[102,117,110,99,116,105,111,110,32]++x++[40]:=by rw[List.take_zero];simp[KP]
 rw[e0] at hloop;have xY:M.O4 (M.iE f) ((ks.length - 1:Nat):Int) (aZ o l) false k op x y (encI (ends ks b)) ([102,117,110,99,116,105,111,110,32]++x++[40],0)=some (([102,117,110,99,116,105,111,110,32]++x++[40])++KP ((ks.take (ks.length - 1)).map Tn.text) true,((ks.length - 1:Nat):Int)):=hloop;have hi:=mM (b:=b) hv;have hblk:=aBt (o:=o) hl hb (hat _ v hv) (f:=f) ak;have hq:=hjl (ks.length - 1);have hbs:=hb.size;have hbz:=hb.sz;have eh:([102,117,110,99,116,105,111,110,32]++x++[40])++KP ((ks.take (ks.length - 1)).map Tn.text) true++[41,32]=Zj x ks++[32]:=by rw[Zj];simp
 have z1:sizes [jC (Zj x ks++[32]),gZ v]<=90000000:=by simp only[sizes,iC];omega
 simp only[M.Ar,hel,hw0,xY,ah];rw[aS ak,aK,aS (by simp only[rJ,mQ,uH];omega),aK,aS (by simp only[rJ,mQ,uH];omega),aK,eh];simp only[kK,hi,NV,hblk,ah,fz2,uS _ z1,oh,aK]
theorem aKZ{t:Tn}(hi:It t)(hh:Lies l b t):M.oz (aZ o l) false ((b+sizes t.kids:Nat):Int)=some (dE (itemD t)):=by
 have hss:=aaz hi.sm;have hks:=t.uf;have hts:=adW hi.sm;have hz:=akd hi.ok hi.i hi.sm hi.sz;have htz:=hi.sz;have hr:=U5 (o:=o) hh;have hat:At l b t.kids:=by obtain⟨k,op,x,y,ks⟩:=t;exact λj u hj=>Lies.RG hh hj
 have hN:∀{r:au},M.qG (6 * t.size+2) (aZ o l) false ((b+sizes t.kids:Nat):Int)=some r->M.oz (aZ o l) false ((b+sizes t.kids:Nat):Int)=some r:=λh=>M.agX h
 rcases Y7 hi.ok hi.i hi.sm hi.sz with⟨u,hk,hu,hb⟩|⟨hk,hn,hb⟩|⟨hk,h1,h7,u,hu,hn,hb⟩|hk
 ·refine hN ?_;rw[M.Rk];unfold itemD;rw[hu] at hat hr|-;have i0:=mM (ks:=[u]) (b:=b) (j:=0) (u:=u) rfl;rw[pU] at i0;have h2:=hb.size;have h3:=hb.sz;rw[hu,sizes,sizes] at hks;have hblk:=aBt (o:=o) hl hb (hat 0 u rfl) (f:=6 * t.size+1) ak;have z1:∀s,sizes [jC s,gZ u]<=90000000:=λs=>by simp only[sizes,iC];omega
  have e0:qm [u] 0=u:=rfl;rcases hk with hk|hk<;>simp only[jU,M.tH,hr,hk,Nw,PU,Pz,PV,JM,Int.reduceBEq,aK,bg,kK,i0,NV,hblk,ah,fz2,uS _ (z1 _),oh,e0]
 ·refine hN ?_;have h2:=acQ _ true hb;have hru:=aKX (o:=o) hl hb hat ak ak (f:=6 * t.size) ak t.kind t.op t.text t.other;rw[M.Rk];unfold itemD;rcases hk with hk|hk<;>rw[hk] at hru<;>simp only[jU,M.tH,hr,hk,Nw,PU,Pz,PV,JM,Int.reduceBEq,aK,bg,M.agW,hru,ah,Bool.true_or,Bool.or_true]
 ·refine hN ?_;have hfu:=aKY (o:=o) hl (akc hss) h1 h7 hu hb hat (f:=6 * t.size) ak t.kind t.op hts t.other;rw[M.Rk];unfold itemD;rw[hk] at hfu;simp only[jU,M.tH,hr,hk,Nw,PU,Pz,PV,JM,Int.reduceBEq,aK,bg,M.ajs,hfu,ah,Bool.or_false,hn]
 ·have hS:=(aBs t hi.ok (by constructor<;>omega) hi.sm hi.sz).1;have h2:=aBr hS ak (o:=o) (f:=6 * t.size+2) hl hh ak;have e1:itemD t=gZ t:=by unfold itemD;rw[hk];rfl
  rw[e1];exact hN h2
end
def awL{l:List Nd}{o:Bool}(hl:l.length<=1048576)(t:Tn):∀(f b:Nat),Lies l b t->t.size<=f->
  M.kG f (aZ o l) ((b+sizes t.kids:Nat):Int)=some (t.kind,t.op,t.text,t.other,fE true t.kids):=by
 refine Tn.ind (P:=λt=>∀(f b:Nat),Lies l b t->t.size<=f->M.kG f (aZ o l) ((b+sizes t.kids:Nat):Int)=some (t.kind,t.op,t.text,t.other,fE true t.kids)) ?_ t;intro k op x y ks ih f b h hf;cases f with
 |zero=>rw[Tn.size] at hf;omega
 |succ f=>
  have hroot:l[b+sizes ks]? =some ⟨k,op,x,y,ends ks b⟩:=h.root;have hlt:=h.lt;rw[Tn.size] at hf hlt;have hkl:=jr ks;simp only[jU,M.kG,M.IW,bC,kZ,Tn.kids,Tn.kind,Tn.op,Tn.text,Tn.other,hroot,Oa,ah,Nw,PU,Pz,PV,JM,bf,eH];have hrec:∀j t,ks[j]? =some t->M.kG f (aZ o l) ((b+sizes (ks.take j)+sizes t.kids:Nat):Int)=some (t.kind,t.op,t.text,t.other,fE true t.kids):=λj t hj=>ih t (AU hj) f _ (Lies.RG h hj) (by have:=KL hj;omega)
  have hloop:=ji (b:=M.ng (M.kG f))
   (t:=if ks=[] then .inl (aZ o l,encI (ends ks b),(ks.length:Int),0,0,0,[],[],k,op,x,y) else .inr (aZ o l,encI (ends ks b),(ks.length:Int),(ks.length:Int),0,0,[],[],k,op,x,y,fE true ks))
   (λj=>if j=0 then .inl (aZ o l,encI (ends ks b),(ks.length:Int),0,0,0,[],[],k,op,x,y) else .inr (aZ o l,encI (ends ks b),(ks.length:Int),(j:Int),0,0,[],[],k,op,x,y,fE true (ks.take j))) ks.length
   (by
    intro j hj;obtain⟨t,ht⟩:∃t,ks[j]? =some t:=⟨ks[j],by simp⟩
    have hr:=hrec j t ht;have he:=YZ (b:=b) ht;rw[if_neg (show¬j+1=0 by omega),atu ht,aKs]
    by_cases h0:j=0
    ·subst h0;rw[if_pos rfl];have hi:idx (encI (ends ks b)) 0=some [D.int .i64 ((b+sizes (ks.take 0)+sizes t.kids:Nat):Int)]:=by have:=bC (encI (ends ks b)) 0;rw[pU] at this;rw[this,nI,he];rfl
     simp only[jU,M.ng,M.mZ,hi,ah,NV,hr];rw[zdt ak,aK];rfl
    ·rw[if_neg h0];simp only[jU,M.ng,M.mZ,bC,nI,he,Oa,ah,NV,hr,gY,VF,JU];rw[zdt ak,aK,aS ak,aK,aS ak,aK,aB ak ak];rfl)
   (by
    by_cases h0:ks.length=0
    ·have he:ks=[]:=List.length_eq_zero_iff.1 h0;rw[if_pos h0,if_pos he];simp only[jU,M.ng,M.mZ];rw[rH ak,bg]
    ·have he:¬ks=[]:=λe=>h0 (by rw[e];rfl)
     rw[if_neg h0,if_neg he,List.take_length];simp only[jU,M.ng,M.mZ];rw[rH ak,bg]) 0 (Nat.zero_le _)
  rw[if_pos rfl] at hloop;rw[M.Kv,hloop,ah]
  by_cases he:ks=[]
  ·rw[if_pos he,he];rfl
  ·rw[if_neg he];rfl
def arz{l:List Nd}{o:Bool}(hl:l.length<=1048576){t:Tn}{b:Nat}(h:Lies l b t):M.qY (aZ o l) ((b+sizes t.kids:Nat):Int)=some (t.kind,t.op,t.text,t.other,fE true t.kids):=
 M.Z8 (awL hl t t.size b h (zaO _))
def awM{t:Tn}{o:Bool}(hl:t.size<=1048576):M.wM (aZ o (t.flat 0))=some (t.kind,t.op,t.text,t.other,fE true t.kids):=by have hs:=t.uf;simp only[M.wM,M.NW,fO,t.flat_length];have h:=arz (o:=o) (by rw[t.flat_length];omega) (Lies.whole t);rw[Nat.zero_add] at h;rw[aB ak ak,show(t.size:Int) - 1=((sizes t.kids:Nat):Int) by omega,h,ah]
def aBu(t:Tn)(h:t.size<=90000000):M.vS t.kind t.op t.text (oG false t.kids) 0=some (dG true (t.flat 0)):=by have h1:=aX8 t t.size false [] (zaO _) (by simp only[uH];omega);have e0:dG true []=[]:=rfl;rw[e0,List.nil_append,uH] at h1;simp only[M.vS,M.OE,M.agE h1,ah]
def last_at{T:Tn}(hT:T.size<=1048576):i64.wrap (((T.flat 0).length:Int) - 1)=((0+sizes T.kids:Nat):Int):=by have:=T.uf;rw[T.flat_length,aB ak ak];omega
structure Pr(T:Tn):Prop where
 ok:BA T
 k:T.kind=45
 sm:WV T
 sz:T.size<=1048576
def Pr.its{T:Tn}(h:Pr T):∀u,u∈T.kids->It u:=aKT h.ok h.k h.sm h.sz
def akk{T:Tn}(h:Pr T):(xu T).size<=42000000:=by have h1:=af6 h.its;have h2:=T.uf;have h3:=h.sz;rw[xu,ql];omega
def aK1{T:Tn}(h:Pr T):M.Hf (fE false T.kids) (T.kids.length:Int) (0,[])=some ((T.kids.length:Int),oG false (tY T.kids)):=by
 have hks:=T.uf;have hz:=h.sz;obtain⟨ks,hk⟩:∃ks,T.kids=ks:=⟨_,rfl⟩
 have its:=h.its;rw[hk] at its hks|-;have hkl:=jr ks;exact ji (b:=M.CU (fE false ks) (ks.length:Int)) (t:=((ks.length:Int),oG false (tY ks))) (λj=>((j:Int),oG false (tY (ks.take j)))) ks.length
  (by
   intro j hj;obtain⟨u,hu'⟩:∃u,ks[j]? =some u:=⟨ks[j],by simp[hj]⟩
   obtain⟨c0,c1,c2,c3,c4⟩:=kJ false u;have hu:=its u (AU hu');have h1:=aKS hu.ok hu.i hu.sm hu.sz false;have hl:=acR (ks.take j);rw[VF] at hl;have hw:i64.wrap ((j:Int)+1)=((j+1:Nat):Int):=by rw[aB ak ak];omega
   simp only[jU,M.CU,M.wZ,F5 false hu',c0,c1,c2,c3,c4,ah,atE,h1,MZ,Nh,Nj,Nl,Np,Nq,fM,yQ,mQ,uH,hw];rw[zdt ak,aK,aS ak,aK,aS ak,aK,fV hu',aaE,Ig];rfl)
  (by simp only[jU,M.CU,M.wZ];rw[rH ak,bg,List.take_length]) 0 (Nat.zero_le _)
def aK2{T:Tn}(h:Pr T):M.H9 (aZ false (T.flat 0)) (aZ false (T.flat 0)) false (0,[])=some ((T.kids.length:Int),(tY T.kids).map aaH):=by
 have hks:=T.uf;have hz:=h.sz;have hr:=U5 (o:=false) (Lies.whole T);have hen:((aZ false (T.flat 0)).length:Int)=((T.flat 0).length:Int):=by rw[fO]
 have hla:=last_at hz;have its:=h.its;have hat:At (T.flat 0) 0 T.kids:=by obtain⟨k,op,x,y,ks⟩:=T;exact λj u hj=>Lies.RG (Lies.whole _) hj
 have hfl:(T.flat 0).length<=1048576:=by rw[T.flat_length];exact hz
 obtain⟨ks,hk⟩:∃ks,T.kids=ks:=⟨_,rfl⟩
 rw[hk] at its hks hla hr hat|-;have hkl:=jr ks;have hel:(encI (ends ks 0)).length=ks.length:=by rw[bf,eH]
 exact ji (b:=M.Dp (aZ false (T.flat 0)) (aZ false (T.flat 0)) false) (t:=((ks.length:Int),(tY ks).map aaH)) (λj=>((j:Int),(tY (ks.take j)).map aaH)) ks.length
  (by
   intro j hj;obtain⟨u,hu'⟩:∃u,ks[j]? =some u:=⟨ks[j],by simp[hj]⟩
   have hi:=mM (b:=0) hu';have h1:=aKZ (o:=false) hfl (its u (AU hu')) (hat j u hu');have hl:=acR (ks.take j);rw[VF] at hl;have hw:i64.wrap ((j:Int)+1)=((j+1:Nat):Int):=by rw[aB ak ak];omega
   simp only[jU,M.Dp,M.xk,hen,hla,hr,JM,hel,hi,NV,h1,atG,ah,zaP,mQ,uH,hw];rw[zdt ak,aK,aS ak,aK,aS ak,aK,fV hu',aaE,List.map_append];rfl)
  (by simp only[jU,M.Dp,M.xk,hen,hla,hr,JM,hel,ah];rw[rH ak,bg,List.take_length]) 0 (Nat.zero_le _)
def Yp(k n:Int)(x:aA)(c:Nat):Bool:=
 bif(!(k==4) && !(n==0))||(!(k==1) && !(x==[])) then false else
 bif k==1 then !(hasB 10 x) && Nat.beq c 0 else bif k==2||k==3 then Nat.beq c 0 else bif k==4 then(decide (0<=n) && decide (n<=40)) && Nat.beq c 1 else
 bif k==5 then Nat.beq c 1 else k==6
mutual
def dOk:Tn->Bool
 | .mk k n x _ ks=>Zv ks && Yp k n x ks.length
def Zv:List Tn->Bool
 |[]=>true
 |t::ts=>(dOk t) && Zv ts
end
mutual
def Et:Tn->Option (aA)
 | .mk k _ x _ ks=>bif k==1 then some x else bif k==2 then some [32] else bif k==3 then none else AY ks
def AY:List Tn->Option (aA)
 |[]=>some []
 |t::ts=>match(Et t) with
  |none=>none
  |some a=>match AY ts with
   |none=>none
   |some b=>some (a++b)
end
mutual
def bh:Tn->Nat×Bool
 | .mk k _ x _ ks=>bif k==2||k==3 then(0,true) else((bif k==1 then x.length else 0)+(WM ks).1,(WM ks).2)
def WM:List Tn->Nat×Bool
 |[]=>(0,false)
 |t::ts=>bif(bh t).2 then(bh t) else((bh t).1+(WM ts).1,(WM ts).2)
end
abbrev Pc:=Tn×Int×Bool
def akl(w col:Int)(t:Tn)(st:List Pc):Bool:=match(Et t) with
 |some s=>decide ((s.length:Int)+(WM (st.map (·.1))).1<=w - col)
 |none=>false
def brk(out:aA)(i:Int):aA:=out++(10::List.replicate i.toNat 32)
def lay(w:Int):Nat->List Pc->aA->Int->aA
 |0,_,out,_=>out
 |_+1,[],out,_=>out
 |n+1,(.mk k m x y ks,i,f)::st,out,col=>
  bif k==1 then lay w n st (out++x) (col+x.length) else
  bif k==2 && f then lay w n st (out++[32]) (col+1) else
  bif k==2||k==3 then lay w n st (brk out i) i else
  bif k==4 then lay w n (ks.map (λt=>(t,i+m,f))++st) out col else
  bif k==5 then lay w n (ks.map (λt=>(t,i,f||akl w col (.mk k m x y ks) st))++st) out col else
  lay w n (ks.map (λt=>(t,i,f))++st) out col
def render(t:Tn)(w:Int):Option (aA):=bif(Nat.ble t.size 4000 &&(dOk t)) &&(decide (0<=w) && decide (w<=10000)) then some (lay w t.size [(t,0,false)] [] 0) else none
def len_eq(n c:Nat):((n:Int)==(c:Int))=Nat.beq n c:=by rw[Bool.eq_iff_iff,beq_iff_eq,Nat.beq_eq];omega
def aIJ(n:Nat):((n:Int)==0)=Nat.beq n 0:=len_eq n 0
def aIK(n:Nat):((n:Int)==1)=Nat.beq n 1:=len_eq n 1
def adY{P:Int->Prop}(h1:P 1)(h2:P 2)(h3:P 3)(h4:P 4)(h5:P 5)(h6:P 6)(h:∀k,k≠1->k≠2->k≠3->k≠4->k≠5->k≠6->P k)(k:Int):P k:=by
 by_cases e1:k=1
 ·rwa [e1]
 by_cases e2:k=2
 ·rwa [e2]
 by_cases e3:k=3
 ·rwa [e3]
 by_cases e4:k=4
 ·rwa [e4]
 by_cases e5:k=5
 ·rwa [e5]
 by_cases e6:k=6
 ·rwa [e6]
 exact h k e1 e2 e3 e4 e5 e6
def adZ(k n:Int)(x:aA)(rows:au):M.wP k n x rows=some (Yp k n x rows.length):=by
 simp only[M.wP,M.LY,M.xE,M.strings_Contains,amB,ah,RF,Yp,aIJ,aIK];generalize hasB 10 x=hb;generalize (x==[])=xe;generalize Nat.beq rows.length 0=c0;generalize Nat.beq rows.length 1=c1;generalize (decide (0<=n) && decide (n<=40))=r
 by_cases hn:n=0
 ·subst hn;revert k;refine adY ?_ ?_ ?_ ?_ ?_ ?_ (λk e1 e2 e3 e4 e5 e6=> ?_)
  case refine_7=>rw[<-bne_iff_ne] at e1 e4;simp only[II.2 e2,II.2 e3,II.2 e5,II.2 e6,e1,e4,II.2 (bne_iff_ne.1 e1),II.2 (bne_iff_ne.1 e4)];cases xe<;>rfl
  all_goals cases xe<;>cases hb<;>cases r<;>rfl
 ·have hn':(n==0)=false:=II.2 hn;have hn2:(n !=0)=true:=bne_iff_ne.2 hn;revert k;refine adY ?_ ?_ ?_ ?_ ?_ ?_ (λk e1 e2 e3 e4 e5 e6=> ?_)
  case refine_7=>rw[<-bne_iff_ne] at e1 e4;simp only[hn',hn2,II.2 e2,II.2 e3,II.2 e5,II.2 e6,e1,e4,II.2 (bne_iff_ne.1 e1),II.2 (bne_iff_ne.1 e4)];cases xe<;>rfl
  all_goals simp only[hn',hn2];cases xe<;>cases hb<;>cases r<;>rfl
def ag1(k n:Int)(x:aA)(rows:au)(hx:x.length<=1000000000):M.BX k n x rows=some (Yp k n x rows.length):=by
 simp only[M.BX,M.Rl,M.Bq,aq5 x hx,ah,RD,Yp,aIJ,aIK];generalize hasB 10 x=hb;generalize (x==[])=xe;generalize Nat.beq rows.length 0=c0;generalize Nat.beq rows.length 1=c1;generalize (decide (0<=n) && decide (n<=40))=r
 by_cases hn:n=0
 ·subst hn;revert k;refine adY ?_ ?_ ?_ ?_ ?_ ?_ (λk e1 e2 e3 e4 e5 e6=> ?_)
  case refine_7=>rw[<-bne_iff_ne] at e1 e4;simp only[II.2 e2,II.2 e3,II.2 e5,II.2 e6,e1,e4,II.2 (bne_iff_ne.1 e1),II.2 (bne_iff_ne.1 e4)];cases xe<;>rfl
  all_goals cases xe<;>cases hb<;>cases r<;>rfl
 ·have hn':(n==0)=false:=II.2 hn;have hn2:(n !=0)=true:=bne_iff_ne.2 hn;revert k;refine adY ?_ ?_ ?_ ?_ ?_ ?_ (λk e1 e2 e3 e4 e5 e6=> ?_)
  case refine_7=>rw[<-bne_iff_ne] at e1 e4;simp only[hn',hn2,II.2 e2,II.2 e3,II.2 e5,II.2 e6,e1,e4,II.2 (bne_iff_ne.1 e1),II.2 (bne_iff_ne.1 e4)];cases xe<;>rfl
  all_goals simp only[hn',hn2];cases xe<;>cases hb<;>cases r<;>rfl
def aaI(l:List Nd)(o:Bool){i:Nat}{n:Nd}{st:List Int}(hi:l[i]? =some n)(hl:l.length<=90000000)(hst:Zr st)(hs:st.length=i):
  ∀(j:Nat) (a:Int),j<=n.kids.length->n.kids.length<=90000000->0<=a->a<=i->M.tJ (dG o l) (i:Int) (encI st) (a,(j:Int) - 1)=some (match dV st (n.kids.take j).reverse (a - 1) with
   |none=> .inl ()
   |some r=> .inr (r+1, -1))
 |0,a,hj,hk,h0,h1=>by rw[M.tJ];apply bP;simp only[M.EI,M.yB];rw[rH ak,bg,List.take_zero,List.reverse_nil,dV];simp
 |j+1,a,hj,hkl,h0,h1=>by
  have hlt:i<l.length:=(PN.1 hi).1;obtain⟨k,hk⟩:∃k,n.kids[j]? =some k:=⟨n.kids[j]'ak,by simp⟩
  have ht:(n.kids.take (j+1)).reverse=k::(n.kids.take j).reverse:=by rw[List.take_add_one,hk,Option.toList_some,List.reverse_append];rfl
  rw[ht,dV];have e1:(((j+1:Nat):Int) - 1)=(j:Int):=ak;rw[e1];have hstep:M.EI (dG o l) (i:Int) (encI st) (a,(j:Int))=if a - 1<0\/k≠a - 1 then some (.inr (.inl ())) else some (.inl (st[k.toNat]?.getD 0,(j:Int) - 1)):=by
   simp only[M.EI,M.yB,bC,vG,hi,Oa,ah,cD3,nI,hk,NV];rw[zdt ak,aK,aB (n:=a - 1) ak ak]
   by_cases h2:k=a - 1
   ·have:(k !=a - 1)=false:=by simp[h2]
    rw[this,bg]
    by_cases h3:a=0
    ·have:(a==0)=true:=by simp[h3]
     rw[this,aK,if_pos (.inl ak)]
    ·have:(a==0)=false:=by simp[h3]
     rw[this,bg,if_neg ak];obtain⟨d,hd⟩:∃d:Nat,a - 1=(d:Int):=⟨(a - 1).toNat,ak⟩
     have hdl:d<st.length:=ak;rw[h2,hd];simp only[aiE,bC,nI,VO];rw[List.getElem?_eq_getElem hdl];simp only[Oa,ah,NV,Option.getD_some];rw[aB ak ak]
   ·have:(k !=a - 1)=true:=by simp[h2]
    rw[this,aK,if_pos (.inr h2)]
  by_cases hc:a - 1<0\/k≠a - 1
  ·rw[if_pos hc];rw[if_pos hc] at hstep;exact bP hstep
  ·rw[if_neg hc];rw[if_neg hc] at hstep;rw[M.tJ,dN hstep];have hz:=Qk hst k.toNat;have:=aaI l o hi hl hst hs j (st[k.toNat]?.getD 0) ak hkl hz.1 ak;rw[M.tJ] at this;exact this
def Zl(l:List Nd)(o:Bool)(hl:l.length<=90000000)(hk:∀n,n∈l->n.kids.length<=90000000):∀(rest:List Nd) (i:Nat) (st:List Int),l.drop i=rest->st.length=i->i<=l.length->Zr st->
  M.tN (dG o l) ((i:Int),encI st)=some (match fZ st (ks rest) with
   |none=> .inl ()
   |some r=> .inr ((l.length:Int),encI r))
 |[],i,st,hd,hs,hi,hst=>by have:l.length<=i:=List.drop_eq_nil_iff.1 hd;rw[M.tN];apply bP;simp only[jU,M.EJ,M.yC,jy];rw[rH ak,bg];have:i=l.length:=ak;subst this;rfl
 |n::rest,i,st,hd,hs,hi,hst=>by
  have hn:l[i]? =some n:=by
   have:(l.drop i)[0]? =some n:=by rw[hd];rfl
   simpa using this
  have hlt:i<l.length:=(PN.1 hn).1;have hd':l.drop (i+1)=rest:=by rw[<-List.drop_drop,hd];rfl
  have hkn:=hk n (AU hn);have hin:=aaI l o hn hl hst hs n.kids.length (i:Int) (zaO _) hkn ak ak;rw[List.take_length] at hin;have hks:ks (n::rest)=n.kids::ks rest:=rfl;rw[hks,fZ,hs];have hstep:M.EJ (dG o l) ((i:Int),encI st)=some (match dV st n.kids.reverse ((i:Int) - 1) with
    |none=> .inr (.inl ())
    |some a=> .inl (((i+1:Nat):Int),encI (st++[a+1]))):=by
   simp only[jU,M.EJ,M.yC,jy,bC,vG,hn,Oa,ah,cD3,bf];rw[zdt ak,aK,aB (n:=(n.kids.length:Int) - 1) ak ak,hin];cases hw:dV st n.kids.reverse ((i:Int) - 1) with
   |none=>rfl
   |some a=>simp only[ah,rO,letE,JU];rw[aS ak,aK,aS ak,aK,aB ak ak];simp[encI]
  cases hw:dV st n.kids.reverse ((i:Int) - 1) with
  |none=>rw[hw] at hstep;exact bP hstep
  |some a=>rw[hw] at hstep;rw[M.tN,dN hstep];have hr:=DU hst _ _ _ ak ak hw;have:=Zl l o hl hk rest (i+1) (st++[a+1]) hd' (by simp[hs]) hlt (VK hst hr.1 hr.2);rw[M.tN] at this;exact this
def awN(st:List Int)(m i:Nat)(h:i<st.length):(st++List.replicate m 0)[i]? =some (st[i]?.getD 0):=by rw[List.getElem?_append_left h,List.getElem?_eq_getElem h];rfl
def aaJ(v0 v1:au)(v2 v3:Int)(k1 k2:Int)(x:aA){kids st:List Int}(m:Nat)(hk:kids.length<=90000000)(hl:st.length<=90000000)(hst:Zr st):
  ∀(j:Nat) (a:Int),j<=kids.length-> -1<=a->a<st.length->M.sW v0 v2 v1 v3 v2 (encI (st++List.replicate m 0)) k1 k2 x (encI kids) (a,(j:Int) - 1)=some (match dV st (kids.take j).reverse a with
   |none=> .inl ()
   |some r=> .inr (r, -1))
 |0,a,hj,h0,h1=>by rw[M.sW];apply bP;simp only[M.EC,M.yt];rw[rH ak,bg,List.take_zero,List.reverse_nil,dV];simp
 |j+1,a,hj,h0,h1=>by
  obtain⟨k,hkj⟩:∃k,kids[j]? =some k:=⟨kids[j]'ak,by simp⟩
  have ht:(kids.take (j+1)).reverse=k::(kids.take j).reverse:=by rw[List.take_add_one,hkj,Option.toList_some,List.reverse_append];rfl
  rw[ht,dV];have e1:(((j+1:Nat):Int) - 1)=(j:Int):=ak;rw[e1];have hstep:M.EC v0 v2 v1 v3 v2 (encI (st++List.replicate m 0)) k1 k2 x (encI kids) (a,(j:Int))=if a<0\/k≠a then some (.inr (.inl ())) else some (.inl (st[k.toNat]?.getD 0 - 1,(j:Int) - 1)):=by
   simp only[M.EC,M.yt];rw[zdt ak,aK]
   by_cases ha:a<0
   ·rw[zdt ha,aK,if_pos (.inl ha)]
   ·rw[rH ha,bg];simp only[bC,nI,hkj,Oa,ah,NV]
    by_cases h2:k=a
    ·have:(k !=a)=false:=by simp[h2]
     obtain⟨d,rfl⟩:∃d:Nat,a=(d:Int):=⟨a.toNat,ak⟩
     rw[this,bg,if_neg ak];have hz:=Qk hst d;simp only[bC,VO,nI,awN st m d ak,Oa,ah,NV];rw[aB ak ak,aB ak ak,h2,VO]
    ·have:(k !=a)=true:=by simp[h2]
     rw[this,aK,if_pos (.inr h2)]
  by_cases hc:a<0\/k≠a
  ·rw[if_pos hc];rw[if_pos hc] at hstep;exact bP hstep
  ·rw[if_neg hc];rw[if_neg hc] at hstep;rw[M.sW,dN hstep];have hz:=Qk hst k.toNat;have:=aaJ v0 v1 v2 v3 k1 k2 x m hk hl hst j (st[k.toNat]?.getD 0 - 1) ak ak ak;rw[M.sW] at this;exact this
def Zm(l:List Nd)(o:Bool)(hl:l.length<=90000000)(hk:∀n,n∈l->n.kids.length<=90000000):∀(rest:List Nd) (i:Nat) (st:List Int),l.drop i=rest->st.length=i->i<=l.length->Zr st->
  M.sZ (dG o l) (dG o l) (l.length:Int) ((i:Int),encI (st++List.replicate (l.length - i) 0))=some (match fZ st (ks rest) with
   |none=> .inl ()
   |some r=> .inr ((l.length:Int),encI r))
 |[],i,st,hd,hs,hi,hst=>by have:l.length<=i:=List.drop_eq_nil_iff.1 hd;rw[M.sZ];apply bP;simp only[M.ED,M.yu];rw[rH ak,bg];have:i=l.length:=ak;subst this;rw[Nat.sub_self,List.replicate_zero,List.append_nil];rfl
 |n::rest,i,st,hd,hs,hi,hst=>by
  have hn:l[i]? =some n:=by
   have:(l.drop i)[0]? =some n:=by rw[hd];rfl
   simpa using this
  have hlt:i<l.length:=(PN.1 hn).1;have hd':l.drop (i+1)=rest:=by rw[<-List.drop_drop,hd];rfl
  have hkn:=hk n (AU hn);have hin:=aaJ (dG o l) (dG o l) (i:Int) (l.length:Int) n.kind n.op n.text (kids:=n.kids) (l.length - i) hkn ak hst n.kids.length ((i:Int) - 1) (zaO _) ak ak;rw[List.take_length] at hin;have hks:ks (n::rest)=n.kids::ks rest:=rfl;rw[hks,fZ,hs];have hstep:M.ED (dG o l) (dG o l) (l.length:Int) ((i:Int),encI (st++List.replicate (l.length - i) 0))=some (match dV st n.kids.reverse ((i:Int) - 1) with
    |none=> .inr (.inl ())
    |some a=> .inl (((i+1:Nat):Int),encI ((st++[a+1])++List.replicate (l.length - (i+1)) 0))):=by
   simp only[M.ED,M.yu,bC,vG,hn,Oa,ah,cD0,cD1,cD2,cD3,bf];rw[zdt ak,aK,aB (n:=(n.kids.length:Int) - 1) ak ak,aB (n:=(i:Int) - 1) ak ak,hin];cases hw:dV st n.kids.reverse ((i:Int) - 1) with
   |none=>rfl
   |some a=>
    have hr:=DU hst _ _ _ ak ak hw;have hg:(encI (st++List.replicate (l.length - i) 0))[i]? =some [D.int .i64 0]:=by rw[nI,List.getElem?_append_right ak,hs,Nat.sub_self,List.getElem?_replicate,if_pos ak];rfl
    have hsp:splice [D.int .i64 0] 0 [D.int .i64 (i64.wrap (a+1))]=[D.int .i64 (a+1)]:=by rw[aB ak ak];rfl
    simp only[ah,rO,letE,VO,hg,hsp];rw[aB ak ak,axZ,List.set_append_right i (a+1) ak,hs,Nat.sub_self];obtain⟨q,hq⟩:∃q,l.length - i=q+1:=⟨l.length - i - 1,ak⟩
    rw[hq,List.replicate_succ,List.set_cons_zero,show l.length - (i+1)=q by omega,JR,List.singleton_append];rfl
  cases hw:dV st n.kids.reverse ((i:Int) - 1) with
  |none=>rw[hw] at hstep;exact bP hstep
  |some a=>rw[hw] at hstep;rw[M.sZ,dN hstep];have hr:=DU hst _ _ _ ak ak hw;have:=Zm l o hl hk rest (i+1) (st++[a+1]) hd' (by simp[hs]) hlt (VK hst hr.1 hr.2);rw[M.sZ] at this;exact this
end Go.Proofs.YtmeggnejljdlfaaGreatDoor
