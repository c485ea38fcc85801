import Derived.Test.YtoaeipkhadpbiaaGreatDoorZVal
import Derived.Test.YtoaeipkhadpbiaaGreatDoorVm4
set_option linter.defProp false
namespace Go.Proofs.YtoaeipkhadpbiaaGreatDoor
set_option linter.unusedVariables false
set_option linter.unusedSimpArgs false
open Go Go.Vm
def mx:Int->List Int->Int
 |a,[]=>a
 |a,x::l=>mx (bif decide (a<x) then x else a) l
def afK(B:Int):∀(l:List Int) (a:Int),a<=B->(∀x,x∈l->x<=B)->a<=mx a l/\mx a l<=B
 |[],a,h,_=>⟨Int.le_refl _,h⟩
 |x::l,a,h,hl=>by
  have hx:=hl x zmf;rw[mx]
  by_cases c:a<x
  ·rw[zdt c,aJ];have:=afK B l x hx λy hy=>hl y (zmm _ hy)
   omega
  ·rw[Ac c,aX];exact afK B l a h λy hy=>hl y (zmm _ hy)
def aiC:∀(l:List Int) (a x:Int),mx a (l++[x])=(bif decide (mx a l<x) then x else mx a l)
 |[],a,x=>rfl
 |y::l,a,x=>by rw[zca,mx,mx,aiC l]
def azO:∀(l:List Int) (a:Int),mx (1+a) (l.map λd=>1+d)=1+mx a l
 |[],a=>rfl
 |x::l,a=>by
  rw[zmc,mx,mx,<-azO l]
  by_cases c:a<x
  ·rw[zdt c,aJ,zdt aC,aJ]
  ·rw[Ac c,aX,Ac aC,aX]
def dep(l:List Nd):Nat->Nat->Int
 |0,_=>0
 |f+1,i=>mx 0 ((aky l i).map λk=>dep l f k.toNat)+1
def agO(l:List Nd):∀f i,0<=dep l f i/\dep l f i<=f
 |0,i=>by simp[dep]
 |f+1,i=>by have:=afK (f:Int) ((aky l i).map λk=>dep l f k.toNat) 0 aC (λx hx=>by obtain⟨k,_,rfl⟩:=List.mem_map.1 hx;exact(agO l f k.toNat).2);rw[dep];omega
section
variable {l:List Nd} {r:List Int} {o:Bool}
def aqK(h:Val l r):∀(f f' i:Nat),i<f->i<f'->i<l.length->dep l f i=dep l f' i
 |0,_,i,h1,_,_=>absurd h1 (Nat.not_lt_zero _)
 |f+1,0,i,_,h2,_=>absurd h2 (Nat.not_lt_zero _)
 |f+1,f'+1,i,h1,h2,h3=>by
  obtain⟨n,hn⟩:∃n,l[i]? =some n:=⟨l[i],by simp⟩
  rw[dep,dep,PI hn];congr 2;refine List.map_congr_left λk hk=> ?_
  have hkr:=h.kids hn k hk;exact aqK h f f' k.toNat aC aC aC
def akz(l:List Nd)(i:Nat):List Int:=(List.range i).map λj=>dep l (j+1) j
def azP(l:List Nd)(i:Nat):(akz l i).length=i:=by simp[akz]
def aqL(l:List Nd){i j:Nat}(h:j<i):(akz l i)[j]? =some (dep l (j+1) j):=by simp[akz,List.getElem?_range h]
def awg(l:List Nd)(i:Nat):akz l (i+1)=akz l i++[dep l (i+1) i]:=by simp[akz,List.range_succ]
def aqM(h:Val l r){i:Nat}{n:Nd}(hn:l[i]? =some n)(hk:n.kids.length<=1048576):M.JW (aU o l) (i:Int) (encI (akz l i)) (1,0)=some (dep l (i+1) i,(n.kids.length:Int)):=by
 have hil:=(UN.1 hn).1;have hle:=h.le;have hdk:∀k,k∈n.kids->dep l i k.toNat=dep l (k.toNat+1) k.toNat:=λk hkm=>by have:=h.kids hn k hkm;exact aqK h _ _ _ aC aC aC
 have hval:∀(j:Nat),(1:Int)+mx 0 ((n.kids.take j).map λk=>dep l i k.toNat)=mx 1 ((n.kids.take j).map λk=>1+dep l i k.toNat):=λj=>by have:=azO ((n.kids.take j).map λk=>dep l i k.toNat) 0;rw[List.map_map] at this;exact this.symm
 have hloop:=wC (b:=M.Ky (aU o l) (i:Int) (encI (akz l i))) (t:=(dep l (i+1) i,(n.kids.length:Int))) (λj=>(mx 1 ((n.kids.take j).map λk=>1+dep l i k.toNat),(j:Int))) n.kids.length
  (by
   intro j hj;obtain⟨k,hkj⟩:∃k,n.kids[j]? =some k:=⟨n.kids[j],by simp⟩
   have hkm:=zmg hkj;have hkr:=h.kids hn k hkm;obtain⟨q,hq⟩:∃q:Nat,k=q:=⟨k.toNat,aC⟩
   have hd:=hdk k hkm;have hr:=agO l (q+1) q;subst hq;rw[ztn] at hd;simp only[M.Ky,M.FK,dG,oO,hn,Ir,aj,cN4,jK,BP,hkj,cI0,ztn,aqL l (show q<i by omega)];rw[zdt aC,aJ,bF (n:=(j:Int)+1) aC aC,bF (n:=1+dep l (q+1) q) aC aC,List.take_add_one,hkj,Option.toList_some,List.map_append,zmc,List.map_nil,aiC,ztn,hd];rfl)
  (by simp only[M.Ky,M.FK,dG,oO,hn,Ir,aj,cN4,jK];rw[Ac aC,aX,<-hval,List.take_length,dep,PI hn,Int.add_comm]) 0 (Nat.zero_le _)
 rw[M.JW];exact hloop
def depth(l:List Nd):Int:=if IZ l then dep l l.length (l.length - 1) else 0
def Zp(l:List Nd)(o:Bool)(hl:l.length<=1048576)(hk:∀n,n∈l->n.kids.length<=1048576):M.zY (aU o l)=some (depth l):=by
 simp only[M.zY,M.Qy,Zo l o hl hk,aj,gV,depth];cases hs:IZ l with
 |false=>rfl
 |true=>
  obtain⟨r,h⟩:=asB hs;have h1:=h.pos;have h2:=h.le;have hloop:=wC (b:=M.Kz (aU o l)) (t:=((l.length:Int),encI (akz l l.length))) (λi=>((i:Int),encI (akz l i))) l.length
   (by
    intro i hi;obtain⟨n,hn⟩:∃n,l[i]? =some n:=⟨l[i],by simp⟩
    have hin:=aqM (o:=o) h hn (hk n (zmg hn));simp only[EY,M.Kz,M.FM,gV,hin,aj,jK,azP,Bd];rw[zdt aC,aJ,bC aC,aJ,bC aC,aJ,bF aC aC,awg];simp[encI])
   (by simp only[EY,M.Kz,M.FM,gV];rw[Ac aC,aX]) 0 (Nat.zero_le _)
  have Mc:M.OD (aU o l) (0,[])=_:=hloop;rw[zaT,aX,Mc,aj,bF aC aC,show(l.length:Int) - 1=((l.length - 1:Nat):Int) by omega,if_pos rfl];simp only[dG,ztn,BP,aqL l (show l.length - 1<l.length by omega),Ir,aj,cI0];rw[show l.length - 1+1=l.length by omega]
def afL(l:List Nd)(i:Nat):Nd:=match l[i]? with|some n=>n|none=>⟨0,0,[],[],[]⟩
def akA(n:Nd)(rows:ak):Row:=[.int .i64 n.kind,.int .i64 n.op,.str n.text,.str n.other,.sl true 5 rows]
def KT(l:List Nd):Nat->Nat->ak
 |0,_=>[]
 |f+1,i=>(aky l i).map λk=>akA (afL l k.toNat) (KT l f k.toNat)
def am2(h:Val l r)(hk:∀n,n∈l->n.kids.length<=400):∀(f i:Nat) (n:Nd),i<f->l[i]? =some n->M.lu f (aU o l) (i:Int)=some (n.kind,n.op,n.text,n.other,KT l f i)
 |0,i,n,hf,_=>absurd hf (Nat.not_lt_zero _)
 |f+1,i,n,hf,hn=>by
  have hkn:=hk n (zmg hn);have hil:=(UN.1 hn).1;have hkl:=h.kids hn;simp only[EY,M.lu,M.J7,dG,oO,hn,Ir,aj,cN0,cN1,cN2,cN3,cN4,jK];have hrec:∀(j:Nat) k,n.kids[j]? =some k->M.lu f (aU o l) k=some ((afL l k.toNat).kind,(afL l k.toNat).op,(afL l k.toNat).text,(afL l k.toNat).other,KT l f k.toNat):=by
   intro j k hj;have hkr:=hkl k (zmg hj);obtain⟨q,hq⟩:∃q:Nat,k=q:=⟨k.toNat,aC⟩
   subst hq;obtain⟨m,hm⟩:∃m,l[q]? =some m:=⟨l[q]'aC,by simp⟩
   have:=am2 h hk f q m aC hm;rw[this,ztn,afL,hm]
  have hloop:=wC (b:=M.o9 (M.lu f))
   (t:=if n.kids=[] then .inl (aU o l,encI n.kids,(n.kids.length:Int),0,0,0,[],[],n.kind,n.op,n.text,n.other) else .inr (aU o l,encI n.kids,(n.kids.length:Int),(n.kids.length:Int),0,0,[],[],n.kind,n.op,n.text,n.other,KT l (f+1) i))
   (λj=>if j=0 then .inl (aU o l,encI n.kids,(n.kids.length:Int),0,0,0,[],[],n.kind,n.op,n.text,n.other) else .inr (aU o l,encI n.kids,(n.kids.length:Int),(j:Int),0,0,[],[],n.kind,n.op,n.text,n.other,(n.kids.take j).map λk=>akA (afL l k.toNat) (KT l f k.toNat))) n.kids.length
   (by
    intro j hj;obtain⟨k,hkj⟩:∃k,n.kids[j]? =some k:=⟨n.kids[j],by simp⟩
    have hr:=hrec j k hkj;have htk:(n.kids.take (j+1)).map (λk=>akA (afL l k.toNat) (KT l f k.toNat))=(n.kids.take j).map (λk=>akA (afL l k.toNat) (KT l f k.toNat))++[akA (afL l k.toNat) (KT l f k.toNat)]:=by rw[List.take_add_one,hkj,Option.toList_some,List.map_append];rfl
    rw[if_neg (show¬j+1=0 by omega),htk]
    by_cases h0:j=0
    ·subst h0;rw[if_pos rfl];have aXz:idx (encI n.kids) 0=some [D.int .i64 k]:=by have:=dG (encI n.kids) 0;rw[agJ] at this;rw[this,BP,hkj];rfl
     simp only[EY,M.o9,M.o8,aXz,aj,cI0,hr];rw[zdt aC,aJ];rfl
    ·rw[if_neg h0];simp only[EY,M.o9,M.o8,dG,BP,hkj,Ir,aj,cI0,hr,zaV,zlt,Bd];rw[zdt aC,aJ,bC aC,aJ,bC aC,aJ,bF aC aC];rfl)
   (by
    by_cases h0:n.kids.length=0
    ·have he:n.kids=[]:=List.length_eq_zero_iff.1 h0;rw[if_pos h0,if_pos he];simp only[EY,M.o9,M.o8];rw[Ac aC,aX]
    ·have he:¬n.kids=[]:=λe=>h0 (by rw[e];rfl)
     rw[if_neg h0,if_neg he,List.take_length];simp only[EY,M.o9,M.o8];rw[Ac aC,aX,KT,PI hn]) 0 (Nat.zero_le _)
  rw[if_pos rfl] at hloop;rw[M.LZ,hloop,aj]
  by_cases he:n.kids=[]
  ·rw[if_pos he,KT,PI hn,he];rfl
  ·rw[if_neg he];rfl
def Wi:∀rows:ak,au rows=rows.map EK
 |[]=>rfl
 |x::rows=>by rw[au,Wi rows,zmc]
def aqN(h:Val l r)(hk:∀n,n∈l->n.kids.length<=400):∀(f i:Nat) (n:Nd) (a b:Int) (c d:aK),i<f->f<=1000->l[i]? =some n->M.jc f a b c d (au (KT l f i))=some (dep l f i)
 |0,i,n,a,b,c,d,hf,_,_=>absurd hf (Nat.not_lt_zero _)
 |f+1,i,n,a,b,c,d,hf,hf2,hn=>by
  have hkn:=hk n (zmg hn);have hil:=(UN.1 hn).1;have hkl:=h.kids hn;have hdr:=agO l (f+1) i;have hlen:(au (KT l (f+1) i)).length=n.kids.length:=by rw[Wi,KT,PI hn];simp
  simp only[M.jc,M.Bv,hlen];have hloop:=wC (b:=M.su (M.jc f) (au (KT l (f+1) i)) (n.kids.length:Int)) (t:=(mx 0 (n.kids.map λk=>dep l f k.toNat),(n.kids.length:Int)))
   (λj=>(mx 0 ((n.kids.take j).map λk=>dep l f k.toNat),(j:Int))) n.kids.length
   (by
    intro j hj;obtain⟨k,hkj⟩:∃k,n.kids[j]? =some k:=⟨n.kids[j],by simp⟩
    have hkr:=hkl k (zmg hkj);obtain⟨q,hq⟩:∃q:Nat,k=q:=⟨k.toNat,aC⟩
    subst hq;obtain⟨m,hm⟩:∃m,l[q]? =some m:=⟨l[q]'aC,by simp⟩
    have hrow:(au (KT l (f+1) i))[j]? =some (EK (akA m (KT l f q))):=by rw[Wi,KT,PI hn,List.getElem?_map,List.getElem?_map,hkj];simp only[Ir,ztn,afL,hm]
    have hrec:=aqN h hk f q m m.kind m.op m.text m.other aC aC hm;have k0:kP .i64 (EK (akA m (KT l f q))) 0=some m.kind:=rfl;have k1:kP .i64 (EK (akA m (KT l f q))) 1=some m.op:=rfl;have k2:cStr (EK (akA m (KT l f q))) 2=some m.text:=rfl;have k3:cStr (EK (akA m (KT l f q))) 3=some m.other:=rfl;have k4:cSl 5 (EK (akA m (KT l f q))) 4=some (au (KT l f q)):=rfl;simp only[EY,M.su,M.rZ,dG,hrow,aj,k0,k1,k2,k3,k4,hrec];rw[zdt aC,aJ,bF aC aC,List.take_add_one,hkj,Option.toList_some,List.map_append,zmc,List.map_nil,aiC,ztn];rfl)
   (by simp only[EY,M.su,M.rZ];rw[Ac aC,aX,List.take_length]) 0 (Nat.zero_le _)
  have Mc:M.Es (M.jc f) (au (KT l (f+1) i)) (n.kids.length:Int) (0,0)=_:=hloop;rw[Mc,aj];rw[dep,PI hn] at hdr|-;rw[bF aC aC]
end
def ZF{α:Type}(p:Nat->α->Bool):List α->Nat->Bool
 |[],_=>true
 |x::l,i=>p i x && ZF p l (i+1)
def Uw{α:Type}(l:List α)(p:Nat->α->Bool){b:Int->Option (Int⊕(Unit⊕Int))}
  (hb:∀(i:Nat) x,l[i]? =some x->b (i:Int)=some (bif p i x then .inl ((i:Int)+1) else .inr (.inl ()))) (he:b (l.length:Int)=some (.inr (.inr (l.length:Int)))):
  gU b 0=some (bif ZF p l 0 then .inr (l.length:Int) else .inl ()):=by
 have key:∀(t:List α) (i:Nat),l.drop i=t->i<=l.length->gU b (i:Int)=some (bif ZF p t i then .inr (l.length:Int) else .inl ()):=by
  intro t;induction t with
  |nil=>
   intro i hd hi;have:i=l.length:=by have:=congrArg List.length hd;simp at this;omega
   subst this;exact aO he
  |cons x t ih=>
   intro i hd hi;have hx:l[i]? =some x:=by
    have:(l.drop i)[0]? =some x:=by rw[hd];rfl
    simpa using this
   have hlt:i<l.length:=(UN.1 hx).1;have hd':l.drop (i+1)=t:=by rw[<-List.drop_drop,hd];rfl
   have hs:=hb i x hx;rw[ZF];cases hw:p i x with
   |true=>rw[hw,aJ] at hs;rw[aZ hs,show(i:Int)+1=((i+1:Nat):Int) by omega,ih (i+1) hd' hlt,Bool.true_and]
   |false=>rw[hw,aX] at hs;rw[aO hs];rfl
 exact key l 0 rfl (Nat.zero_le _)
noncomputable def fOk(n:Nd):Bool:=(M.dW n.kind n.op n.text n.other (encI n.kids)).getD false
noncomputable def kOk(n:Nd)(j:Int)(d:Int):Bool:=(M.dD n.kind n.op n.text n.other (encI n.kids) j d).getD false
structure Small(n:Nd):Prop where
 text:n.text.length<=1048576
 other:n.other.length<=1048576
def asC{n:Nd}(hs:Small n)(hk:n.kids.length<=400):M.dW n.kind n.op n.text n.other (encI n.kids)=some (fOk n)/\M.jG n.kind n.op n.text n.other (encI n.kids)=some (fOk n):=by obtain⟨b,h1,h2⟩:=aqG n.kind n.op n.text n.other (encI n.kids) hs.text hs.other (by rw[jK];exact hk);rw[fOk,h1];exact⟨rfl,h2⟩
def azQ{n:Nd}(hs:Small n)(hk:n.kids.length<=400)(hf:fOk n=true)(j:Nat)(hj:j<n.kids.length)(d:Int):
  M.dD n.kind n.op n.text n.other (encI n.kids) (j:Int) d=some (kOk n j d)/\M.dH n.kind n.op n.text n.other (encI n.kids) (j:Int) d=some (kOk n j d):=by
 have hc:=aCO (k:=n.kind) (op:=n.op) (t:=n.text) (o:=n.other) (kids:=encI n.kids) (by rw[(asC hs hk).1,hf]);obtain⟨b,h1,h2⟩:=aGs n.kind n.op n.text n.other (encI n.kids) (j:Int) d aC (by rw[jK];omega) (by rw[jK];exact hk) hc;rw[kOk,h1];exact⟨rfl,h2⟩
def auc:∀(l:List Int),(∀x,x∈l->1<=x)->(l.length:Int)<=abG l
 |[],_=>by simp[abG]
 |x::l,h=>by
  have:=auc l λy hy=>h y (zmm _ hy)
  have:=h x zmf;simp only[Zr,abG];omega
section
variable {l:List Nd} {r:List Int} {o:Bool}
def Val.afM(h:Val l r){i:Nat}{n:Nd}(hn:l[i]? =some n):n.kids.length<=400:=by have hil:=(UN.1 hn).1;have h1:=h.sum hn;have h2:=auc (n.kids.map (sz r)) (λx hx=>by obtain⟨k,hk,rfl⟩:=List.mem_map.1 hx;exact(h.azN (h.kids hn k hk).1).1);rw[zaV] at h2;have h3:=(h.azN (k:=(i:Int)) aC).2;have:=h.le;omega
def Val.aqO(h:Val l r):∀n,n∈l->n.kids.length<=400:=λn hn=>by obtain⟨i,hi⟩:=List.mem_iff_getElem?.1 hn;exact h.afM hi
noncomputable def kp(l:List Nd)(n:Nd)(j:Nat)(k:Int):Bool:=kOk n j (afL l k.toNat).kind
def akB(h:Val l r)(hsm:∀n,n∈l->Small n){i:Nat}{n:Nd}(hn:l[i]? =some n)(hf:fOk n=true)(v10:ak)(v11 v12:Int):
  M.LW (aU o l) (i:Int) 0=some (bif ZF (kp l n) n.kids 0 then .inr (n.kids.length:Int) else .inl ())/\
  M.L6 (aU o l) v10 v11 v12 (encI n.kids) (n.kids.length:Int) n.kind n.op n.text n.other (encI n.kids) 0=some (bif ZF (kp l n) n.kids 0 then .inr (n.kids.length:Int) else .inl ()):=by
 have hkl:=h.afM hn;have hs:=hsm n (zmg hn);have step:∀(j:Nat) k,n.kids[j]? =some k->∃(q:Nat) (m:Nd),k=(q:Int)/\l[q]? =some m/\(afL l k.toNat).kind=m.kind:=by
  intro j k hj;have hkr:=h.kids hn k (zmg hj);have hil:=(UN.1 hn).1;obtain⟨q,hq⟩:∃q:Nat,k=q:=⟨k.toNat,aC⟩
  obtain⟨m,hm⟩:∃m,l[q]? =some m:=⟨l[q]'aC,by simp⟩
  refine⟨q,m,hq,hm, ?_⟩;rw[hq,ztn,afL,hm]
 constructor
 ·rw[M.LW];refine Uw n.kids (kp l n) (λj k hj=> ?_) ?_
  ·obtain⟨q,m,hq,hm,he⟩:=step j k hj;have hjl:=(UN.1 hj).1;have hok:=(azQ hs hkl hf j hjl m.kind).1;rw[kp,he];subst hq;simp only[EY,M.SC,M.Ih,dG,oO,hn,hm,Ir,aj,cN0,cN1,cN2,cN3,cN4,jK,BP,hj,cI0,hok];rw[zdt aC,aJ,bF aC aC];cases kOk n j m.kind<;>rfl
  ·simp only[EY,M.SC,M.Ih,dG,oO,hn,Ir,aj,cN4,jK];rw[Ac aC,aX]
 ·rw[M.L6];refine Uw n.kids (kp l n) (λj k hj=> ?_) ?_
  ·obtain⟨q,m,hq,hm,he⟩:=step j k hj;have hjl:=(UN.1 hj).1;have hok:=(azQ hs hkl hf j hjl m.kind).2;rw[kp,he];subst hq;simp only[M.SG,M.Ik,dG,oO,hm,Ir,aj,cN0,BP,hj,cI0,hok];rw[zdt aC,aJ,bF aC aC];cases kOk n j m.kind<;>rfl
  ·simp only[M.SG,M.Ik];rw[Ac aC,aX]
noncomputable def np(l:List Nd)(_:Nat)(n:Nd):Bool:=fOk n && ZF (kp l n) n.kids 0
def ahM(h:Val l r)(hsm:∀n,n∈l->Small n):
  M.LX (aU o l) 0=some (bif ZF (np l) l 0 then .inr (l.length:Int) else .inl ())/\
  M.L8 (aU o l) (aU o l) (l.length:Int) 0=some (bif ZF (np l) l 0 then .inr (l.length:Int) else .inl ()):=by
 have hle:=h.le;constructor
 ·rw[M.LX];refine Uw l (np l) (λi n hi=> ?_) ?_
  ·have hil:=(UN.1 hi).1;have hf:=(asC (hsm n (zmg hi)) (h.afM hi)).1;simp only[EY,M.SE,M.Ii,gV,dG,oO,hi,Ir,aj,cN0,cN1,cN2,cN3,cN4,hf,np];rw[zdt aC,aJ,bF aC aC];cases hff:fOk n with
   |false=>rfl
   |true=>have:=(akB (o:=o) h hsm hi hff [] 0 0).1;rw[zaT,aX,this,aj];cases ZF (kp l n) n.kids 0<;>rfl
  ·simp only[EY,M.SE,M.Ii,gV];rw[Ac aC,aX]
 ·rw[M.L8];refine Uw l (np l) (λi n hi=> ?_) ?_
  ·have hil:=(UN.1 hi).1;have hf:=(asC (hsm n (zmg hi)) (h.afM hi)).2;simp only[EY,M.SH,M.Il,dG,oO,hi,Ir,aj,cN0,cN1,cN2,cN3,cN4,hf,np,jK];rw[zdt aC,aJ,bF aC aC];cases hff:fOk n with
   |false=>rfl
   |true=>have:=(akB (o:=o) h hsm hi hff (aU o l) (l.length:Int) (i:Int)).2;rw[zaT,aX,this,aj];cases ZF (kp l n) n.kids 0<;>rfl
  ·simp only[EY,M.SH,M.Il];rw[Ac aC,aX]
end
noncomputable def aeM(l:List Nd):Bool:=IZ l &&(decide (depth l<=40) && ZF (np l) l 0)
section
variable (l:List Nd) (o:Bool) (hl:l.length<=1048576) (hk:∀n,n∈l->n.kids.length<=1048576) (hsm:∀n,n∈l->Small n)
include hl hk hsm
theorem akC:M.IC (aU o l)=some (aeM l):=by
 simp only[M.IC,M.TS,Zo l o hl hk,Zp l o hl hk,aj,aeM];cases hs:IZ l with
 |false=>rfl
 |true=>
  obtain⟨r,h⟩:=asB hs;rw[zaT,aX,(ahM (o:=o) h hsm).1,aj,Bool.true_and]
  by_cases hd:depth l<=40
  ·rw[Ac (show¬depth l>40 by omega),aX,zdt hd,Bool.true_and];cases ZF (np l) l 0<;>rfl
  ·rw[zdt (show depth l>40 by omega),aJ,Ac hd];rfl
theorem akD:M.II (aU o l)=some (aeM l):=by
 simp only[M.II,M.TW,aib l o hl hk,aj,aeM,gV];cases hs:IZ l with
 |false=>rfl
 |true=>
  obtain⟨r,h⟩:=asB hs;have h1:=h.pos;have h2:=h.le;obtain⟨n,hn⟩:∃n,l[l.length - 1]? =some n:=⟨l[l.length - 1]'aC,by simp⟩
  have ht:=am2 (o:=o) h h.aqO l.length (l.length - 1) n aC hn;have hd:=aqN h h.aqO l.length (l.length - 1) n n.kind n.op n.text n.other aC aC hn;rw[zaT,aX,(ahM (o:=o) h hsm).2,aj,Bool.true_and];simp only[M.Ae,M.Oe,gV];rw[bF aC aC,show(l.length:Int) - 1=((l.length - 1:Nat):Int) by omega,M.abx ht,aj,aj];simp only;rw[M.V7 hd,aj,depth,if_pos hs];cases ZF (np l) l 0<;>simp[jg,letE]
end
@[simp] theorem aHr(l:List Int):Ub (encI l)=true:=by
 induction l with
 |nil=>rfl
 |cons x l ih=>simp only[encI,zmc] at ih|-;simp[Ub,xw,D.pure,ih]
@[simp] theorem aHs(l:List Int):[[D.sl true 1 (encI l)]].all xw=true:=by simp[xw,D.pure]
def Gm(o:Bool)(a b:List Nd):aU o (a++b)=aU o a++aU o b:=by simp[aU]
def an6(w:Bool):∀t:Tn,t.row w=[.int .i64 t.kind,.int .i64 t.op,.str t.text,.str t.other,.sl w 5 (dN w t.kids)]
 | .mk k o x y ks=>rfl
def Aa(w:Bool)(a b:List Tn):dN w (a++b)=dN w a++dN w b:=by simp[RZ]
def dR(w:Bool)(a:List Tn):(dN w a).length=a.length:=by simp[RZ]
def qL{α:Type}{l:List α}{j:Nat}{t:α}(h:l[j]? =some t):l.take (j+1)=l.take j++[t]:=by rw[List.take_add_one,h];rfl
def aqP{α:Type}{l:List α}{j:Nat}{t:α}(h:l[j]? =some t):l=l.take j++t::l.drop (j+1):=by obtain⟨hj,rfl⟩:=UN.1 h;rw[<-List.drop_eq_getElem_cons hj,List.take_append_drop]
def Pm{ks:List Tn}{j:Nat}{t:Tn}(h:ks[j]? =some t):sizes (ks.take j)+t.size<=sizes ks:=by have:=congrArg sizes (aqP h);rw[jT,sizes] at this;omega
section
variable {l:List Nd} {b:Nat} {k op:Int} {x y:aK} {ks:List Tn}
def Lies.asD(h:Lies l b (.mk k op x y ks)){j:Nat}{t:Tn}(hj:ks[j]? =some t):Lies l (b+sizes (ks.take j)) t:=by have e:=aqP hj;rw[e] at h;exact h.kid
def an7{j:Nat}{t:Tn}(hj:ks[j]? =some t):(ends ks b)[j]? =some ((b+sizes (ks.take j)+sizes t.kids:Nat):Int):=by have hlt:=(UN.1 hj).1;have hs:=t.X3;rw[axB hlt,qL hj,jT,sizes,sizes];congr 1;omega
def Lies.root'{t:Tn}(h:Lies l b t):l[b+sizes t.kids]? =some ⟨t.kind,t.op,t.text,t.other,ends t.kids b⟩:=by cases t;exact h.root
def am3{j:Nat}{t:Tn}(hj:ks[j]? =some t):ends (ks.take (j+1)) b=ends (ks.take j) b++[((b+sizes (ks.take j)+t.size:Nat):Int) - 1]:=by rw[qL hj,WR,ends,ends];congr 2<;>omega
def akE{j:Nat}{t:Tn}(hj:ks[j]? =some t):qU (ks.take (j+1)) b=qU (ks.take j) b++t.flat (b+sizes (ks.take j)):=by rw[qL hj,P8,qU,qU,List.append_nil]
def asE{w:Bool}{j:Nat}{t:Tn}(hj:ks[j]? =some t):dN w (ks.take (j+1))=dN w (ks.take j)++[t.row w]:=by rw[qL hj,Aa];rfl
def ends_range:∀(ks:List Tn) (b:Nat),∀e,e∈ends ks b->(b:Int)<=e/\e<b+sizes ks
 |[],b,e,h=>by simp[ends] at h
 |t::ts,b,e,h=>by
  have hp:=t.size_pos;rw[ends] at h;have hs:(sizes (t::ts):Int)=t.size+sizes ts:=by rw[sizes];omega
  rcases List.mem_cons.1 h with rfl|h
  ·omega
  ·have:=ends_range ts _ e h;omega
end
mutual
def SI:∀(t:Tn) (b:Nat),∀n,n∈t.flat b->n.kids.length<=t.size/\∀e,e∈n.kids->(0:Int)<=e/\e<b+t.size
 | .mk k o x y ks,b,n,h=>by
  rw[Tn.flat] at h;rw[Tn.size];rcases List.mem_append.1 h with h|h
  ·have:=akF ks b n h;exact⟨aC,λe he=>by have:=this.2 e he;omega⟩
  ·simp only[List.mem_singleton] at h;subst h;refine⟨by simp only[Iw];have:=yP ks;omega,λe he=> ?_⟩;have:=ends_range ks b e he;omega
def akF:∀(ks:List Tn) (b:Nat),∀n,n∈qU ks b->n.kids.length<=sizes ks/\∀e,e∈n.kids->(0:Int)<=e/\e<b+sizes ks
 |[],b,n,h=>by simp[qU] at h
 |t::ts,b,n,h=>by
  rw[qU] at h;rw[sizes];rcases List.mem_append.1 h with h|h
  ·have:=SI t b n h;exact⟨aC,λe he=>by have:=this.2 e he;omega⟩
  ·have:=akF ts _ n h;exact⟨aC,λe he=>by have:=this.2 e he;omega⟩
end
def aGt(t:Tn):∀(f:Nat) (w:Bool) (p:List Nd),t.size<=f->p.length+t.size<=1048576->
  M.lI f t.kind t.op t.text t.other (dN w t.kids) (aU true p)=some (aU true (p++t.flat p.length)):=by
 refine Tn.ind (P:=λt=>∀(f:Nat) (w:Bool) (p:List Nd),t.size<=f->p.length+t.size<=1048576->M.lI f t.kind t.op t.text t.other (dN w t.kids) (aU true p)=some (aU true (p++t.flat p.length))) ?_ t;intro k op x y ks ih f w p hf hp;cases f with
 |zero=>rw[Tn.size] at hf;omega
 |succ f=>
  rw[Tn.size] at hf hp;have hkl:=yP ks;simp only[EY,M.lI,M.JY,Tn.kids,Tn.kind,Tn.op,Tn.text,Tn.other,dR];have hrec:∀j t,ks[j]? =some t->M.lI f t.kind t.op t.text t.other (dN w t.kids) (aU true (p++qU (ks.take j) p.length))=some (aU true (p++qU (ks.take (j+1)) p.length)):=by
   intro j t hj;have hst:=Pm hj;have hfl:(p++qU (ks.take j) p.length).length=p.length+sizes (ks.take j):=by rw[DJ,uV]
   have:=ih t (zmg hj) f w (p++qU (ks.take j) p.length) aC (by rw[hfl];omega);rw[this,hfl,akE hj,XG]
  have hloop:=wC (b:=M.zN (M.lI f))
   (t:=if ks=[] then .inl (dN w ks,(ks.length:Int),0,aU true p,k,op,x,y) else .inr (dN w ks,(ks.length:Int),(ks.length:Int),aU true (p++qU ks p.length),k,op,x,y,encI (ends ks p.length)))
   (λj=>if j=0 then .inl (dN w ks,(ks.length:Int),0,aU true p,k,op,x,y) else .inr (dN w ks,(ks.length:Int),(j:Int),aU true (p++qU (ks.take j) p.length),k,op,x,y,encI (ends (ks.take j) p.length))) ks.length
   (by
    intro j hj;obtain⟨t,ht⟩:∃t,ks[j]? =some t:=⟨ks[j],by simp⟩
    have hr:=hrec j t ht;have hst:=Pm ht;have hp1:=t.size_pos;have hg:(dN w ks)[j]? =some (t.row w):=by rw[RZ];simp[ht]
    have hc0:kP .i64 (t.row w) 0=some t.kind:=by cases t;rfl
    have hc1:kP .i64 (t.row w) 1=some t.op:=by cases t;rfl
    have hc2:cStr (t.row w) 2=some t.text:=by cases t;rfl
    have hc3:cStr (t.row w) 3=some t.other:=by cases t;rfl
    have hc4:cSl 5 (t.row w) 4=some (dN w t.kids):=by cases t;rfl
    have hfl:(aU true (p++qU (ks.take (j+1)) p.length)).length=p.length+sizes (ks.take j)+t.size:=by rw[gV,DJ,uV,qL ht,jT,sizes,sizes];omega
    rw[if_neg (show¬j+1=0 by omega),am3 ht]
    by_cases h0:j=0
    ·subst h0;rw[if_pos rfl];have hi:idx (dN w ks) 0=some (t.row w):=by have:=dG (dN w ks) 0;rw[agJ] at this;rw[this,hg]
     have hr0:M.lI f t.kind t.op t.text t.other (dN w t.kids) (aU true p)=some (aU true (p++qU (ks.take (0+1)) p.length)):=by rw[<-hr];simp[qU]
     simp only[EY,M.zN,M.wB,hi,aj,hc0,hc1,hc2,hc3,hc4,hr0,hfl];rw[zdt aC,aJ,bF aC aC,bF aC aC];rfl
    ·rw[if_neg h0];simp only[EY,M.zN,M.wB,dG,hg,aj,hc0,hc1,hc2,hc3,hc4,hr,hfl,jK,Iw,zlt,Bd];rw[zdt aC,aJ,bC aC,aJ,bC aC,aJ,bF aC aC,bF aC aC];simp[encI])
   (by
    by_cases h0:ks.length=0
    ·have he:ks=[]:=List.length_eq_zero_iff.1 h0;rw[if_pos h0,if_pos he];simp only[EY,M.zN,M.wB];rw[Ac aC,aX]
    ·have he:¬ks=[]:=λe=>h0 (by rw[e];rfl)
     rw[if_neg h0,if_neg he,List.take_length];simp only[EY,M.zN,M.wB];rw[Ac aC,aX]) 0 (Nat.zero_le _)
  rw[if_pos rfl] at hloop;rw[M.Ns,hloop,aj]
  by_cases he:ks=[]
  ·rw[if_pos he];subst he;simp only[jg,gV,Bd];rw[bC aC,aJ,bC aC,aJ,Gm];rfl
  ·rw[if_neg he];simp only[jg,letE,gV,DJ,uV,Bd,Vu,aJ];rw[bC aC,aJ,bC aC,aJ,Tn.flat,<-XG];simp only[Gm];rfl
def aud{t:Tn}{w:Bool}(h:t.size<=1048576):M.oV t.kind t.op t.text t.other (dN w t.kids)=some (aU true (t.flat 0)):=by have:=M.agI (aGt t t.size w [] (zaU _) (by simpa using h));simp only[M.oV,M.Nu];have e:aU true ([]:List Nd)=[]:=rfl;rw[e] at this;rw[this,aj];simp
def wK:List Nd->Nat
 |[]=>0
 |n::l=>4+n.kids.length+wK l
def aeN:∀l:List Nd,Ub (aU true l)=true
 |[]=>rfl
 |n::l=>by have:aU true (n::l)=afj true n::aU true l:=rfl;rw[this,Ub,aeN l];simp[afj,xw,D.pure]
def Ym(l:List Nd):[[D.sl true 5 (aU true l)]].all xw=true:=by simp[xw,D.pure,aeN]
structure Ps where
 level:Int
 aGu:Bool
 aXA:Bool
 aXB:Bool
 aGv:Bool
 deriving DecidableEq,Inhabited
def Ps.zero:Ps:=⟨0,false,false,false,false⟩
def IQ(op:Int):Int:=bif op==44 then 3 else bif op==45 then 4 else bif op==67||op==46 then 6 else
 bif op==63||(op==48||(op==47||(op==50||(op==62||op==49)))) then 7 else bif op==99 then 8 else bif op==55||op==56 then 9 else
 bif op==57||(op==58||op==59) then 10 else bif op==60 then 12 else 0
structure Cnt(k op:Int)(y:aK)(n:Nat):Prop where
 one:k=6\/k=9\/k=10\/k=11\/k=20\/k=32\/k=40\/k=41->n=1
 two:k=12\/k=15\/k=29\/k=30->n=2
 some_:k=5\/k=13\/k=44->1<=n
 three:k=14->n=3
 four:k=31->n=4
 cnd:k=28->n=2\/n=3
 prn:k=21->(op=0\/op=1)/\(y≠[]->1<=n)
 wrd:k=23\/k=24->n<=1
 non:k=1\/k=2\/k=3\/k=4\/k=16\/k=22\/k=25\/k=26\/k=34->n=0
 rule:k=42->(op=1/\n=1)\/(op=2/\n=1)\/(op=3/\n=2)
 range:k=43->(op=1/\n=2)\/(op=3/\n=3)
 few:k≠33->k≠45->n<=7
 bin:k=12->IQ op≠0/\op≠61
 asg:k=15->op=54\/(38<=op/\op<=43)
 stp:k=9\/k=10->op=51\/op=52
 una:k=11->op=55\/op=56\/op=61
def cls(k op:Int)(n j:Nat):Nat:=
 if k=9\/k=10\/(k=15/\j=0) then 6 else if k=28\/k=29 then(if j=0 then 0 else 1) else if k=30 then(if j=0 then 1 else 0) else
 if k=31 then(if j<3 then 3 else 1) else if k=32\/k=40\/k=41 then 1 else if k=33 then 2 else if k=42 then(if op=2\/(op=3/\j+1=n) then 1 else 0) else
 if k=43 then(if j=2 then 1 else 0) else if k=44 then(if j+1=n then 1 else 4) else if k=45 then 5 else 0
def aQ5(c:Nat)(d:Int):Prop:=match c with
 |0=>1<=d/\d<=15
 |1=>d=33
 |2=>20<=d/\d<=34
 |3=>d=16\/(1<=d/\d<=15)
 |4=>d=1
 |5=>(40<=d/\d<=44)\/d=34
 |_=>d=1\/d=5\/d=6
def aGw(k:Int):Prop:=(1<=k/\k<=16)\/(20<=k/\k<=34)\/(40<=k/\k<=45)
mutual
def okT:Tn->Prop
 | .mk k op x y ks=>aGw k/\Cnt k op y ks.length/\oks k op ks.length ks 0
def oks(k op:Int)(n:Nat):List Tn->Nat->Prop
 |[],_=>True
 |t::ts,j=>aQ5 (cls k op n j) t.kind/\(okT t)/\oks k op n ts (j+1)
end
inductive PR(α:Type) where
 |ok (a:α) (i:Nat) (nt:List (aK))
 |bad (i:Nat)
 |out
def PR.bind{α β:Type}(x:PR α)(f:α->Nat->List (aK)->PR β):PR β:=match x with
 | .ok a i nt=>f a i nt
 | .bad i=> .bad i
 | .out=> .out
abbrev gW:=List (aK)
def bG(l:List Tk)(i:Nat):Int:=match l[i]? with|some t=>t.kind|none=>0
def CG(l:List Tk)(i:Nat):aK:=match l[i]? with|some t=>t.text|none=>[]
def jD(l:List Tk)(k:Int)(i:Nat)(nt:gW):PR Unit:=bif bG l i==k then .ok () (i+1) nt else .bad i
def nameP(l:List Tk)(i:Nat)(nt:gW):PR (aK):=bif bG l i==6 then .ok (CG l i) (i+1) nt else .bad i
def nlR:List Tk->Nat->gW->Nat×gW
 |[],i,nt=>(i,nt)
 |t::r,i,nt=>bif t.kind==1 then nlR r (i+1) nt else bif t.kind==2 then nlR r (i+1) (nt++[t.text]) else(i,nt)
def nl(l:List Tk)(i:Nat)(nt:gW):Nat×gW:=nlR (l.drop i) i nt
def Y0:List Tk->Nat->gW->Nat×gW
 |[],i,nt=>(i,nt)
 |t::r,i,nt=>bif t.kind==1||t.kind==37 then Y0 r (i+1) nt else bif t.kind==2 then Y0 r (i+1) (nt++[t.text]) else(i,nt)
def sep(l:List Tk)(i:Nat)(nt:gW):Nat×gW:=Y0 (l.drop i) i nt
def Y1(k:Int):Bool:=k==32||(k==34||k==30)
def XC(k:Int):Bool:=k==33||(k==35||k==31)
def ahead:List Tk->Int->Bool
 |[],_=>false
 |t::r,d=>bif Y1 t.kind then ahead r (d+1) else bif XC t.kind then(bif decide (d - 1<=0) then false else ahead r (d - 1)) else
   bif t.kind==36 && d==1 then true else bif decide (d<=0) then false else ahead r d
def isStep(k:Int):Bool:=k==51||k==52
def asF(k:Int):Bool:=k==3||(k==4||(k==6||(k==7||(k==8||(k==32||k==68)))))
abbrev Xp:=Tn×Bool
def tgt(x:Xp):Bool:= !x.2 && abE x.1.kind
def afN(k:Int)(l:List Tk)(i:Nat)(nt:gW):PR Xp:=.ok (.mk k 0 (CG l i) [] [],false) (i+1) nt
def Ez(lv:Nat)(b:Bool)(k:Int):Bool:=bif Nat.beq lv 8 then asF k else IQ k==(lv:Int) && !(b && k==62)
mutual
def ex(l:List Tk):Nat->Nat->Bool->Bool->Nat->gW->PR Xp
 |0,_,_,_,_,_=> .out
 |n+1,lv,a,b,i,nt=>match lv with
  |1=>(ex l n 2 a b i nt).bind λx i nt=>bif tgt x && ahJ (bG l i) then(ex l n 1 a b (i+1) nt).bind λy j nt=> .ok (.mk 15 (bG l i) [] [] [x.1,y.1],false) j nt else .ok x i nt
  |2=>(ex l n 3 a b i nt).bind λx i nt=>bif bG l i==65 then(ex l n 2 a b (i+1) nt).bind λy i nt=>(jD l 66 i nt).bind λ_ i nt=>(ex l n 2 a b i nt).bind λz i nt=>.ok (.mk 14 0 [] [] [x.1,y.1,z.1],false) i nt else .ok x i nt
  |3=>(ex l n 4 a b i nt).bind λx i nt=>chP l n 3 a b x i nt
  |4=>(ex l n 5 a b i nt).bind λx i nt=>chP l n 4 a b x i nt
  |5=>bif(bG l i==32 && !a) && ahead (l.drop i) 0 then
    (PN l n 33 (i+1) nt).bind λL i nt=>(jD l 24 i nt).bind λ_ i nt=>(nameP l i nt).bind λs i nt=>inP l n a (.mk 13 0 s [] L,false) i nt
   else(ex l n 6 a b i nt).bind λx i nt=>inP l n a x i nt
  |6=>(ex l n 7 a b i nt).bind λx i nt=>bif bG l i==67||bG l i==46 then(ex l n 7 a b (i+1) nt).bind λy j nt=> .ok (.mk 12 (bG l i) [] [] [x.1,y.1],false) j nt else .ok x i nt
  |7=>(ex l n 8 a b i nt).bind λx i nt=>bif Ez 7 b (bG l i) then(ex l n 8 a b (i+1) nt).bind λy j nt=> .ok (.mk 12 (bG l i) [] [] [x.1,y.1],false) j nt else .ok x i nt
  |8=>(ex l n 9 a b i nt).bind λx i nt=>chP l n 8 a b x i nt
  |9=>(ex l n 10 a b i nt).bind λx i nt=>chP l n 9 a b x i nt
  |10=>(ex l n 11 a b i nt).bind λx i nt=>chP l n 10 a b x i nt
  |11=>bif bG l i==55||(bG l i==56||bG l i==61) then(ex l n 11 a b (i+1) nt).bind λx j nt=> .ok (.mk 11 (bG l i) [] [] [x.1],false) j nt
   else ex l n 12 a b i nt
  |12=>(ex l n 13 a b i nt).bind λx i nt=>bif bG l i==60 then(ex l n 11 a b (i+1) nt).bind λy j nt=> .ok (.mk 12 60 [] [] [x.1,y.1],false) j nt else .ok x i nt
  |13=>bif isStep (bG l i) then XD l n i nt else(ex l n 14 a b i nt).bind λx i nt=>bif tgt x && isStep (bG l i) then .ok (.mk 10 (bG l i) [] [] [x.1],false) (i+1) nt else .ok x i nt
  |14=>bif bG l i==68 then
    (bif isStep (bG l (i+1)) then XD l n (i+1) nt else ex l n 14 a b (i+1) nt).bind λx i nt=> .ok (.mk 6 0 [] [] [x.1],false) i nt
   else ex l n 15 a b i nt
  |_=>bif bG l i==3 then afN 2 l i nt else bif bG l i==4 then afN 3 l i nt else bif bG l i==5 then afN 4 l i nt else
   bif bG l i==6 then
    (bif bG l (i+1)==34 then(PK l n false false [] (i+2) nt).bind λL j nt=>(jD l 35 j nt).bind λ_ j nt=> .ok (.mk 5 0 (CG l i) [] L,false) j nt
     else afN 1 l i nt) else
   bif bG l i==7||bG l i==8 then
    (bif bG l i==8 &&(CG l i==[108,101,110,103,116,104] && !(bG l (i+1)==32)) then afN 8 l i nt else
     (jD l 32 (i+1) nt).bind λ_ j nt=>(PN l n 33 j nt).bind λL j nt=> .ok (.mk (bG l i) 0 (CG l i) [] L,false) j nt) else
   bif bG l i==32 then(ex l n 1 false false (i+1) nt).bind λx i nt=>(jD l 33 i nt).bind λ_ i nt=> .ok (x.1,true) i nt else .bad i
def chP(l:List Tk):Nat->Nat->Bool->Bool->Xp->Nat->gW->PR Xp
 |0,_,_,_,_,_,_=> .out
 |n+1,lv,a,b,x,i,nt=>bif Ez lv (b && Nat.beq lv 7) (bG l i) then
   (let op:=bif Nat.beq lv 8 then 99 else bG l i
    let q:=bif Nat.beq lv 8 then(i,nt) else bif Nat.ble lv 4 then nl l (i+1) nt else(i+1,nt)
    (ex l n (lv+1) a b q.1 q.2).bind λy i nt=>chP l n lv a b (.mk 12 op [] [] [x.1,y.1],false) i nt)
  else .ok x i nt
def inP(l:List Tk):Nat->Bool->Xp->Nat->gW->PR Xp
 |0,_,_,_,_=> .out
 |n+1,a,x,i,nt=>bif bG l i==24 && !a then(nameP l (i+1) nt).bind λs i nt=>inP l n a (.mk 13 0 s [] [x.1],false) i nt else .ok x i nt
def XD(l:List Tk):Nat->Nat->gW->PR Xp
 |0,_,_=> .out
 |n+1,i,nt=>bif bG l (i+1)==68||bG l (i+1)==6 then(ex l n 14 false false (i+1) nt).bind λx j nt=> .ok (.mk 9 (bG l i) [] [] [x.1],false) j nt else .bad (i+1)
def PN(l:List Tk):Nat->Int->Nat->gW->PR (List Tn)
 |0,_,_,_=> .out
 |n+1,e,i,nt=>bif bG l i==e then .ok [] (i+1) nt else(PK l n false false [] i nt).bind λL i nt=>(jD l e i nt).bind λ_ i nt=> .ok L i nt
def PK(l:List Tk):Nat->Bool->Bool->List Tn->Nat->gW->PR (List Tn)
 |0,_,_,_,_,_=> .out
 |n+1,a,b,L,i,nt=>(ex l n 1 a b i nt).bind λx i nt=>bif bG l i==36 then(bif Nat.beq (L.length+1) 6 then .bad i else PK l n a b (L++[x.1]) (nl l (i+1) nt).1 (nl l (i+1) nt).2) else .ok (L++[x.1]) i nt
end
def Ip(k:Int):Bool:=k==0||(k==1||(k==2||(k==37||k==31)))
def zQ(k:Int):Bool:=k==62||(k==53||k==64)
def EU(nt:gW):List Tn:=nt.map λs=> .mk 34 0 s [] []
def endP{α:Type}(l:List Tk)(x:α)(i:Nat)(nt:gW):PR α:=bif Ip (bG l i) then .ok x i nt else .bad i
def U4(l:List Tk)(n i:Nat)(nt:gW):PR Tn:=(jD l 32 i nt).bind λ_ i nt=>(ex l n 1 false false i nt).bind λx i nt=>(jD l 33 i nt).bind λ_ i nt=> .ok x.1 i nt
def JB(l:List Tk)(n:Nat)(e:Int)(a:Bool)(i:Nat)(nt:gW):PR Tn:=bif bG l i==e then .ok (.mk 16 0 [] [] []) i nt else(ex l n 1 a false i nt).bind λx i nt=> .ok x.1 i nt
def afO(l:List Tk)(n i:Nat)(nt:gW):PR Tn:=
 (bif bG l i==26|| !(Ip (bG l (i+1))||zQ (bG l (i+1))) then PK l n false true [] (i+1) nt else .ok [] (i+1) nt).bind λL j nt=>
  bif zQ (bG l j) then(ex l n 9 false false (j+1) nt).bind λx k nt=> .ok (.mk 21 (bG l i - 25) [] (CG l j) (L++[x.1])) k nt
  else .ok (.mk 21 (bG l i - 25) [] [] L) j nt
def Zq(l:List Tk)(n:Nat)(k:Int)(i:Nat)(nt:gW):PR Tn:=
 bif Ip (bG l (i+1)) then .ok (.mk k 0 [] [] []) (i+1) nt else(ex l n 1 false false (i+1) nt).bind λx i nt=> .ok (.mk k 0 [] [] [x.1]) i nt
def akG(l:List Tk)(n i:Nat)(nt:gW):PR Tn:=(nameP l (i+1) nt).bind λs i nt=>bif bG l i==34 then(PK l n false false [] (i+1) nt).bind λL i nt=>(jD l 35 i nt).bind λ_ i nt=> .ok (.mk 27 0 s [] L) i nt else .ok (.mk 27 0 s [] []) i nt
def aic(l:List Tk)(n i:Nat)(nt:gW):PR Tn:=
 bif bG l i==25||bG l i==26 then afO l n i nt else bif bG l i==20 then .ok (.mk 22 0 [] [] []) (i+1) nt else bif bG l i==18 then .ok (.mk 25 0 [] [] []) (i+1) nt else
 bif bG l i==19 then .ok (.mk 26 0 [] [] []) (i+1) nt else bif bG l i==21 then Zq l n 23 i nt else bif bG l i==22 then Zq l n 24 i nt else
 bif bG l i==23 then akG l n i nt else(ex l n 1 false false i nt).bind λx i nt=> .ok (.mk 20 0 [] [] [x.1]) i nt
mutual
def stP(l:List Tk):Nat->Nat->gW->PR Tn
 |0,_,_=> .out
 |n+1,i,nt=>
  bif bG l i==30 then JZ l n i nt else
  bif bG l i==13 then(U4 l n (i+1) nt).bind λx i nt=>(Bc l n i nt).bind λy i nt=>
   (let q:=sep l i nt
    bif bG l q.1==14 then(Bc l n (q.1+1) q.2).bind λz i nt=> .ok (.mk 28 0 [] [] [x,y,z]) i nt else .ok (.mk 28 0 [] [] [x,y]) i nt) else
  bif bG l i==15 then(U4 l n (i+1) nt).bind λx i nt=>(Bc l n i nt).bind λy i nt=> .ok (.mk 29 0 [] [] [x,y]) i nt else
  bif bG l i==17 then(Bc l n (i+1) nt).bind λx i nt=>(jD l 15 (sep l i nt).1 (sep l i nt).2).bind λ_ i nt=>(U4 l n i nt).bind λy i nt=>endP l (.mk 30 0 [] [] [x,y]) i nt else
  bif bG l i==16 then(jD l 32 (i+1) nt).bind λ_ i nt=>
   (bif bG l i==6 && bG l (i+1)==24 then(nameP l (i+2) nt).bind λs j nt=>(jD l 33 j nt).bind λ_ j nt=>(Bc l n j nt).bind λy j nt=> .ok (.mk 32 0 (CG l i) s [y]) j nt
    else(JB l n 37 true i nt).bind λx i nt=>(jD l 37 i nt).bind λ_ i nt=>(JB l n 37 false (nl l i nt).1 (nl l i nt).2).bind λy i nt=>
    (jD l 37 i nt).bind λ_ i nt=>(JB l n 33 false (nl l i nt).1 (nl l i nt).2).bind λz i nt=>(jD l 33 i nt).bind λ_ i nt=>
    (Bc l n i nt).bind λw i nt=> .ok (.mk 31 0 [] [] [x,y,z,w]) i nt) else
  (aic l n i nt).bind λx i nt=>endP l x i nt
def JZ(l:List Tk):Nat->Nat->gW->PR Tn
 |0,_,_=> .out
 |n+1,i,nt=>(jD l 30 i nt).bind λ_ i nt=>(Wy l n [] i nt).bind λL i nt=> .ok (.mk 33 0 [] [] L) i nt
def Wy(l:List Tk):Nat->List Tn->Nat->gW->PR (List Tn)
 |0,_,_,_=> .out
 |n+1,L,i,nt=>
  (let q:=sep l i nt
   bif bG l q.1==31 then .ok (L++EU q.2) (q.1+1) [] else bif bG l q.1==0 then .bad q.1 else
   (stP l n q.1 []).bind λs i nt=>Wy l n ((L++EU q.2)++[s]) i nt)
def Bc(l:List Tk):Nat->Nat->gW->PR Tn
 |0,_,_=> .out
 |n+1,i,nt=>
  (let q:=nl l i nt
   bif bG l q.1==30 then JZ l n q.1 q.2 else bif bG l q.1==37 then .ok (.mk 33 0 [] [] (EU q.2)) (q.1+1) [] else
   (stP l n q.1 []).bind λs i nt=> .ok (.mk 33 0 [] [] (EU q.2++[s])) i nt)
end
def Gn(l:List Tk):Nat->List Tn->Nat->gW->PR (List Tn)
 |0,_,_,_=> .out
 |n+1,L,i,nt=>(nameP l i nt).bind λs i nt=>bif bG l i==36 then(bif Nat.beq (L.length+1) 6 then .bad i else Gn l n (L++[.mk 1 0 s [] []]) (nl l (i+1) nt).1 (nl l (i+1) nt).2) else .ok (L++[.mk 1 0 s [] []]) i nt
def akH(l:List Tk)(n i:Nat)(nt:gW):PR Tn:=
 bif bG l i==6||bG l i==7 then
  (jD l 32 (i+1) nt).bind λ_ j nt=>(bif bG l j==33 then .ok [] j nt else Gn l n [] j nt).bind λL j nt=>(jD l 33 j nt).bind λ_ j nt=>(JZ l n (nl l j nt).1 (nl l j nt).2).bind λb j nt=> .ok (.mk 44 0 (CG l i) [] (L++[b])) j nt
 else .bad i
def Wj(l:List Tk)(n i:Nat)(nt:gW):PR Tn:=
 bif bG l i==10 then(JZ l n (i+1) nt).bind λb i nt=> .ok (.mk 40 0 [] [] [b]) i nt else
 bif bG l i==11 then(JZ l n (i+1) nt).bind λb i nt=> .ok (.mk 41 0 [] [] [b]) i nt else
 bif bG l i==12 then akH l n (i+1) nt else
 bif bG l i==30 then(JZ l n i nt).bind λb i nt=> .ok (.mk 42 2 [] [] [b]) i nt else
 (ex l n 1 false false i nt).bind λx i nt=>(bif bG l i==36 then(ex l n 1 false false (nl l (i+1) nt).1 (nl l (i+1) nt).2).bind λy i nt=> .ok (43,[x.1,y.1]) i nt else .ok (42,[x.1]) i nt:PR (Int×List Tn)).bind λq i nt=>bif bG l i==30 then(JZ l n i nt).bind λb i nt=> .ok (.mk q.1 3 [] [] (q.2++[b])) i nt else endP l (.mk q.1 1 [] [] q.2) i nt
def Ux(l:List Tk):Nat->List Tn->Nat->gW->PR (List Tn)
 |0,_,_,_=> .out
 |n+1,L,i,nt=>
  (let q:=sep l i nt
   bif bG l q.1==0 then .ok (L++EU q.2) q.1 [] else bif bG l q.1==31 then .bad q.1 else
   (Wj l n q.1 []).bind λs i nt=>Ux l n ((L++EU q.2)++[s]) i nt)
def PR.sat{α:Type}(P:α->Nat->gW->Prop)(x:PR α):Prop:=match x with
 | .ok a i nt=>P a i nt
 |_=>True
def PR.tot{α:Type}(P:α->Nat->gW->Prop)(x:PR α):Prop:=match x with
 | .ok a i nt=>P a i nt
 | .bad _=>True
 | .out=>False
section
variable {α β:Type} {P Q:α->Nat->gW->Prop} {R:β->Nat->gW->Prop} {x y:PR α} {f:α->Nat->gW->PR β} {c:Bool}
def gY:(x.bind f).tot R↔x.tot λa i nt=>(f a i nt).tot R:=by cases x<;>exact Iff.rfl
def dA(h:x.tot P)(k:∀a i nt,P a i nt->Q a i nt):x.tot Q:=by
 cases x with
 |ok a i nt=>exact k a i nt h
 |bad _=>trivial
 |out=>exact h
def fV:(bif c then x else y).tot P↔(c=true->x.tot P)/\(c=false->y.tot P):=by cases c<;>simp
end
variable {l:List Tk}
def eP{i:Nat}(h:bG l i≠0):i<l.length:=by
 unfold bG at h;cases hq:l[i]? with
 |none=>rw[hq] at h;exact absurd rfl h
 |some t=>exact(UN.1 hq).1
def Gp{P:Unit->Nat->gW->Prop}{k:Int}{i:Nat}{nt:gW}:(jD l k i nt).tot P↔(bG l i=k->P () (i+1) nt):=by unfold jD;rw[fV];simp[PR.tot]
def abH{P:aK->Nat->gW->Prop}{i:Nat}{nt:gW}:(nameP l i nt).tot P↔(bG l i=6->P (CG l i) (i+1) nt):=by unfold nameP;rw[fV];simp[PR.tot]
def an8:∀(r:List Tk) (i:Nat) (nt:gW),i<=(nlR r i nt).1
 |[],i,nt=>by rw[nlR];exact zaU _
 |t::r,i,nt=>by
  rw[nlR];cases t.kind==1<;>cases t.kind==2<;>simp only[aJ,aX]
  ·exact zaU _
  ·have:=an8 r (i+1) (nt++[t.text]);omega
  ·have:=an8 r (i+1) nt;omega
  ·have:=an8 r (i+1) nt;omega
def ahN(i:Nat)(nt:gW):i<=(nl l i nt).1:=an8 _ _ _
def aiD:∀(r:List Tk) (i:Nat) (nt:gW),i<=(Y0 r i nt).1
 |[],i,nt=>by rw[Y0];exact zaU _
 |t::r,i,nt=>by
  rw[Y0];cases(t.kind==1||t.kind==37)<;>cases t.kind==2<;>simp only[aJ,aX]
  ·exact zaU _
  ·have:=aiD r (i+1) (nt++[t.text]);omega
  ·have:=aiD r (i+1) nt;omega
  ·have:=aiD r (i+1) nt;omega
def an9(i:Nat)(nt:gW):i<=(sep l i nt).1:=aiD _ _ _
structure Ends(l:List Tk)(n:Nat):Prop where
 ex:∀lv a b i nt,1<=lv->lv<=15->40 * (l.length - i)+(2 * (16 - lv)+2)<=n->(ex l n lv a b i nt).tot λ_ j _=>i<j
 ch:∀lv a b x i nt,3<=lv->lv<=10->40 * (l.length - i)+(2 * (16 - lv)+1)<=n->(chP l n lv a b x i nt).tot λ_ j _=>i<=j
 inp:∀a x i nt,40 * (l.length - i)+1<=n->(inP l n a x i nt).tot λ_ j _=>i<=j
 pre:∀i nt,i<l.length->40 * (l.length - i)+1<=n->(XD l n i nt).tot λ_ j _=>i<j
 lst:∀e i nt,e≠0->40 * (l.length - i)+36<=n->(PN l n e i nt).tot λ_ j _=>i<j
 it:∀a b L i nt,40 * (l.length - i)+35<=n->(PK l n a b L i nt).tot λ_ j _=>i<j
def akI{k:Int}(h:ahJ k=true):k≠0:=by rintro rfl;exact absurd h (by decide)
def NC{k:Int}(h:isStep k=true):k≠0:=by rintro rfl;exact absurd h (by decide)
def ND{lv:Nat}{b:Bool}{k:Int}(h3:3<=lv)(h:Ez lv b k=true):k≠0:=by
 rintro rfl;unfold Ez at h;cases hb:Nat.beq lv 8 with
 |true=>rw[hb,aJ] at h;exact absurd h (by decide)
 |false=>
  rw[hb,aX,PO] at h;have h1:(0:Int)=(lv:Int):=by simpa[IQ] using h.1
  omega
section
variable {n:Nat} (h:Ends l n)
include h
theorem aCQ(lv:Nat)(a b:Bool)(i:Nat)(nt:gW)(h1:1<=lv)(h2:lv<=15)(hn:40 * (l.length - i)+(2 * (16 - lv)+2)<=n+1):(ex l (n+1) lv a b i nt).tot λ_ j _=>i<j:=by
 have hlt:∀{j:Nat} {k:Int},(bG l j==k)=true->k≠0->j<l.length:=λe hk=>eP (by rw[beq_iff_eq] at e;rw[e];exact hk)
 have hc:lv=1\/lv=2\/lv=3\/lv=4\/lv=5\/lv=6\/lv=7\/lv=8\/lv=9\/lv=10\/lv=11\/lv=12\/lv=13\/lv=14\/lv=15:=aC;rcases hc with rfl|rfl|rfl|rfl|rfl|rfl|rfl|rfl|rfl|rfl|rfl|rfl|rfl|rfl|rfl<;>simp only[ex,gY]
 ·refine dA (h.ex 2 a b i nt aC aC aC) λx j m hj=> ?_
  rw[fV];refine⟨λhc=> ?_,λ_=>hj⟩;rw[PO] at hc;have:=eP (akI hc.2);rw[gY];exact dA (h.ex 1 a b (j+1) m aC aC aC) λy j' m' hj'=>(show i<j' by omega)
 ·refine dA (h.ex 3 a b i nt aC aC aC) λx j m hj=> ?_
  rw[fV];refine⟨λhc=> ?_,λ_=>hj⟩;have:=hlt hc (by decide);simp only[gY,Gp];refine dA (h.ex 2 a b (j+1) m aC aC aC) λy j2 m2 hj2=>λhk=> ?_
  exact dA (h.ex 2 a b (j2+1) m2 aC aC aC) λz j3 m3 hj3=>(show i<j3 by omega)
 ·refine dA (h.ex 4 a b i nt aC aC aC) λx j m hj=> ?_
  exact dA (h.ch 3 a b x j m aC aC aC) λy j' m' hj'=>(show i<j' by omega)
 ·refine dA (h.ex 5 a b i nt aC aC aC) λx j m hj=> ?_
  exact dA (h.ch 4 a b x j m aC aC aC) λy j' m' hj'=>(show i<j' by omega)
 ·rw[fV];refine⟨λhc=> ?_,λ_=> ?_⟩
  ·rw[PO,PO] at hc;have:=hlt hc.1.1 (by decide);simp only[gY,Gp,abH];refine dA (h.lst 33 (i+1) nt (by decide) aC) λL j m hj=>λh24 h6=> ?_
   have:=eP (l:=l) (i:=j) (by rw[h24];decide);exact dA (h.inp a _ (j+1+1) m aC) λy j' m' hj'=>(show i<j' by omega)
  ·rw[gY];refine dA (h.ex 6 a b i nt aC aC aC) λx j m hj=> ?_
   exact dA (h.inp a x j m aC) λy j' m' hj'=>(show i<j' by omega)
 ·refine dA (h.ex 7 a b i nt aC aC aC) λx j m hj=> ?_
  rw[fV];refine⟨λhc=> ?_,λ_=>hj⟩;have:j<l.length:=by rw[Bool.or_eq_true] at hc;rcases hc with hc|hc<;>exact hlt hc (by decide)
  rw[gY];exact dA (h.ex 7 a b (j+1) m aC aC aC) λy j' m' hj'=>(show i<j' by omega)
 ·refine dA (h.ex 8 a b i nt aC aC aC) λx j m hj=> ?_
  rw[fV];refine⟨λhc=> ?_,λ_=>hj⟩;have:=eP (ND aC hc);rw[gY];exact dA (h.ex 8 a b (j+1) m aC aC aC) λy j' m' hj'=>(show i<j' by omega)
 ·refine dA (h.ex 9 a b i nt aC aC aC) λx j m hj=> ?_
  exact dA (h.ch 8 a b x j m aC aC aC) λy j' m' hj'=>(show i<j' by omega)
 ·refine dA (h.ex 10 a b i nt aC aC aC) λx j m hj=> ?_
  exact dA (h.ch 9 a b x j m aC aC aC) λy j' m' hj'=>(show i<j' by omega)
 ·refine dA (h.ex 11 a b i nt aC aC aC) λx j m hj=> ?_
  exact dA (h.ch 10 a b x j m aC aC aC) λy j' m' hj'=>(show i<j' by omega)
 ·rw[fV];refine⟨λhc=> ?_,λ_=>h.ex 12 a b i nt aC aC aC⟩;have:i<l.length:=by simp only[Bool.or_eq_true] at hc;rcases hc with hc|hc|hc<;>exact hlt hc (by decide)
  rw[gY];exact dA (h.ex 11 a b (i+1) nt aC aC aC) λy j' m' hj'=>(show i<j' by omega)
 ·refine dA (h.ex 13 a b i nt aC aC aC) λx j m hj=> ?_
  rw[fV];refine⟨λhc=> ?_,λ_=>hj⟩;have:=hlt hc (by decide);rw[gY];exact dA (h.ex 11 a b (j+1) m aC aC aC) λy j' m' hj'=>(show i<j' by omega)
 ·rw[fV];refine⟨λhc=> ?_,λ_=> ?_⟩
  ·have:=eP (NC hc);exact h.pre i nt this aC
  ·rw[gY];refine dA (h.ex 14 a b i nt aC aC aC) λx j m hj=> ?_
   rw[fV];exact⟨λ_=>(show i<j+1 by omega),λ_=>hj⟩
 ·rw[fV];refine⟨λhc=> ?_,λ_=>h.ex 15 a b i nt aC aC aC⟩;have:=hlt hc (by decide);rw[gY,fV];refine⟨λhs=> ?_,λ_=> ?_⟩
  ·have:=eP (NC hs);exact dA (h.pre (i+1) nt this aC) λx j m hj=>(show i<j by omega)
  ·exact dA (h.ex 14 a b (i+1) nt aC aC aC) λx j m hj=>(show i<j by omega)
 ·have abI:∀k,(afN k l i nt).tot λ_ j _=>i<j:=λk=>(show i<i+1 by omega)
  rw[fV];refine⟨λ_=>abI 2,λ_=> ?_⟩;rw[fV];refine⟨λ_=>abI 3,λ_=> ?_⟩;rw[fV];refine⟨λ_=>abI 4,λ_=> ?_⟩;rw[fV];refine⟨λhc=> ?_,λ_=> ?_⟩
  ·rw[fV];refine⟨λhd=> ?_,λ_=>abI 1⟩;have:=hlt hd (by decide);simp only[gY,Gp];exact dA (h.it false false [] (i+2) nt aC) λL j m hj=>λ_=>(show i<j+1 by omega)
  rw[fV];refine⟨λhc=> ?_,λ_=> ?_⟩
  ·have:i<l.length:=by rw[Bool.or_eq_true] at hc;rcases hc with hc|hc<;>exact hlt hc (by decide)
   rw[fV];refine⟨λ_=>abI 8,λ_=> ?_⟩;simp only[gY,Gp];intro h32;have:=eP (l:=l) (i:=i+1) (by rw[h32];decide);exact dA (h.lst 33 (i+1+1) nt (by decide) aC) λL j m hj=>(show i<j by omega)
  rw[fV];refine⟨λhc=> ?_,λ_=>trivial⟩;have:=hlt hc (by decide);simp only[gY,Gp];exact dA (h.ex 1 false false (i+1) nt aC aC aC) λx j m hj=>λ_=>(show i<j+1 by omega)
theorem aCR(lv:Nat)(a b:Bool)(x:Xp)(i:Nat)(nt:gW)(h3:3<=lv)(h10:lv<=10)(hn:40 * (l.length - i)+(2 * (16 - lv)+1)<=n+1):(chP l (n+1) lv a b x i nt).tot λ_ j _=>i<=j:=by
 rw[chP,fV];refine⟨λhc=> ?_,λ_=>zaU i⟩;have hlt:=eP (ND h3 hc);simp only;cases h8:Nat.beq lv 8 with
 |true=>
  have:=MB h8;subst this;simp only[aJ,gY];refine dA (h.ex 9 a b i nt aC aC aC) λy j m hj=> ?_
  exact dA (h.ch 8 a b _ j m aC aC aC) λy j' m' hj'=>(show i<=j' by omega)
 |false=>
  simp only[aX];cases h4:Nat.ble lv 4 with
  |true=>
   simp only[aJ,gY];have hg:=ahN (l:=l) (i+1) nt;refine dA (h.ex (lv+1) a b _ _ aC aC aC) λy j m hj=> ?_
   exact dA (h.ch lv a b _ j m aC aC aC) λy j' m' hj'=>(show i<=j' by omega)
  |false=>
   simp only[aX,gY];refine dA (h.ex (lv+1) a b (i+1) nt aC aC aC) λy j m hj=> ?_
   exact dA (h.ch lv a b _ j m aC aC aC) λy j' m' hj'=>(show i<=j' by omega)
theorem azR(a:Bool)(x:Xp)(i:Nat)(nt:gW)(hn:40 * (l.length - i)+1<=n+1):(inP l (n+1) a x i nt).tot λ_ j _=>i<=j:=by rw[inP,fV];refine⟨λhc=> ?_,λ_=>zaU i⟩;rw[PO] at hc;have:i<l.length:=eP (by have:=hc.1;rw[beq_iff_eq] at this;rw[this];decide);rw[gY,abH];intro h6;exact dA (h.inp a _ (i+1+1) nt aC) λy j' m' hj'=>(show i<=j' by omega)
theorem azS(i:Nat)(nt:gW)(hi:i<l.length)(hn:40 * (l.length - i)+1<=n+1):(XD l (n+1) i nt).tot λ_ j _=>i<j:=by rw[XD,fV];refine⟨λhc=> ?_,λ_=>trivial⟩;rw[gY];exact dA (h.ex 14 false false (i+1) nt aC aC aC) λy j' m' hj'=>(show i<j' by omega)
theorem azT(e:Int)(i:Nat)(nt:gW)(he:e≠0)(hn:40 * (l.length - i)+36<=n+1):(PN l (n+1) e i nt).tot λ_ j _=>i<j:=by rw[PN,fV];refine⟨λhc=>(show i<i+1 by omega),λ_=> ?_⟩;simp only[gY,Gp];exact dA (h.it false false [] i nt aC) λL j m hj=>λ_=>(show i<j+1 by omega)
theorem aCS(a b:Bool)(L:List Tn)(i:Nat)(nt:gW)(hn:40 * (l.length - i)+35<=n+1):(PK l (n+1) a b L i nt).tot λ_ j _=>i<j:=by
 rw[PK,gY];refine dA (h.ex 1 a b i nt aC aC aC) λx j m hj=> ?_
 rw[fV];refine⟨λhc=> ?_,λ_=>hj⟩;have:j<l.length:=eP (by rw[beq_iff_eq] at hc;rw[hc];decide);rw[fV];refine⟨λ_=>trivial,λ_=> ?_⟩;have hg:=ahN (l:=l) (j+1) m;exact dA (h.it a b _ _ _ aC) λy j' m' hj'=>(show i<j' by omega)
end
def adR(l:List Tk):∀n,Ends l n
 |0=>⟨λlv a b i nt h1 h2 hn=>by omega,λlv a b x i nt h1 h2 hn=>by omega,λa x i nt hn=>by omega,λi nt h hn=>by omega,λe i nt he hn=>by omega,λa b L i nt hn=>by omega⟩
 |n+1=>have h:=adR l n
  ⟨aCQ h,aCR h,azR h,azS h,azT h,aCS h⟩
variable {l:List Tk}
def dI{i:Nat}{k:Int}(e:(bG l i==k)=true)(hk:k≠0):i<l.length:=eP (by rw[beq_iff_eq] at e;rw[e];exact hk)
def abJ{k:Int}(h:zQ k=true):k≠0:=by rintro rfl;exact absurd h (by decide)
def akJ{n i:Nat}{nt:gW}(hn:40 * (l.length - i)+34<=n):(U4 l n i nt).tot λ_ j _=>i<j:=by simp only[U4,gY,Gp];intro h;exact dA ((adR l n).ex 1 false false (i+1) nt aC aC aC) λx j m hj=>λ_=>(show i<j+1 by omega)
def agP{n i:Nat}{nt:gW}{e:Int}{a:Bool}(hn:40 * (l.length - i)+34<=n):(JB l n e a i nt).tot λ_ j _=>i<=j:=by rw[JB,fV];refine⟨λ_=>zaU i,λ_=> ?_⟩;rw[gY];exact dA ((adR l n).ex 1 a false i nt aC aC aC) λx j m hj=>(show i<=j by omega)
def aqQ{n i:Nat}{k:Int}{nt:gW}(hn:40 * (l.length - i)+34<=n):(Zq l n k i nt).tot λ_ j _=>i<j:=by rw[Zq,fV];refine⟨λ_=>Nat.lt_succ_self i,λ_=> ?_⟩;rw[gY];exact dA ((adR l n).ex 1 false false (i+1) nt aC aC aC) λx j m hj=>(show i<j by omega)
def aCT{n i:Nat}{nt:gW}(hn:40 * (l.length - i)+40<=n):(akG l n i nt).tot λ_ j _=>i<j:=by rw[akG,gY,abH];intro h;rw[fV];refine⟨λhc=> ?_,λ_=>(show i<i+1+1 by omega)⟩;simp only[gY,Gp];exact dA ((adR l n).it false false [] (i+1+1+1) nt aC) λx j m hj=>λ_=>(show i<j+1 by omega)
def aCU{n i:Nat}{nt:gW}(hn:40 * (l.length - i)+40<=n):(afO l n i nt).tot λ_ j _=>i<j:=by
 rw[afO,gY];have h1:(bif bG l i==26|| !(Ip (bG l (i+1))||zQ (bG l (i+1))) then PK l n false true [] (i+1) nt else .ok [] (i+1) nt:PR (List Tn)).tot λ_ j _=>i<j:=by rw[fV];exact⟨λ_=>dA ((adR l n).it false true [] (i+1) nt aC) λx j m hj=>(show i<j by omega),λ_=>Nat.lt_succ_self i⟩
 refine dA h1 λL j m hj=> ?_
 rw[fV];refine⟨λhc=> ?_,λ_=>hj⟩;rw[gY];exact dA ((adR l n).ex 9 false false (j+1) m aC aC aC) λx j' m hj'=>(show i<j' by omega)
def aCV{n i:Nat}{nt:gW}(hn:40 * (l.length - i)+40<=n):(aic l n i nt).tot λ_ j _=>i<j:=by rw[aic,fV];refine⟨λ_=>aCU hn,λ_=> ?_⟩;rw[fV];refine⟨λ_=>Nat.lt_succ_self i,λ_=> ?_⟩;rw[fV];refine⟨λ_=>Nat.lt_succ_self i,λ_=> ?_⟩;rw[fV];refine⟨λ_=>Nat.lt_succ_self i,λ_=> ?_⟩;rw[fV];refine⟨λ_=>aqQ aC,λ_=> ?_⟩;rw[fV];refine⟨λ_=>aqQ aC,λ_=> ?_⟩;rw[fV];refine⟨λ_=>aCT aC,λ_=> ?_⟩;rw[gY];exact dA ((adR l n).ex 1 false false i nt aC aC aC) λx j m hj=>hj
def aoa{α:Type}{x:α}{i j:Nat}{nt:gW}(h:i<j):(endP l x j nt).tot λ_ j _=>i<j:=by rw[endP,fV];exact⟨λ_=>h,λ_=>trivial⟩
structure aEt(l:List Tk)(n:Nat):Prop where
 st:∀i nt,60 * (l.length - i)+50<=n->(stP l n i nt).tot λ_ j _=>i<j
 blk:∀i nt,60 * (l.length - i)+42<=n->(JZ l n i nt).tot λ_ j _=>i<j
 lines:∀L i nt,60 * (l.length - i)+52<=n->(Wy l n L i nt).tot λ_ j _=>i<j
 body:∀i nt,60 * (l.length - i)+52<=n->(Bc l n i nt).tot λ_ j _=>i<j
section
variable {n:Nat} (h:aEt l n)
include h
theorem aCW(i:Nat)(nt:gW)(hn:60 * (l.length - i)+50<=n+1):(stP l (n+1) i nt).tot λ_ j _=>i<j:=by
 rw[stP,fV];refine⟨λ_=>h.blk i nt aC,λ_=> ?_⟩;rw[fV];refine⟨λhc=> ?_,λ_=> ?_⟩
 ·have:=dI hc (by decide);simp only[gY];refine dA (akJ aC) λx j m hj=> ?_
  refine dA (h.body j m aC) λy j2 m2 hj2=> ?_
  rw[fV];refine⟨λhc=> ?_,λ_=>(show i<j2 by omega)⟩;have hs:=an9 (l:=l) j2 m2;rw[gY];exact dA (h.body _ _ aC) λz j3 m3 hj3=>(show i<j3 by omega)
 rw[fV];refine⟨λhc=> ?_,λ_=> ?_⟩
 ·have:=dI hc (by decide);simp only[gY];refine dA (akJ aC) λx j m hj=> ?_
  exact dA (h.body j m aC) λy j2 m2 hj2=>(show i<j2 by omega)
 rw[fV];refine⟨λhc=> ?_,λ_=> ?_⟩
 ·have:=dI hc (by decide);simp only[gY,Gp];refine dA (h.body (i+1) nt aC) λx j m hj=>λhk=> ?_
  have hs:=an9 (l:=l) j m;refine dA (akJ aC) λy j2 m2 hj2=> ?_
  exact aoa aC
 rw[fV];refine⟨λhc=> ?_,λ_=> ?_⟩
 ·have:=dI hc (by decide);simp only[gY,Gp];intro h32;rw[fV];refine⟨λhd=> ?_,λ_=> ?_⟩
  ·simp only[gY,Gp,abH];intro h6 h33;exact dA (h.body _ nt aC) λy j2 m2 hj2=>(show i<j2 by omega)
  ·simp only[gY,Gp];refine dA (agP aC) λx j m hj=>λhk=> ?_
   have g1:=ahN (l:=l) (j+1) m;refine dA (agP aC) λy j2 m2 hj2=>λhk2=> ?_
   have g2:=ahN (l:=l) (j2+1) m2;refine dA (agP aC) λz j3 m3 hj3=>λhk3=> ?_
   exact dA (h.body _ _ aC) λw j4 m4 hj4=>(show i<j4 by omega)
 rw[gY];exact dA (aCV aC) λx j m hj=>aoa hj
theorem azU(i:Nat)(nt:gW)(hn:60 * (l.length - i)+42<=n+1):(JZ l (n+1) i nt).tot λ_ j _=>i<j:=by simp only[JZ,gY,Gp];intro hk;have:=eP (l:=l) (i:=i) (by rw[hk];decide);exact dA (h.lines [] (i+1) nt aC) λL j m hj=>(show i<j by omega)
theorem asG(L:List Tn)(i:Nat)(nt:gW)(hn:60 * (l.length - i)+52<=n+1):(Wy l (n+1) L i nt).tot λ_ j _=>i<j:=by
 have hs:=an9 (l:=l) i nt;rw[Wy,fV];refine⟨λhc=>(show i<(sep l i nt).1+1 by omega),λ_=> ?_⟩;rw[fV];refine⟨λ_=>trivial,λhc=> ?_⟩;have hlt:(sep l i nt).1<l.length:=eP (by simpa using hc);rw[gY];refine dA (h.st _ _ aC) λs j m hj=> ?_
 exact dA (h.lines _ j m aC) λL j2 m2 hj2=>(show i<j2 by omega)
theorem awh(i:Nat)(nt:gW)(hn:60 * (l.length - i)+52<=n+1):(Bc l (n+1) i nt).tot λ_ j _=>i<j:=by have hs:=ahN (l:=l) i nt;rw[Bc,fV];refine⟨λhc=>dA (h.blk _ _ aC) λs j m hj=>(show i<j by omega),λ_=> ?_⟩;rw[fV];refine⟨λ_=>(show i<(nl l i nt).1+1 by omega),λ_=> ?_⟩;rw[gY];exact dA (h.st _ _ aC) λs j m hj=>(show i<j by omega)
end
def aue(l:List Tk):∀n,aEt l n
 |0=>⟨λi nt hn=>by omega,λi nt hn=>by omega,λL i nt hn=>by omega,λi nt hn=>by omega⟩
 |n+1=>have h:=aue l n
  ⟨aCW h,azU h,asG h,awh h⟩
def aqR:∀(n:Nat) (L:List Tn) (i:Nat) (nt:gW),l.length - i+1<=n->(Gn l n L i nt).tot λ_ j _=>i<j
 |0,_,_,_,hn=>by omega
 |n+1,L,i,nt,hn=>by rw[Gn,gY,abH];intro h6;have:=eP (l:=l) (i:=i) (by rw[h6];decide);rw[fV];refine⟨λhc=> ?_,λ_=>Nat.lt_succ_self i⟩;rw[fV];refine⟨λ_=>trivial,λ_=> ?_⟩;have hs:=ahN (l:=l) (i+1+1) nt;exact dA (aqR n _ _ _ aC) λs j m hj=>(show i<j by omega)
def aCX{n i:Nat}{nt:gW}(hn:60 * (l.length - i)+50<=n):(akH l n i nt).tot λ_ j _=>i<j:=by
 rw[akH,fV];refine⟨λhc=> ?_,λ_=>trivial⟩;simp only[gY,Gp];intro h32;have h1:(bif bG l (i+1+1)==33 then .ok [] (i+1+1) nt else Gn l n [] (i+1+1) nt:PR (List Tn)).tot λ_ j _=>i<j:=by rw[fV];exact⟨λ_=>(show i<i+1+1 by omega),λ_=>dA (aqR n [] _ nt aC) λx j m hj=>(show i<j by omega)⟩
 refine dA h1 λL j m hj=>λh33=> ?_
 have hs:=ahN (l:=l) (j+1) m;exact dA ((aue l n).blk _ _ aC) λx j m hj=>(show i<j by omega)
def azV{n i:Nat}{nt:gW}(hn:60 * (l.length - i)+50<=n):(Wj l n i nt).tot λ_ j _=>i<j:=by
 have hb:∀(i:Nat) (nt:gW) (k o:Int),60 * (l.length - i)+50<=n->((JZ l n i nt).bind λb i nt=>PR.ok (Tn.mk k o [] [] [b]) i nt).tot λ_ j _=>i<j:=by intro i nt k o hn;rw[gY];exact dA ((aue l n).blk i nt aC) λx j m hj=>hj
 rw[Wj,fV];refine⟨λhc=>dA (hb (i+1) nt 40 0 aC) λx j m hj=>(show i<j by omega),λ_=> ?_⟩;rw[fV];refine⟨λhc=>dA (hb (i+1) nt 41 0 aC) λx j m hj=>(show i<j by omega),λ_=> ?_⟩;rw[fV];refine⟨λhc=>dA (aCX aC) λx j m hj=>(show i<j by omega),λ_=> ?_⟩;rw[fV];refine⟨λhc=>hb i nt 42 2 aC,λ_=> ?_⟩;rw[gY];refine dA ((adR l n).ex 1 false false i nt aC aC aC) λx j m hj=> ?_
 rw[gY];have h1:(bif bG l j==36 then(ex l n 1 false false (nl l (j+1) m).1 (nl l (j+1) m).2).bind λy i nt=> .ok (43,[x.1,y.1]) i nt else .ok (42,[x.1]) j m:PR (Int×List Tn)).tot λ_ j _=>i<j:=by rw[fV];refine⟨λhc=> ?_,λ_=>hj⟩;have hs:=ahN (l:=l) (j+1) m;rw[gY];exact dA ((adR l n).ex 1 false false _ _ aC aC aC) λy j2 m2 hj2=>(show i<j2 by omega)
 refine dA h1 λq j2 m2 hj2=> ?_
 rw[fV];refine⟨λhc=> ?_,λ_=>aoa hj2⟩;rw[gY];exact dA ((aue l n).blk j2 m2 aC) λy j3 m3 hj3=>(show i<j3 by omega)
def aqS:∀(n:Nat) (L:List Tn) (i:Nat) (nt:gW),60 * (l.length - i)+52<=n->(Ux l n L i nt).tot λ_ j _=>i<=j
 |0,_,_,_,hn=>by omega
 |n+1,L,i,nt,hn=>by
  have hs:=an9 (l:=l) i nt;rw[Ux,fV];refine⟨λ_=>hs,λhc=> ?_⟩;have hlt:(sep l i nt).1<l.length:=eP (by simpa using hc);rw[fV];refine⟨λ_=>trivial,λ_=> ?_⟩;rw[gY];refine dA (azV aC) λs j m hj=> ?_
  exact dA (aqS n _ j m aC) λL j2 m2 hj2=>(show i<=j2 by omega)
section
variable {α β:Type} {P Q:α->Nat->gW->Prop} {R:β->Nat->gW->Prop} {x y:PR α} {f:α->Nat->gW->PR β} {c:Bool}
def eU:(x.bind f).sat R↔x.sat λa i nt=>(f a i nt).sat R:=by cases x<;>exact Iff.rfl
def bK(h:x.sat P)(k:∀a i nt,P a i nt->Q a i nt):x.sat Q:=by
 cases x with
 |ok a i nt=>exact k a i nt h
 |bad _=>trivial
 |out=>trivial
def fJ:(bif c then x else y).sat P↔(c=true->x.sat P)/\(c=false->y.sat P):=by cases c<;>simp
def iM{a:α}{i:Nat}{nt:gW}(h:x.sat P)(e:x=.ok a i nt):P a i nt:=by rw[e] at h;exact h
end
variable {l:List Tk}
def yY{P:Unit->Nat->gW->Prop}{k:Int}{i:Nat}{nt:gW}:(jD l k i nt).sat P↔(bG l i=k->P () (i+1) nt):=by unfold jD;rw[fJ];simp[PR.sat]
def Yn{P:aK->Nat->gW->Prop}{i:Nat}{nt:gW}:(nameP l i nt).sat P↔(bG l i=6->P (CG l i) (i+1) nt):=by unfold nameP;rw[fJ];simp[PR.sat]
abbrev FN(l:List Tk)(i n0 j n:Nat):Prop:=i<=j/\j<=l.length/\n+i<=n0+j
abbrev FE(l:List Tk)(i n0 s j n:Nat):Prop:=i<j/\j<=l.length/\n+i<=n0+j/\s+2 * i+1<=2 * j
def aob:∀(r:List Tk) (i:Nat) (nt:gW),i<=(nlR r i nt).1/\(nlR r i nt).1<=i+r.length/\(nlR r i nt).2.length+i<=nt.length+(nlR r i nt).1
 |[],i,nt=>by rw[nlR];exact⟨zaU _,zaU _,zaU _⟩
 |t::r,i,nt=>by
  rw[nlR,Zr];cases t.kind==1<;>cases t.kind==2<;>simp only[aJ,aX]
  ·omega
  ·have:=aob r (i+1) (nt++[t.text]);rw[DJ,Bd] at this;omega
  ·have:=aob r (i+1) nt;omega
  ·have:=aob r (i+1) nt;omega
def EC{i:Nat}{nt:gW}(h:i<=l.length):FN l i nt.length (nl l i nt).1 (nl l i nt).2.length:=by have:=aob (l.drop i) i nt;rw[List.length_drop] at this;unfold nl;omega
def aiE:∀(r:List Tk) (i:Nat) (nt:gW),i<=(Y0 r i nt).1/\(Y0 r i nt).1<=i+r.length/\(Y0 r i nt).2.length+i<=nt.length+(Y0 r i nt).1
 |[],i,nt=>by rw[Y0];exact⟨zaU _,zaU _,zaU _⟩
 |t::r,i,nt=>by
  rw[Y0,Zr];cases(t.kind==1||t.kind==37)<;>cases t.kind==2<;>simp only[aJ,aX]
  ·omega
  ·have:=aiE r (i+1) (nt++[t.text]);rw[DJ,Bd] at this;omega
  ·have:=aiE r (i+1) nt;omega
  ·have:=aiE r (i+1) nt;omega
def SK{i:Nat}{nt:gW}(h:i<=l.length):FN l i nt.length (sep l i nt).1 (sep l i nt).2.length:=by have:=aiE (l.drop i) i nt;rw[List.length_drop] at this;unfold sep;omega
structure aQ6(l:List Tk)(n:Nat):Prop where
 ex:∀lv a b i nt,1<=lv->lv<=15->i<=l.length->(ex l n lv a b i nt).sat λx j m=>FE l i nt.length x.1.size j m.length
 ch:∀lv a b x i nt,3<=lv->lv<=10->i<=l.length->(chP l n lv a b x i nt).sat λy j m=>FN l i nt.length j m.length/\y.1.size+2 * i<=x.1.size+2 * j
 inp:∀a x i nt,i<=l.length->(inP l n a x i nt).sat λy j m=>FN l i nt.length j m.length/\y.1.size+2 * i<=x.1.size+2 * j
 pre:∀i nt,i<l.length->(XD l n i nt).sat λx j m=>FE l i nt.length x.1.size j m.length
 lst:∀e i nt,e≠0->i<=l.length->(PN l n e i nt).sat λL j m=>FE l i nt.length (sizes L) j m.length
 it:∀a b L i nt,i<=l.length->(PK l n a b L i nt).sat λL' j m=>i<j/\FN l i nt.length j m.length/\sizes L'+2 * i+1<=sizes L+2 * j
def Wn(k o:Int)(x y:aK)(t:Tn):(Tn.mk k o x y [t]).size=t.size+1:=by simp only[Tn.size,sizes,Nat.add_zero]
def size2(k o:Int)(x y:aK)(t u:Tn):(Tn.mk k o x y [t,u]).size=t.size+u.size+1:=by simp only[Tn.size,sizes,Nat.add_zero]
def size3(k o:Int)(x y:aK)(t u v:Tn):(Tn.mk k o x y [t,u,v]).size=t.size+u.size+v.size+1:=by simp only[Tn.size,sizes,Nat.add_zero];omega
def aQ7(k o:Int)(x y:aK)(t u v w:Tn):(Tn.mk k o x y [t,u,v,w]).size=t.size+u.size+v.size+w.size+1:=by simp only[Tn.size,sizes];omega
def Uy(k o:Int)(x y:aK)(L:List Tn):(Tn.mk k o x y L).size=sizes L+1:=by rw[Tn.size]
def Xf(k o:Int)(x y:aK):(Tn.mk k o x y []).size=1:=by rw[Tn.size,sizes]
def sizes1(L:List Tn)(t:Tn):sizes (L++[t])=sizes L+t.size:=by rw[jT,sizes,sizes];omega
section
variable {n:Nat} (h:aQ6 l n)
include h
theorem aCY(lv:Nat)(a b:Bool)(i:Nat)(nt:gW)(h1:1<=lv)(h2:lv<=15)(hi:i<=l.length):(ex l (n+1) lv a b i nt).sat λx j m=>FE l i nt.length x.1.size j m.length:=by
 have hlt:∀{j:Nat} {k:Int},(bG l j==k)=true->k≠0->j<l.length:=λe hk=>eP (by rw[beq_iff_eq] at e;rw[e];exact hk)
 have hc:lv=1\/lv=2\/lv=3\/lv=4\/lv=5\/lv=6\/lv=7\/lv=8\/lv=9\/lv=10\/lv=11\/lv=12\/lv=13\/lv=14\/lv=15:=aC;rcases hc with rfl|rfl|rfl|rfl|rfl|rfl|rfl|rfl|rfl|rfl|rfl|rfl|rfl|rfl|rfl<;>simp only[ex,eU]
 ·refine bK (h.ex 2 a b i nt aC aC hi) λx j m hj=> ?_
  rw[fJ];refine⟨λhc=> ?_,λ_=>hj⟩;rw[PO] at hc;have:=eP (akI hc.2);rw[eU];exact bK (h.ex 1 a b (j+1) m aC aC aC) λy j' m' hj'=>by show FE l i nt.length (Tn.size _) j' m'.length;rw[size2];omega
 ·refine bK (h.ex 3 a b i nt aC aC hi) λx j m hj=> ?_
  rw[fJ];refine⟨λhc=> ?_,λ_=>hj⟩;have:=hlt hc (by decide);simp only[eU,yY];refine bK (h.ex 2 a b (j+1) m aC aC aC) λy j2 m2 hj2=>λhk=> ?_
  have:=eP (l:=l) (i:=j2) (by rw[hk];decide);exact bK (h.ex 2 a b (j2+1) m2 aC aC aC) λz j3 m3 hj3=>by show FE l i nt.length (Tn.size _) j3 m3.length;rw[size3];omega
 ·refine bK (h.ex 4 a b i nt aC aC hi) λx j m hj=> ?_
  exact bK (h.ch 3 a b x j m aC aC aC) λy j' m' hj'=>by omega
 ·refine bK (h.ex 5 a b i nt aC aC hi) λx j m hj=> ?_
  exact bK (h.ch 4 a b x j m aC aC aC) λy j' m' hj'=>by omega
 ·rw[fJ];refine⟨λhc=> ?_,λ_=> ?_⟩
  ·rw[PO,PO] at hc;have:=hlt hc.1.1 (by decide);simp only[eU,yY,Yn];refine bK (h.lst 33 (i+1) nt (by decide) aC) λL j m hj=>λh24 h6=> ?_
   have:=eP (l:=l) (i:=j) (by rw[h24];decide);have:=eP (l:=l) (i:=j+1) (by rw[h6];decide);exact bK (h.inp a _ (j+1+1) m aC) λy j' m' hj'=>by rw[Uy] at hj';omega
  ·rw[eU];refine bK (h.ex 6 a b i nt aC aC hi) λx j m hj=> ?_
   exact bK (h.inp a x j m aC) λy j' m' hj'=>by omega
 ·refine bK (h.ex 7 a b i nt aC aC hi) λx j m hj=> ?_
  rw[fJ];refine⟨λhc=> ?_,λ_=>hj⟩;have:j<l.length:=by rw[Bool.or_eq_true] at hc;rcases hc with hc|hc<;>exact hlt hc (by decide)
  rw[eU];exact bK (h.ex 7 a b (j+1) m aC aC aC) λy j' m' hj'=>by show FE l i nt.length (Tn.size _) j' m'.length;rw[size2];omega
 ·refine bK (h.ex 8 a b i nt aC aC hi) λx j m hj=> ?_
  rw[fJ];refine⟨λhc=> ?_,λ_=>hj⟩;have:=eP (ND aC hc);rw[eU];exact bK (h.ex 8 a b (j+1) m aC aC aC) λy j' m' hj'=>by show FE l i nt.length (Tn.size _) j' m'.length;rw[size2];omega
 ·refine bK (h.ex 9 a b i nt aC aC hi) λx j m hj=> ?_
  exact bK (h.ch 8 a b x j m aC aC aC) λy j' m' hj'=>by omega
 ·refine bK (h.ex 10 a b i nt aC aC hi) λx j m hj=> ?_
  exact bK (h.ch 9 a b x j m aC aC aC) λy j' m' hj'=>by omega
 ·refine bK (h.ex 11 a b i nt aC aC hi) λx j m hj=> ?_
  exact bK (h.ch 10 a b x j m aC aC aC) λy j' m' hj'=>by omega
 ·rw[fJ];refine⟨λhc=> ?_,λ_=>h.ex 12 a b i nt aC aC hi⟩;have:i<l.length:=by simp only[Bool.or_eq_true] at hc;rcases hc with hc|hc|hc<;>exact hlt hc (by decide)
  rw[eU];exact bK (h.ex 11 a b (i+1) nt aC aC aC) λy j' m' hj'=>by show FE l i nt.length (Tn.size _) j' m'.length;rw[Wn];omega
 ·refine bK (h.ex 13 a b i nt aC aC hi) λx j m hj=> ?_
  rw[fJ];refine⟨λhc=> ?_,λ_=>hj⟩;have:=hlt hc (by decide);rw[eU];exact bK (h.ex 11 a b (j+1) m aC aC aC) λy j' m' hj'=>by show FE l i nt.length (Tn.size _) j' m'.length;rw[size2];omega
 ·rw[fJ];refine⟨λhc=> ?_,λ_=> ?_⟩
  ·have:=eP (NC hc);exact h.pre i nt this
  ·rw[eU];refine bK (h.ex 14 a b i nt aC aC hi) λx j m hj=> ?_
   rw[fJ];refine⟨λhs=> ?_,λ_=>hj⟩;rw[PO] at hs;have:=eP (NC hs.2);show FE l i nt.length (Tn.size _) (j+1) m.length;rw[Wn];omega
 ·rw[fJ];refine⟨λhc=> ?_,λ_=>h.ex 15 a b i nt aC aC hi⟩;have:=hlt hc (by decide);rw[eU,fJ];refine⟨λhs=> ?_,λ_=> ?_⟩
  ·have:=eP (NC hs);exact bK (h.pre (i+1) nt this) λx j m hj=>by show FE l i nt.length (Tn.size _) j m.length;rw[Wn];omega
  ·exact bK (h.ex 14 a b (i+1) nt aC aC aC) λx j m hj=>by show FE l i nt.length (Tn.size _) j m.length;rw[Wn];omega
 ·have abI:∀k,i<l.length->(afN k l i nt).sat λx j m=>FE l i nt.length x.1.size j m.length:=λk hl=>by show FE l i nt.length (Tn.size _) (i+1) nt.length;rw[Xf];omega
  rw[fJ];refine⟨λhc=>abI 2 (hlt hc (by decide)),λ_=> ?_⟩;rw[fJ];refine⟨λhc=>abI 3 (hlt hc (by decide)),λ_=> ?_⟩;rw[fJ];refine⟨λhc=>abI 4 (hlt hc (by decide)),λ_=> ?_⟩;rw[fJ];refine⟨λhc=> ?_,λ_=> ?_⟩
  ·have h0:=hlt hc (by decide);rw[fJ];refine⟨λhd=> ?_,λ_=>abI 1 h0⟩;have:=hlt hd (by decide);simp only[eU,yY];exact bK (h.it false false [] (i+2) nt aC) λL j m hj=>λhk=>by have:=eP (l:=l) (i:=j) (by rw[hk];decide);show FE l i nt.length (Tn.size _) (j+1) m.length;rw[Uy];have e:sizes ([]:List Tn)=0:=rfl;omega
  rw[fJ];refine⟨λhc=> ?_,λ_=> ?_⟩
  ·have:i<l.length:=by rw[Bool.or_eq_true] at hc;rcases hc with hc|hc<;>exact hlt hc (by decide)
   rw[fJ];refine⟨λ_=>abI 8 this,λ_=> ?_⟩;simp only[eU,yY];intro h32;have:=eP (l:=l) (i:=i+1) (by rw[h32];decide);exact bK (h.lst 33 (i+1+1) nt (by decide) aC) λL j m hj=>by show FE l i nt.length (Tn.size _) j m.length;rw[Uy];omega
  rw[fJ];refine⟨λhc=> ?_,λ_=>trivial⟩;have:=hlt hc (by decide);simp only[eU,yY];exact bK (h.ex 1 false false (i+1) nt aC aC aC) λx j m hj=>λhk=>by have:=eP (l:=l) (i:=j) (by rw[hk];decide);show FE l i nt.length x.1.size (j+1) m.length;omega
theorem aCZ(lv:Nat)(a b:Bool)(x:Xp)(i:Nat)(nt:gW)(h3:3<=lv)(h10:lv<=10)(hi:i<=l.length):(chP l (n+1) lv a b x i nt).sat λy j m=>FN l i nt.length j m.length/\y.1.size+2 * i<=x.1.size+2 * j:=by
 rw[chP,fJ];refine⟨λhc=> ?_,λ_=>(show FN l i nt.length i nt.length/\x.1.size+2 * i<=x.1.size+2 * i by omega)⟩;have hlt:=eP (ND h3 hc);simp only;cases h8:Nat.beq lv 8 with
 |true=>
  have:=MB h8;subst this;simp only[aJ,eU];refine bK (h.ex 9 a b i nt aC aC aC) λy j m hj=> ?_
  exact bK (h.ch 8 a b _ j m aC aC aC) λy j' m' hj'=>by rw[size2] at hj';omega
 |false=>
  simp only[aX];cases h4:Nat.ble lv 4 with
  |true=>
   simp only[aJ,eU];have hg:=EC (l:=l) (i:=i+1) (nt:=nt) aC;refine bK (h.ex (lv+1) a b _ _ aC aC aC) λy j m hj=> ?_
   exact bK (h.ch lv a b _ j m aC aC aC) λy j' m' hj'=>by rw[size2] at hj';omega
  |false=>
   simp only[aX,eU];refine bK (h.ex (lv+1) a b (i+1) nt aC aC aC) λy j m hj=> ?_
   exact bK (h.ch lv a b _ j m aC aC aC) λy j' m' hj'=>by rw[size2] at hj';omega
theorem azW(a:Bool)(x:Xp)(i:Nat)(nt:gW)(hi:i<=l.length):(inP l (n+1) a x i nt).sat λy j m=>FN l i nt.length j m.length/\y.1.size+2 * i<=x.1.size+2 * j:=by rw[inP,fJ];refine⟨λhc=> ?_,λ_=>(show FN l i nt.length i nt.length/\x.1.size+2 * i<=x.1.size+2 * i by omega)⟩;rw[eU,Yn];intro h6;have:=eP (l:=l) (i:=i+1) (by rw[h6];decide);exact bK (h.inp a _ (i+1+1) nt aC) λy j' m' hj'=>by rw[Wn] at hj';omega
theorem azX(i:Nat)(nt:gW)(hi:i<l.length):(XD l (n+1) i nt).sat λx j m=>FE l i nt.length x.1.size j m.length:=by rw[XD,fJ];refine⟨λhc=> ?_,λ_=>trivial⟩;rw[eU];exact bK (h.ex 14 false false (i+1) nt aC aC aC) λy j' m' hj'=>by show FE l i nt.length (Tn.size _) j' m'.length;rw[Wn];omega
theorem azY(e:Int)(i:Nat)(nt:gW)(he:e≠0)(hi:i<=l.length):(PN l (n+1) e i nt).sat λL j m=>FE l i nt.length (sizes L) j m.length:=by
 have e0:sizes ([]:List Tn)=0:=rfl;rw[PN,fJ];refine⟨λhc=> ?_,λ_=> ?_⟩
 ·have:=eP (l:=l) (i:=i) (by rw[beq_iff_eq] at hc;rw[hc];exact he);show FE l i nt.length (sizes []) (i+1) nt.length;omega
 simp only[eU,yY];exact bK (h.it false false [] i nt hi) λL j m hj=>λhk=>by have:=eP (l:=l) (i:=j) (by rw[hk];exact he);show FE l i nt.length (sizes L) (j+1) m.length;omega
theorem aC0(a b:Bool)(L:List Tn)(i:Nat)(nt:gW)(hi:i<=l.length):(PK l (n+1) a b L i nt).sat λL' j m=>i<j/\FN l i nt.length j m.length/\sizes L'+2 * i+1<=sizes L+2 * j:=by
 rw[PK,eU];refine bK (h.ex 1 a b i nt aC aC hi) λx j m hj=> ?_
 rw[fJ];refine⟨λhc=> ?_,λ_=> ?_⟩
 ·have:j<l.length:=eP (by rw[beq_iff_eq] at hc;rw[hc];decide);rw[fJ];refine⟨λ_=>trivial,λ_=> ?_⟩;have hg:=EC (l:=l) (i:=j+1) (nt:=m) aC;exact bK (h.it a b _ _ _ aC) λy j' m' hj'=>by rw[sizes1] at hj';omega
 ·show i<j/\FN l i nt.length j m.length/\sizes (L++[x.1])+2 * i+1<=sizes L+2 * j;rw[sizes1];omega
end
def sats(l:List Tk):∀n,aQ6 l n
 |0=>⟨λ_ _ _ _ _ _ _ _=>by rw[ex];trivial,λ_ _ _ _ _ _ _ _ _=>by rw[chP];trivial,λ_ _ _ _ _=>by rw[inP];trivial,λ_ _ _=>by rw[XD];trivial,λ_ _ _ _ _=>by rw[PN];trivial,λ_ _ _ _ _ _=>by rw[PK];trivial⟩
 |n+1=>have h:=sats l n
  ⟨aCY h,aCZ h,azW h,azX h,azY h,aC0 h⟩
variable {l:List Tk}
abbrev FB(l:List Tk)(i n0 s j n:Nat):Prop:=i<j/\j<=l.length/\n+i<=n0+j/\s+n+6 * i+5<=n0+6 * j
abbrev FS(l:List Tk)(i n0 s j n:Nat):Prop:=i<j/\j<=l.length/\n+i<=n0+j/\s+n+6 * i+3<=n0+6 * j
def sizes0:sizes ([]:List Tn)=0:=rfl
def ED(nt:gW):(EU nt).length=nt.length:=by rw[EU,zaV]
def abW:∀nt:gW,sizes (EU nt)=nt.length
 |[]=>rfl
 |s::r=>by rw[show EU (s::r)=Tn.mk 34 0 s [] []::EU r from rfl,sizes,Xf,abW r,Zr];omega
def IU{n lv i:Nat}{a b:Bool}{nt:gW}(h1:1<=lv)(h2:lv<=15)(hi:i<=l.length):(ex l n lv a b i nt).sat λx j m=>FE l i nt.length x.1.size j m.length:=(sats l n).ex lv a b i nt h1 h2 hi
def adS{n i:Nat}{a b:Bool}{nt:gW}(hi:i<=l.length):(PK l n a b [] i nt).sat λL j m=>FE l i nt.length (sizes L) j m.length:=
 bK ((sats l n).it a b [] i nt hi) λL j m hj=>by rw[sizes0] at hj;omega
def Ua{n i:Nat}{nt:gW}(hi:i<=l.length):(U4 l n i nt).sat λx j m=>FE l i nt.length x.size j m.length:=by simp only[U4,eU,yY];intro hk;have:=eP (l:=l) (i:=i) (by rw[hk];decide);exact bK (IU aC aC aC) λx j m hj=>λhk=>by have:=eP (l:=l) (i:=j) (by rw[hk];decide);show FE l i nt.length x.1.size (j+1) m.length;omega
def Ri{n i:Nat}{nt:gW}{e:Int}{a:Bool}(hi:i<=l.length):(JB l n e a i nt).sat λx j m=>FN l i nt.length j m.length/\x.size+2 * i<=2 * j+1:=by
 rw[JB,fJ];refine⟨λ_=> ?_,λ_=> ?_⟩
 ·show FN l i nt.length i nt.length/\(Tn.size _)+2 * i<=2 * i+1;rw[Xf];omega
 rw[eU];exact bK (IU aC aC hi) λx j m hj=>by show FN l i nt.length j m.length/\x.1.size+2 * i<=2 * j+1;omega
def auf{n i:Nat}{k:Int}{nt:gW}(hi:i<l.length):(Zq l n k i nt).sat λx j m=>FS l i nt.length x.size j m.length:=by
 rw[Zq,fJ];refine⟨λ_=> ?_,λ_=> ?_⟩
 ·show FS l i nt.length (Tn.size _) (i+1) nt.length;rw[Xf];omega
 rw[eU];exact bK (IU aC aC aC) λx j m hj=>by show FS l i nt.length (Tn.size _) j m.length;rw[Wn];omega
def aGx{n i:Nat}{nt:gW}:(akG l n i nt).sat λx j m=>FS l i nt.length x.size j m.length:=by
 rw[akG,eU,Yn];intro h;have:=eP (l:=l) (i:=i+1) (by rw[h];decide);rw[fJ];refine⟨λhc=> ?_,λ_=> ?_⟩
 ·have:=dI hc (by decide);simp only[eU,yY];exact bK (adS aC) λx j m hj=>λhk=>by have:=eP (l:=l) (i:=j) (by rw[hk];decide);show FS l i nt.length (Tn.size _) (j+1) m.length;rw[Uy];omega
 ·show FS l i nt.length (Tn.size _) (i+1+1) nt.length;rw[Xf];omega
def aGy{n i:Nat}{nt:gW}(hi:i<l.length):(afO l n i nt).sat λx j m=>FS l i nt.length x.size j m.length:=by
 rw[afO,eU];have h1:(bif bG l i==26|| !(Ip (bG l (i+1))||zQ (bG l (i+1))) then PK l n false true [] (i+1) nt else .ok [] (i+1) nt:PR (List Tn)).sat λL j m=>FN l (i+1) nt.length j m.length/\sizes L+2 * (i+1)<=2 * j:=by rw[fJ];refine⟨λ_=>bK (adS aC) λx j m hj=>by omega,λ_=> ?_⟩;show FN l (i+1) nt.length (i+1) nt.length/\sizes []+2 * (i+1)<=2 * (i+1);rw[sizes0];omega
 refine bK h1 λL j m hj=> ?_
 rw[fJ];refine⟨λhc=> ?_,λ_=> ?_⟩
 ·have:=eP (abJ hc);rw[eU];exact bK (IU aC aC aC) λx j' m' hj'=>by show FS l i nt.length (Tn.size _) j' m'.length;rw[Uy,sizes1];omega
 ·show FS l i nt.length (Tn.size _) j m.length;rw[Uy];omega
def asH{n i:Nat}{nt:gW}(hi:i<=l.length):(aic l n i nt).sat λx j m=>FS l i nt.length x.size j m.length:=by
 have hw:∀k,i<l.length->(PR.ok (Tn.mk k 0 [] [] []) (i+1) nt).sat λx j m=>FS l i nt.length x.size j m.length:=λk hl=>by show FS l i nt.length (Tn.size _) (i+1) nt.length;rw[Xf];omega
 rw[aic,fJ];refine⟨λhc=> ?_,λ_=> ?_⟩
 ·have:i<l.length:=by rw[Bool.or_eq_true] at hc;rcases hc with hc|hc<;>exact dI hc (by decide)
  exact aGy this
 rw[fJ];refine⟨λhc=>hw 22 (dI hc (by decide)),λ_=> ?_⟩;rw[fJ];refine⟨λhc=>hw 25 (dI hc (by decide)),λ_=> ?_⟩;rw[fJ];refine⟨λhc=>hw 26 (dI hc (by decide)),λ_=> ?_⟩;rw[fJ];refine⟨λhc=>auf (dI hc (by decide)),λ_=> ?_⟩;rw[fJ];refine⟨λhc=>auf (dI hc (by decide)),λ_=> ?_⟩;rw[fJ];refine⟨λ_=>aGx,λ_=> ?_⟩;rw[eU];exact bK (IU aC aC hi) λx j m hj=>by show FS l i nt.length (Tn.size _) j m.length;rw[Wn];omega
def asI{α:Type}{P:α->Nat->gW->Prop}{x:α}{j:Nat}{nt:gW}(h:P x j nt):(endP l x j nt).sat P:=by rw[endP,fJ];exact⟨λ_=>h,λ_=>trivial⟩
structure aEu(l:List Tk)(n:Nat):Prop where
 st:∀i nt,i<=l.length->(stP l n i nt).sat λx j m=>FS l i nt.length x.size j m.length
 blk:∀i nt,i<=l.length->(JZ l n i nt).sat λx j m=>FB l i nt.length x.size j m.length
 lines:∀L i nt,i<=l.length->(Wy l n L i nt).sat λL' j m=>i<j/\FN l i nt.length j m.length/\sizes L'+m.length+6 * i<=sizes L+nt.length+6 * j
 body:∀i nt,i<=l.length->(Bc l n i nt).sat λx j m=>i<j/\FN l i nt.length j m.length/\x.size+m.length+6 * i+1<=nt.length+6 * j
section
variable {n:Nat} (h:aEu l n)
include h
theorem aC1(i:Nat)(nt:gW)(hi:i<=l.length):(stP l (n+1) i nt).sat λx j m=>FS l i nt.length x.size j m.length:=by
 rw[stP,fJ];refine⟨λ_=>bK (h.blk i nt hi) λx j m hj=>by omega,λ_=> ?_⟩;rw[fJ];refine⟨λhc=> ?_,λ_=> ?_⟩
 ·have:=dI hc (by decide);simp only[eU];refine bK (Ua aC) λx j m hj=> ?_
  refine bK (h.body j m aC) λy j2 m2 hj2=> ?_
  rw[fJ];have hs:=SK (l:=l) (i:=j2) (nt:=m2) aC;refine⟨λhc=> ?_,λ_=> ?_⟩
  ·have:=dI hc (by decide);rw[eU];exact bK (h.body _ _ aC) λz j3 m3 hj3=>by show FS l i nt.length (Tn.size _) j3 m3.length;rw[size3];omega
  ·show FS l i nt.length (Tn.size _) j2 m2.length;rw[size2];omega
 rw[fJ];refine⟨λhc=> ?_,λ_=> ?_⟩
 ·have:=dI hc (by decide);simp only[eU];refine bK (Ua aC) λx j m hj=> ?_
  exact bK (h.body j m aC) λy j2 m2 hj2=>by show FS l i nt.length (Tn.size _) j2 m2.length;rw[size2];omega
 rw[fJ];refine⟨λhc=> ?_,λ_=> ?_⟩
 ·have:=dI hc (by decide);simp only[eU,yY];refine bK (h.body (i+1) nt aC) λx j m hj=>λhk=> ?_
  have hs:=SK (l:=l) (i:=j) (nt:=m) aC;have:=eP (l:=l) (i:=(sep l j m).1) (by rw[hk];decide);refine bK (Ua aC) λy j2 m2 hj2=> ?_
  refine asI (?_:FS l i nt.length (Tn.size _) j2 m2.length);rw[size2];omega
 rw[fJ];refine⟨λhc=> ?_,λ_=> ?_⟩
 ·have:=dI hc (by decide);simp only[eU,yY];intro h32;have:=eP (l:=l) (i:=i+1) (by rw[h32];decide);rw[fJ];refine⟨λhd=> ?_,λ_=> ?_⟩
  ·simp only[eU,yY,Yn];intro h6 h33;have:=eP (l:=l) (i:=i+1+1+2+1) (by rw[h33];decide);exact bK (h.body _ nt aC) λy j2 m2 hj2=>by show FS l i nt.length (Tn.size _) j2 m2.length;rw[Wn];omega
  ·simp only[eU,yY];refine bK (Ri aC) λx j m hj=>λhk=> ?_
   have:=eP (l:=l) (i:=j) (by rw[hk];decide);have g1:=EC (l:=l) (i:=j+1) (nt:=m) aC;refine bK (Ri aC) λy j2 m2 hj2=>λhk2=> ?_
   have:=eP (l:=l) (i:=j2) (by rw[hk2];decide);have g2:=EC (l:=l) (i:=j2+1) (nt:=m2) aC;refine bK (Ri aC) λz j3 m3 hj3=>λhk3=> ?_
   have:=eP (l:=l) (i:=j3) (by rw[hk3];decide);exact bK (h.body _ _ aC) λw j4 m4 hj4=>by show FS l i nt.length (Tn.size _) j4 m4.length;rw[aQ7];omega
 rw[eU];exact bK (asH hi) λx j m hj=>asI hj
theorem azZ(i:Nat)(nt:gW)(hi:i<=l.length):(JZ l (n+1) i nt).sat λx j m=>FB l i nt.length x.size j m.length:=by simp only[JZ,eU,yY];intro hk;have:=eP (l:=l) (i:=i) (by rw[hk];decide);exact bK (h.lines [] (i+1) nt aC) λL j m hj=>by rw[sizes0] at hj;show FB l i nt.length (Tn.size _) j m.length;rw[Uy];omega
theorem asJ(L:List Tn)(i:Nat)(nt:gW)(hi:i<=l.length):(Wy l (n+1) L i nt).sat λL' j m=>i<j/\FN l i nt.length j m.length/\sizes L'+m.length+6 * i<=sizes L+nt.length+6 * j:=by
 have hs:=SK (l:=l) (i:=i) (nt:=nt) hi;rw[Wy,fJ];refine⟨λhc=> ?_,λ_=> ?_⟩
 ·have:=dI hc (by decide);show i<(sep l i nt).1+1/\FN l i nt.length ((sep l i nt).1+1) ([]:gW).length/\sizes (L++EU (sep l i nt).2)+([]:gW).length+6 * i<=sizes L+nt.length+6 * ((sep l i nt).1+1);rw[jT,abW,zln];omega
 rw[fJ];refine⟨λ_=>trivial,λhc=> ?_⟩;have hlt:(sep l i nt).1<l.length:=eP (by simpa using hc);rw[eU];refine bK (h.st _ _ aC) λs j m hj=> ?_
 rw[zln] at hj;exact bK (h.lines _ j m aC) λL' j2 m2 hj2=>by rw[sizes1,jT,abW] at hj2;omega
theorem awi(i:Nat)(nt:gW)(hi:i<=l.length):(Bc l (n+1) i nt).sat λx j m=>i<j/\FN l i nt.length j m.length/\x.size+m.length+6 * i+1<=nt.length+6 * j:=by
 have hs:=EC (l:=l) (i:=i) (nt:=nt) hi;rw[Bc,fJ];refine⟨λhc=>bK (h.blk _ _ aC) λs j m hj=>by omega,λ_=> ?_⟩;rw[fJ];refine⟨λhc=> ?_,λ_=> ?_⟩
 ·have:=dI hc (by decide);show i<(nl l i nt).1+1/\FN l i nt.length ((nl l i nt).1+1) ([]:gW).length/\(Tn.size _)+([]:gW).length+6 * i+1<=nt.length+6 * ((nl l i nt).1+1);rw[Uy,abW,zln];omega
 rw[eU];exact bK (h.st _ _ aC) λs j m hj=>by rw[zln] at hj;show i<j/\FN l i nt.length j m.length/\(Tn.size _)+m.length+6 * i+1<=nt.length+6 * j;rw[Uy,sizes1,abW];omega
end
def RD(l:List Tk):∀n,aEu l n
 |0=>⟨λ_ _ _=>by rw[stP];trivial,λ_ _ _=>by rw[JZ];trivial,λ_ _ _ _=>by rw[Wy];trivial,λ_ _ _=>by rw[Bc];trivial⟩
 |n+1=>have h:=RD l n
  ⟨aC1 h,azZ h,asJ h,awi h⟩
def aiF:∀(n:Nat) (L:List Tn) (i:Nat) (nt:gW),i<=l.length->(Gn l n L i nt).sat λL' j m=>i<j/\FN l i nt.length j m.length/\sizes L'+m.length+6 * i<=sizes L+nt.length+6 * j
 |0,_,_,_,_=>trivial
 |n+1,L,i,nt,hi=>by
  rw[Gn,eU,Yn];intro h6;have:=eP (l:=l) (i:=i) (by rw[h6];decide);rw[fJ];refine⟨λhc=> ?_,λ_=> ?_⟩
  ·have:=dI hc (by decide);rw[fJ];refine⟨λ_=>trivial,λ_=> ?_⟩;have hs:=EC (l:=l) (i:=i+1+1) (nt:=nt) aC;exact bK (aiF n _ _ _ aC) λs j m hj=>by rw[sizes1,Xf] at hj;omega
  ·show i<i+1/\FN l i nt.length (i+1) nt.length/\sizes (L++[Tn.mk 1 0 (CG l i) [] []])+nt.length+6 * i<=sizes L+nt.length+6 * (i+1);rw[sizes1,Xf];omega
def aGz{n i:Nat}{nt:gW}(hi:i<=l.length):(akH l n i nt).sat λx j m=>FS l i nt.length x.size j m.length:=by
 rw[akH,fJ];refine⟨λhc=> ?_,λ_=>trivial⟩;simp only[eU,yY];intro h32;have:=eP (l:=l) (i:=i+1) (by rw[h32];decide);have h1:(bif bG l (i+1+1)==33 then .ok [] (i+1+1) nt else Gn l n [] (i+1+1) nt:PR (List Tn)).sat λL j m=>FN l (i+2) nt.length j m.length/\sizes L+m.length+6 * (i+2)<=nt.length+6 * j:=by rw[fJ];refine⟨λ_=> ?_,λ_=>bK (aiF n [] _ nt aC) λx j m hj=>by rw[sizes0] at hj;omega⟩;show FN l (i+2) nt.length (i+1+1) nt.length/\sizes []+nt.length+6 * (i+2)<=nt.length+6 * (i+1+1);rw[sizes0];omega
 refine bK h1 λL j m hj=>λh33=> ?_
 have:=eP (l:=l) (i:=j) (by rw[h33];decide);have hs:=EC (l:=l) (i:=j+1) (nt:=m) aC;exact bK ((RD l n).blk _ _ aC) λx j' m' hj'=>by show FS l i nt.length (Tn.size _) j' m'.length;rw[Uy,sizes1];omega
def aug{n i:Nat}{nt:gW}(hi:i<=l.length):(Wj l n i nt).sat λx j m=>FS l i nt.length x.size j m.length:=by
 rw[Wj,fJ];refine⟨λhc=> ?_,λ_=> ?_⟩
 ·have:=dI hc (by decide);rw[eU];exact bK ((RD l n).blk (i+1) nt aC) λx j m hj=>by show FS l i nt.length (Tn.size _) j m.length;rw[Wn];omega
 rw[fJ];refine⟨λhc=> ?_,λ_=> ?_⟩
 ·have:=dI hc (by decide);rw[eU];exact bK ((RD l n).blk (i+1) nt aC) λx j m hj=>by show FS l i nt.length (Tn.size _) j m.length;rw[Wn];omega
 rw[fJ];refine⟨λhc=> ?_,λ_=> ?_⟩
 ·have:=dI hc (by decide);exact bK (aGz aC) λx j m hj=>by omega
 rw[fJ];refine⟨λhc=> ?_,λ_=> ?_⟩
 ·rw[eU];exact bK ((RD l n).blk i nt hi) λx j m hj=>by show FS l i nt.length (Tn.size _) j m.length;rw[Wn];omega
 rw[eU];refine bK (IU aC aC hi) λx j m hj=> ?_
 rw[eU];have h1:(bif bG l j==36 then(ex l n 1 false false (nl l (j+1) m).1 (nl l (j+1) m).2).bind λy i nt=> .ok (43,[x.1,y.1]) i nt else .ok (42,[x.1]) j m:PR (Int×List Tn)).sat λq j m=>FE l i nt.length (sizes q.2) j m.length:=by
  rw[fJ];refine⟨λhc=> ?_,λ_=> ?_⟩
  ·have:=dI hc (by decide);have hs:=EC (l:=l) (i:=j+1) (nt:=m) aC;rw[eU];exact bK (IU aC aC aC) λy j2 m2 hj2=>by show FE l i nt.length (sizes [x.1,y.1]) j2 m2.length;simp only[sizes];omega
  ·show FE l i nt.length (sizes [x.1]) j m.length;simp only[sizes];omega
 refine bK h1 λq j2 m2 hj2=> ?_
 rw[fJ];refine⟨λhc=> ?_,λ_=> ?_⟩
 ·rw[eU];exact bK ((RD l n).blk j2 m2 aC) λy j3 m3 hj3=>by show FS l i nt.length (Tn.size _) j3 m3.length;rw[Uy,sizes1];omega
 ·refine asI (?_:FS l i nt.length (Tn.size _) j2 m2.length);rw[Uy];omega
def aGA{α:Type}(a b:Bool)(x y:α):(bif a||b then x else y)=bif a then x else bif b then x else y:=by cases a<;>rfl
def az0{α:Type}(a:Bool)(x y:α):some (bif a then x else y)=bif a then some x else some y:=by cases a<;>rfl
def SL(op:Int):M.oD op=some (IQ op)/\M.zT op=some (IQ op):=by simp only[M.oD,M.LH,M.zT,M.Qj,IQ,aGA,az0];constructor<;>first|trivial|rfl
def Ps.ZH(p:Ps):Int×Bool×Bool×Bool×Bool:=(p.level,p.aGu,p.aXA,p.aXB,p.aGv)
def many(n:Nat):decide ((n:Int)>1)=Nat.blt 1 n:=by
 cases hb:Nat.blt 1 n with
 |true=>rw[Nat.blt_eq] at hb;exact zdt aC
 |false=>
  have:¬1<n:=by rw[<-Nat.blt_eq,hb];simp
  exact Ac aC
end Go.Proofs.YtoaeipkhadpbiaaGreatDoor
