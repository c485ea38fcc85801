import Derived.Test.YtbpldgeajbfgnaaGreatDoorZShape
import Derived.Test.YtbpldgeajbfgnaaGreatDoorVm4
set_option linter.defProp false
namespace Go.Proofs.YtbpldgeajbfgnaaGreatDoor
set_option linter.unusedVariables false
set_option linter.unusedSimpArgs false
open Go Go.Vm
open Go.IntKind (i64)
open Int (reduceLE reduceLT reduceSub reduceAdd)
def YE:∀(l:List (List Int)) (st r:List Int),fJ st l=some r->∃t,r=st++t
 |[],st,r,h=>by rw[fJ] at h;cases h;exact⟨[],by simp⟩
 |n::l,st,r,h=>by
  rw[fJ] at h;split at h
  ·cases h
  ·obtain⟨t,ht⟩:=YE l _ r h;exact⟨_,by rw[ht,BO]⟩
def anu{st t:List Int}(h:V7 st):∀(ks:List Int) (a:Int),a<st.length->dR (st++t) ks a=dR st ks a
 |[],a,_=>rfl
 |k::ks,a,ha=>by
  rw[dR,dR];split
  ·rfl
  ·rename_i hc;have hk:k.toNat<st.length:=au;have e:(st++t)[k.toNat]? =st[k.toNat]? :=List.getElem?_append_left hk;rw[e];have hz:=MW h k.toNat;exact anu h ks _ au
def aiC:∀(l:List (List Int)) (st r:List Int),V7 st->fJ st l=some r->∀(i:Nat) n,l[i]? =some n->∃a,dR r n.reverse ((st.length:Int)+i - 1)=some a∧r[st.length+i]? =some (a+1)
 |[],st,r,h0,h,i,n,hn=>by simp at hn
 |m::l,st,r,h0,h,i,n,hn=>by
  rw[fJ] at h;split at h
  ·cases h
  ·rename_i a ha;have hr:=Bj h0 _ _ _ au au ha;obtain⟨t,ht⟩:=YE l _ r h;cases i with
   |zero=>
    simp only[List.getElem?_cons_zero,iq] at hn;subst hn;refine⟨a, ?_, ?_⟩
    ·rw[ht,BO,anu h0 _ _ (by simp;omega)];simpa using ha
    ·rw[ht];simp
   |succ i=>
    simp only[List.getElem?_cons_succ] at hn;obtain⟨b,h1,h2⟩:=aiC l _ r (RG h0 hr.1 hr.2) h i n hn;refine⟨b, ?_, ?_⟩
    ·rw[<-h1];congr 1;simp;omega
    ·rw[<-h2];congr 1;simp;omega
def Xn:List Int->Int
 |[]=>0
 |x::l=>x+Xn l
def acZ:∀(a b:List Int),Xn (a++b)=Xn a+Xn b
 |[],b=>by simp[Xn]
 |x::a,b=>by rw[TV,Xn,Xn,acZ a b];omega
def aaM:∀l:List Int,Xn l.reverse=Xn l
 |[]=>rfl
 |x::l=>by rw[List.reverse_cons,acZ,aaM l];simp[Xn];omega
def sz(r:List Int)(k:Int):Int:=k - (r[k.toNat]?.getD 0)+1
def anv(r:List Int):∀(ks:List Int) (a b:Int),dR r ks a=some b->Xn (ks.map (sz r))=a - b
 |[],a,b,h=>by rw[dR] at h;cases h;simp[Xn]
 |k::ks,a,b,h=>by
  rw[dR] at h;split at h
  ·cases h
  ·rename_i hc;have:=anv r ks _ b h;rw[OQ,Xn,this,sz];omega
structure Val(l:List Nd)(r:List Int):Prop where
 st:fJ [] (ks l)=some r
 pos:1<=l.length
 le:l.length<=400
def ajZ{l:List Nd}(h:Hu l=true):∃r,Val l r:=by
 have hl:=arj h;unfold Hu at h;cases hs:qy (ks l) with
 |none=>rw[hs] at h;cases h
 |some r=>
  unfold qy at hs;split at hs
  ·exact⟨r,hs,hl.1,hl.2⟩
  ·cases hs
section
variable {l:List Nd} {r:List Int}
def Val.len(h:Val l r):r.length=l.length:=by have:=Vt _ _ _ h.st;rw[O7] at this;simpa using this
def Val.ok(h:Val l r):V7 r:=abr _ _ _ Sr h.st
def Val.kids(h:Val l r){i:Nat}{n:Nd}(hn:l[i]? =some n):∀k,k∈n.kids->0<=k∧k<i:=by have:=acY _ _ _ Sr h.st i n.kids (by simp[ks,hn]);simpa using this
def Val.sum(h:Val l r){i:Nat}{n:Nd}(hn:l[i]? =some n):Xn (n.kids.map (sz r))+1=sz r i:=by obtain⟨a,h1,h2⟩:=aiC _ _ _ Sr h.st i n.kids (by simp[ks,hn]);have:=anv r _ _ _ h1;rw[List.map_reverse,aaM] at this;simp at h2;rw[this,sz,Uj,h2];simp;omega
def Val.avE(h:Val l r){k:Int}(h0:0<=k):1<=sz r k∧sz r k<=k+1:=by have:=MW h.ok k.toNat;rw[sz];omega
end
def af0(l:List Nd)(i:Nat):List Int:=match l[i]? with|some n=>n.kids|none=>[]
def Pq{l:List Nd}{i:Nat}{n:Nd}(h:l[i]? =some n):af0 l i=n.kids:=by rw[af0,h]
def mx:Int->List Int->Int
 |a,[]=>a
 |a,x::l=>mx (bif decide (a<x) then x else a) l
def af4(B:Int):∀(l:List Int) (a:Int),a<=B->(∀x,x∈l->x<=B)->a<=mx a l∧mx a l<=B
 |[],a,h,_=>⟨Int.le_refl _,h⟩
 |x::l,a,h,hl=>by
  have hx:=hl x Yh;rw[mx]
  by_cases c:a<x
  ·rw[zdt c,aS];have:=af4 B l x hx λy hy=>hl y (X9 _ hy)
   omega
  ·rw[qw c,bG];exact af4 B l a h λy hy=>hl y (X9 _ hy)
def aj0:∀(l:List Int) (a x:Int),mx a (l++[x])=(bif decide (mx a l<x) then x else mx a l)
 |[],a,x=>rfl
 |y::l,a,x=>by rw[TV,mx,mx,aj0 l]
def avF:∀(l:List Int) (a:Int),mx (1+a) (l.map λd=>1+d)=1+mx a l
 |[],a=>rfl
 |x::l,a=>by
  rw[OQ,mx,mx,<-avF l]
  by_cases c:a<x
  ·rw[zdt c,aS,zdt au,aS]
  ·rw[qw c,bG,qw au,bG]
def dep(l:List Nd):Nat->Nat->Int
 |0,_=>0
 |f+1,i=>mx 0 ((af0 l i).map λk=>dep l f k.toNat)+1
def abO(l:List Nd):∀f i,0<=dep l f i∧dep l f i<=f
 |0,i=>by simp[dep]
 |f+1,i=>by have:=af4 (f:Int) ((af0 l i).map λk=>dep l f k.toNat) 0 au (λx hx=>by obtain⟨k,_,rfl⟩:=List.mem_map.1 hx;exact(abO l f k.toNat).2);rw[dep];omega
section
variable {l:List Nd} {r:List Int} {o:Bool}
def anw(h:Val l r):∀(f f' i:Nat),i<f->i<f'->i<l.length->dep l f i=dep l f' i
 |0,_,i,h1,_,_=>absurd h1 (Nat.not_lt_zero _)
 |f+1,0,i,_,h2,_=>absurd h2 (Nat.not_lt_zero _)
 |f+1,f'+1,i,h1,h2,h3=>by
  obtain⟨n,hn⟩:∃n,l[i]? =some n:=⟨l[i],by simp⟩
  rw[dep,dep,Pq hn];congr 2;refine List.map_congr_left λk hk=> ?_
  have hkr:=h.kids hn k hk;exact anw h f f' k.toNat au au au
def af5(l:List Nd)(i:Nat):List Int:=(List.range i).map λj=>dep l (j+1) j
def avG(l:List Nd)(i:Nat):(af5 l i).length=i:=by simp[af5]
def anx(l:List Nd){i j:Nat}(h:j<i):(af5 l i)[j]? =some (dep l (j+1) j):=by simp[af5,List.getElem?_range h]
def ark(l:List Nd)(i:Nat):af5 l (i+1)=af5 l i++[dep l (i+1) i]:=by simp[af5,List.range_succ]
def anz(h:Val l r){i:Nat}{n:Nd}(hn:l[i]? =some n)(hk:n.kids.length<=1048576):M.Fh (bV o l) (i:Int) (encI (af5 l i)) (1,0)=some (dep l (i+1) i,(n.kids.length:Int)):=by
 have hil:=(MG.1 hn).1;have hle:=h.le;have hdk:∀k,k∈n.kids->dep l i k.toNat=dep l (k.toNat+1) k.toNat:=λk hkm=>by have:=h.kids hn k hkm;exact anw h _ _ _ au au au
 have hval:∀(j:Nat),(1:Int)+mx 0 ((n.kids.take j).map λk=>dep l i k.toNat)=mx 1 ((n.kids.take j).map λk=>1+dep l i k.toNat):=λj=>by have:=avF ((n.kids.take j).map λk=>dep l i k.toNat) 0;rw[List.map_map] at this;exact this.symm
 have hloop:=jh (b:=M.Gj (bV o l) (i:Int) (encI (af5 l i))) (t:=(dep l (i+1) i,(n.kids.length:Int))) (λj=>(mx 1 ((n.kids.take j).map λk=>1+dep l i k.toNat),(j:Int))) n.kids.length
  (by
   intro j hj;obtain⟨k,hkj⟩:∃k,n.kids[j]? =some k:=⟨n.kids[j],by simp⟩
   have hkm:=BX hkj;have hkr:=h.kids hn k hkm;obtain⟨q,hq⟩:∃q:Nat,k=q:=⟨k.toNat,au⟩
   have hd:=hdk k hkm;have hr:=abO l (q+1) q;subst hq;rw[Uj] at hd;simp only[M.Gj,M.zX,bJ,oM,hn,OJ,ah,Hl,aZ,lK,hkj,JW,Uj,anx l (show q<i by omega)];rw[zdt au,aS,aG (n:=(j:Int)+1) au au,aG (n:=1+dep l (q+1) q) au au,List.take_add_one,hkj,Option.toList_some,List.map_append,OQ,List.map_nil,aj0,Uj,hd];rfl)
  (by simp only[M.Gj,M.zX,bJ,oM,hn,OJ,ah,Hl,aZ];rw[qw au,bG,<-hval,List.take_length,dep,Pq hn,Int.add_comm]) 0 (Nat.zero_le _)
 rw[M.Fh];exact hloop
def depth(l:List Nd):Int:=if Hu l then dep l l.length (l.length - 1) else 0
def adN(l:List Nd)(o:Bool)(hl:l.length<=1048576)(hk:∀n,n∈l->n.kids.length<=1048576):M.zL (bV o l)=some (depth l):=by
 simp only[M.zL,M.Nl,VX l o hl hk,ah,iT,depth];cases hs:Hu l with
 |false=>rfl
 |true=>
  obtain⟨r,h⟩:=ajZ hs;have h1:=h.pos;have h2:=h.le;have hloop:=jh (b:=M.Gl (bV o l)) (t:=((l.length:Int),encI (af5 l l.length))) (λi=>((i:Int),encI (af5 l i))) l.length
   (by
    intro i hi;obtain⟨n,hn⟩:∃n,l[i]? =some n:=⟨l[i],by simp⟩
    have hin:=anz (o:=o) h hn (hk n (BX hn));simp only[jm,M.Gl,M.zY,iT,hin,ah,aZ,avG,J9];rw[zdt au,aS,aX au,aS,aX au,aS,aG au au,ark];simp[encI])
   (by simp only[jm,M.Gl,M.zY,iT];rw[qw au,bG]) 0 (Nat.zero_le _)
  have BM:M.Kw (bV o l) (0,[])=_:=hloop;rw[Bool.not_true,bG,BM,ah,aG au au,show(l.length:Int) - 1=((l.length - 1:Nat):Int) by omega,if_pos rfl];simp only[bJ,Uj,lK,anx l (show l.length - 1<l.length by omega),OJ,ah,JW];rw[show l.length - 1+1=l.length by omega]
def Yg(l:List Nd)(i:Nat):Nd:=match l[i]? with|some n=>n|none=>⟨0,0,[],[],[]⟩
def af6(n:Nd)(rows:aA):Row:=[.int .i64 n.kind,.int .i64 n.op,.str n.text,.str n.other,.sl true 5 rows]
def GY(l:List Nd):Nat->Nat->aA
 |0,_=>[]
 |f+1,i=>(af0 l i).map λk=>af6 (Yg l k.toNat) (GY l f k.toNat)
def aiD(h:Val l r)(hk:∀n,n∈l->n.kids.length<=400):∀(f i:Nat) (n:Nd),i<f->l[i]? =some n->M.jL f (bV o l) (i:Int)=some (n.kind,n.op,n.text,n.other,GY l f i)
 |0,i,n,hf,_=>absurd hf (Nat.not_lt_zero _)
 |f+1,i,n,hf,hn=>by
  have hkn:=hk n (BX hn);have hil:=(MG.1 hn).1;have hkl:=h.kids hn;simp only[jm,M.jL,M.FV,bJ,oM,hn,OJ,ah,JB,Kq,J3,Kr,Hl,aZ];have hrec:∀(j:Nat) k,n.kids[j]? =some k->M.jL f (bV o l) k=some ((Yg l k.toNat).kind,(Yg l k.toNat).op,(Yg l k.toNat).text,(Yg l k.toNat).other,GY l f k.toNat):=by
   intro j k hj;have hkr:=hkl k (BX hj);obtain⟨q,hq⟩:∃q:Nat,k=q:=⟨k.toNat,au⟩
   subst hq;obtain⟨m,hm⟩:∃m,l[q]? =some m:=⟨l[q]'au,by simp⟩
   have:=aiD h hk f q m au hm;rw[this,Uj,Yg,hm]
  have hloop:=jh (b:=M.lT (M.jL f))
   (t:=if n.kids=[] then .inl (bV o l,encI n.kids,(n.kids.length:Int),0,0,0,[],[],n.kind,n.op,n.text,n.other) else .inr (bV o l,encI n.kids,(n.kids.length:Int),(n.kids.length:Int),0,0,[],[],n.kind,n.op,n.text,n.other,GY l (f+1) i))
   (λj=>if j=0 then .inl (bV o l,encI n.kids,(n.kids.length:Int),0,0,0,[],[],n.kind,n.op,n.text,n.other) else .inr (bV o l,encI n.kids,(n.kids.length:Int),(j:Int),0,0,[],[],n.kind,n.op,n.text,n.other,(n.kids.take j).map λk=>af6 (Yg l k.toNat) (GY l f k.toNat))) n.kids.length
   (by
    intro j hj;obtain⟨k,hkj⟩:∃k,n.kids[j]? =some k:=⟨n.kids[j],by simp⟩
    have hr:=hrec j k hkj;have htk:(n.kids.take (j+1)).map (λk=>af6 (Yg l k.toNat) (GY l f k.toNat))=(n.kids.take j).map (λk=>af6 (Yg l k.toNat) (GY l f k.toNat))++[af6 (Yg l k.toNat) (GY l f k.toNat)]:=by rw[List.take_add_one,hkj,Option.toList_some,List.map_append];rfl
    rw[if_neg (show¬j+1=0 by omega),htk]
    by_cases h0:j=0
    ·subst h0;rw[if_pos rfl];have a5u:idx (encI n.kids) 0=some [D.int .i64 k]:=by have:=bJ (encI n.kids) 0;rw[pY] at this;rw[this,lK,hkj];rfl
     simp only[jm,M.lT,M.lS,a5u,ah,JW,hr];rw[zdt au,aS];rfl
    ·rw[if_neg h0];simp only[jm,M.lT,M.lS,bJ,lK,hkj,OJ,ah,JW,hr,List.length_map,Ui,J9];rw[zdt au,aS,aX au,aS,aX au,aS,aG au au];rfl)
   (by
    by_cases h0:n.kids.length=0
    ·have he:n.kids=[]:=List.length_eq_zero_iff.1 h0;rw[if_pos h0,if_pos he];simp only[jm,M.lT,M.lS];rw[qw au,bG]
    ·have he:¬n.kids=[]:=λe=>h0 (by rw[e];rfl)
     rw[if_neg h0,if_neg he,List.take_length];simp only[jm,M.lT,M.lS];rw[qw au,bG,GY,Pq hn]) 0 (Nat.zero_le _)
  rw[if_pos rfl] at hloop;rw[M.Ic,hloop,ah]
  by_cases he:n.kids=[]
  ·rw[if_pos he,GY,Pq hn,he];rfl
  ·rw[if_neg he];rfl
def Zz:∀rows:aA,aQ rows=rows.map qg
 |[]=>rfl
 |x::rows=>by rw[aQ,Zz rows,OQ]
def anA(h:Val l r)(hk:∀n,n∈l->n.kids.length<=400):∀(f i:Nat) (n:Nd) (a b:Int) (c d:aC),i<f->f<=1000->l[i]? =some n->M.jU f a b c d (aQ (GY l f i))=some (dep l f i)
 |0,i,n,a,b,c,d,hf,_,_=>absurd hf (Nat.not_lt_zero _)
 |f+1,i,n,a,b,c,d,hf,hf2,hn=>by
  have hkn:=hk n (BX hn);have hil:=(MG.1 hn).1;have hkl:=h.kids hn;have hdr:=abO l (f+1) i;have hlen:(aQ (GY l (f+1) i)).length=n.kids.length:=by rw[Zz,GY,Pq hn];simp
  simp only[M.jU,M.Aq,hlen];have hloop:=jh (b:=M.Ap (M.jU f) (aQ (GY l (f+1) i)) (n.kids.length:Int)) (t:=(mx 0 (n.kids.map λk=>dep l f k.toNat),(n.kids.length:Int)))
   (λj=>(mx 0 ((n.kids.take j).map λk=>dep l f k.toNat),(j:Int))) n.kids.length
   (by
    intro j hj;obtain⟨k,hkj⟩:∃k,n.kids[j]? =some k:=⟨n.kids[j],by simp⟩
    have hkr:=hkl k (BX hkj);obtain⟨q,hq⟩:∃q:Nat,k=q:=⟨k.toNat,au⟩
    subst hq;obtain⟨m,hm⟩:∃m,l[q]? =some m:=⟨l[q]'au,by simp⟩
    have hrow:(aQ (GY l (f+1) i))[j]? =some (qg (af6 m (GY l f q))):=by rw[Zz,GY,Pq hn,List.getElem?_map,List.getElem?_map,hkj];simp only[OJ,Uj,Yg,hm]
    have hrec:=anA h hk f q m m.kind m.op m.text m.other au au hm;have k0:bI .i64 (qg (af6 m (GY l f q))) 0=some m.kind:=rfl;have k1:bI .i64 (qg (af6 m (GY l f q))) 1=some m.op:=rfl;have k2:cStr (qg (af6 m (GY l f q))) 2=some m.text:=rfl;have k3:cStr (qg (af6 m (GY l f q))) 3=some m.other:=rfl;have k4:PE 5 (qg (af6 m (GY l f q))) 4=some (aQ (GY l f q)):=rfl;simp only[jm,M.Ap,M.vN,bJ,hrow,ah,k0,k1,k2,k3,k4,hrec];rw[zdt au,aS,aG au au,List.take_add_one,hkj,Option.toList_some,List.map_append,OQ,List.map_nil,aj0,Uj];rfl)
   (by simp only[jm,M.Ap,M.vN];rw[qw au,bG,List.take_length]) 0 (Nat.zero_le _)
  have BM:M.EM (M.jU f) (aQ (GY l (f+1) i)) (n.kids.length:Int) (0,0)=_:=hloop;rw[BM,ah];rw[dep,Pq hn] at hdr⊢;rw[aG au au]
end
def UZ{α:Type}(p:Nat->α->Bool):List α->Nat->Bool
 |[],_=>true
 |x::l,i=>p i x && UZ p l (i+1)
def U0{α:Type}(l:List α)(p:Nat->α->Bool){b:Int->Option (Int⊕(Unit⊕Int))}
  (hb:∀(i:Nat) x,l[i]? =some x->b (i:Int)=some (bif p i x then .inl ((i:Int)+1) else .inr (.inl ()))) (he:b (l.length:Int)=some (.inr (.inr (l.length:Int)))):
  dX b 0=some (bif UZ p l 0 then .inr (l.length:Int) else .inl ()):=by
 have key:∀(t:List α) (i:Nat),l.drop i=t->i<=l.length->dX b (i:Int)=some (bif UZ p t i then .inr (l.length:Int) else .inl ()):=by
  intro t;induction t with
  |nil=>
   intro i hd hi;have:i=l.length:=by have:=congrArg List.length hd;simp at this;omega
   subst this;exact bC he
  |cons x t ih=>
   intro i hd hi;have hx:l[i]? =some x:=by
    have:(l.drop i)[0]? =some x:=by rw[hd];rfl
    simpa using this
   have hlt:i<l.length:=(MG.1 hx).1;have hd':l.drop (i+1)=t:=by rw[<-List.drop_drop,hd];rfl
   have hs:=hb i x hx;rw[UZ];cases hw:p i x with
   |true=>rw[hw,aS] at hs;rw[dJ hs,show(i:Int)+1=((i+1:Nat):Int) by omega,ih (i+1) hd' hlt,Bool.true_and]
   |false=>rw[hw,bG] at hs;rw[bC hs];rfl
 exact key l 0 rfl (Nat.zero_le _)
noncomputable def fOk(n:Nd):Bool:=(M.aI n.kind n.op n.text n.other (encI n.kids)).getD false
noncomputable def kOk(n:Nd)(j:Int)(d:Int):Bool:=(M.aO n.kind n.op n.text n.other (encI n.kids) j d).getD false
structure Small(n:Nd):Prop where
 text:n.text.length<=1048576
 other:n.other.length<=1048576
def aj1{n:Nd}(hs:Small n)(hk:n.kids.length<=400):M.aI n.kind n.op n.text n.other (encI n.kids)=some (fOk n)∧M.iQ n.kind n.op n.text n.other (encI n.kids)=some (fOk n):=by obtain⟨b,h1,h2⟩:=anp n.kind n.op n.text n.other (encI n.kids) hs.text hs.other (by rw[aZ];exact hk);rw[fOk,h1];exact⟨rfl,h2⟩
def aoQ{n:Nd}(hs:Small n)(hk:n.kids.length<=400)(hf:fOk n=true)(j:Nat)(hj:j<n.kids.length)(d:Int):
  M.aO n.kind n.op n.text n.other (encI n.kids) (j:Int) d=some (kOk n j d)∧M.bn n.kind n.op n.text n.other (encI n.kids) (j:Int) d=some (kOk n j d):=by
 have hc:=ajY (k:=n.kind) (op:=n.op) (t:=n.text) (o:=n.other) (kids:=encI n.kids) (by rw[(aj1 hs hk).1,hf]);obtain⟨b,h1,h2⟩:=aDe n.kind n.op n.text n.other (encI n.kids) (j:Int) d au (by rw[aZ];omega) (by rw[aZ];exact hk) hc;rw[kOk,h1];exact⟨rfl,h2⟩
def apZ:∀(l:List Int),(∀x,x∈l->1<=x)->(l.length:Int)<=Xn l
 |[],_=>by simp[Xn]
 |x::l,h=>by
  have:=apZ l λy hy=>h y (X9 _ hy)
  have:=h x Yh;simp only[mV,Xn];omega
section
variable {l:List Nd} {r:List Int} {o:Bool}
def Val.aaN(h:Val l r){i:Nat}{n:Nd}(hn:l[i]? =some n):n.kids.length<=400:=by have hil:=(MG.1 hn).1;have h1:=h.sum hn;have h2:=apZ (n.kids.map (sz r)) (λx hx=>by obtain⟨k,hk,rfl⟩:=List.mem_map.1 hx;exact(h.avE (h.kids hn k hk).1).1);rw[List.length_map] at h2;have h3:=(h.avE (k:=(i:Int)) au).2;have:=h.le;omega
def Val.af7(h:Val l r):∀n,n∈l->n.kids.length<=400:=λn hn=>by obtain⟨i,hi⟩:=List.mem_iff_getElem?.1 hn;exact h.aaN hi
noncomputable def kp(l:List Nd)(n:Nd)(j:Nat)(k:Int):Bool:=kOk n j (Yg l k.toNat).kind
def af8(h:Val l r)(hsm:∀n,n∈l->Small n){i:Nat}{n:Nd}(hn:l[i]? =some n)(hf:fOk n=true)(v10:aA)(v11 v12:Int):
  M.H6 (bV o l) (i:Int) 0=some (bif UZ (kp l n) n.kids 0 then .inr (n.kids.length:Int) else .inl ())∧
  M.Ie (bV o l) v10 v11 v12 (encI n.kids) (n.kids.length:Int) n.kind n.op n.text n.other (encI n.kids) 0=some (bif UZ (kp l n) n.kids 0 then .inr (n.kids.length:Int) else .inl ()):=by
 have hkl:=h.aaN hn;have hs:=hsm n (BX hn);have step:∀(j:Nat) k,n.kids[j]? =some k->∃(q:Nat) (m:Nd),k=(q:Int)∧l[q]? =some m∧(Yg l k.toNat).kind=m.kind:=by
  intro j k hj;have hkr:=h.kids hn k (BX hj);have hil:=(MG.1 hn).1;obtain⟨q,hq⟩:∃q:Nat,k=q:=⟨k.toNat,au⟩
  obtain⟨m,hm⟩:∃m,l[q]? =some m:=⟨l[q]'au,by simp⟩
  refine⟨q,m,hq,hm, ?_⟩;rw[hq,Uj,Yg,hm]
 constructor
 ·rw[M.H6];refine U0 n.kids (kp l n) (λj k hj=> ?_) ?_
  ·obtain⟨q,m,hq,hm,he⟩:=step j k hj;have hjl:=(MG.1 hj).1;have hok:=(aoQ hs hkl hf j hjl m.kind).1;rw[kp,he];subst hq;simp only[jm,M.O9,M.CY,bJ,oM,hn,hm,OJ,ah,JB,Kq,J3,Kr,Hl,aZ,lK,hj,JW,hok];rw[zdt au,aS,aG au au];cases kOk n j m.kind<;>rfl
  ·simp only[jm,M.O9,M.CY,bJ,oM,hn,OJ,ah,Hl,aZ];rw[qw au,bG]
 ·rw[M.Ie];refine U0 n.kids (kp l n) (λj k hj=> ?_) ?_
  ·obtain⟨q,m,hq,hm,he⟩:=step j k hj;have hjl:=(MG.1 hj).1;have hok:=(aoQ hs hkl hf j hjl m.kind).2;rw[kp,he];subst hq;simp only[M.Pm,M.Du,bJ,oM,hm,OJ,ah,JB,lK,hj,JW,hok];rw[zdt au,aS,aG au au];cases kOk n j m.kind<;>rfl
  ·simp only[M.Pm,M.Du];rw[qw au,bG]
noncomputable def np(l:List Nd)(_:Nat)(n:Nd):Bool:=fOk n && UZ (kp l n) n.kids 0
def ac0(h:Val l r)(hsm:∀n,n∈l->Small n):
  M.H7 (bV o l) 0=some (bif UZ (np l) l 0 then .inr (l.length:Int) else .inl ())∧
  M.Ig (bV o l) (bV o l) (l.length:Int) 0=some (bif UZ (np l) l 0 then .inr (l.length:Int) else .inl ()):=by
 have hle:=h.le;constructor
 ·rw[M.H7];refine U0 l (np l) (λi n hi=> ?_) ?_
  ·have hil:=(MG.1 hi).1;have hf:=(aj1 (hsm n (BX hi)) (h.aaN hi)).1;simp only[jm,M.Pg,M.CZ,iT,bJ,oM,hi,OJ,ah,JB,Kq,J3,Kr,Hl,hf,np];rw[zdt au,aS,aG au au];cases hff:fOk n with
   |false=>rfl
   |true=>have:=(af8 (o:=o) h hsm hi hff [] 0 0).1;rw[Bool.not_true,bG,this,ah];cases UZ (kp l n) n.kids 0<;>rfl
  ·simp only[jm,M.Pg,M.CZ,iT];rw[qw au,bG]
 ·rw[M.Ig];refine U0 l (np l) (λi n hi=> ?_) ?_
  ·have hil:=(MG.1 hi).1;have hf:=(aj1 (hsm n (BX hi)) (h.aaN hi)).2;simp only[jm,M.Pn,M.Dv,bJ,oM,hi,OJ,ah,JB,Kq,J3,Kr,Hl,hf,np,aZ];rw[zdt au,aS,aG au au];cases hff:fOk n with
   |false=>rfl
   |true=>have:=(af8 (o:=o) h hsm hi hff (bV o l) (l.length:Int) (i:Int)).2;rw[Bool.not_true,bG,this,ah];cases UZ (kp l n) n.kids 0<;>rfl
  ·simp only[jm,M.Pn,M.Dv];rw[qw au,bG]
end
noncomputable def VE(l:List Nd):Bool:=Hu l &&(decide (depth l<=40) && UZ (np l) l 0)
section
variable (l:List Nd) (o:Bool) (hl:l.length<=1048576) (hk:∀n,n∈l->n.kids.length<=1048576) (hsm:∀n,n∈l->Small n)
include hl hk hsm
theorem af9:M.D8 (bV o l)=some (VE l):=by
 simp only[M.D8,M.P7,VX l o hl hk,adN l o hl hk,ah,VE];cases hs:Hu l with
 |false=>rfl
 |true=>
  obtain⟨r,h⟩:=ajZ hs;rw[Bool.not_true,bG,(ac0 (o:=o) h hsm).1,ah,Bool.true_and]
  by_cases hd:depth l<=40
  ·rw[qw (show¬depth l>40 by omega),bG,zdt hd,Bool.true_and];cases UZ (np l) l 0<;>rfl
  ·rw[zdt (show depth l>40 by omega),aS,qw hd];rfl
theorem aga:M.Ed (bV o l)=some (VE l):=by
 simp only[M.Ed,M.Qi,adM l o hl hk,ah,VE,iT];cases hs:Hu l with
 |false=>rfl
 |true=>
  obtain⟨r,h⟩:=ajZ hs;have h1:=h.pos;have h2:=h.le;obtain⟨n,hn⟩:∃n,l[l.length - 1]? =some n:=⟨l[l.length - 1]'au,by simp⟩
  have ht:=aiD (o:=o) h h.af7 l.length (l.length - 1) n au hn;have hd:=anA h h.af7 l.length (l.length - 1) n n.kind n.op n.text n.other au au hn;rw[Bool.not_true,bG,(ac0 (o:=o) h hsm).2,ah,Bool.true_and];simp only[M.vM,M.J6,iT];rw[aG au au,show(l.length:Int) - 1=((l.length - 1:Nat):Int) by omega,M.WW ht,ah,ah];simp only;rw[M.Zq hd,ah,depth,if_pos hs];cases UZ (np l) l 0<;>simp[ql,letE]
end
@[simp] theorem aDZ(l:List Int):JX (encI l)=true:=by
 induction l with
 |nil=>rfl
 |cons x l ih=>simp only[encI,OQ] at ih⊢;simp[JX,dF,D.pure,ih]
@[simp] theorem aD0(l:List Int):[[D.sl true 1 (encI l)]].all dF=true:=by simp[dF,D.pure]
noncomputable def mk(k:Int):aC:=(M.J4 k).getD []
def aDf(w:Bool):∀t:Tn,t.row w=[.int .i64 t.kind,.int .i64 t.op,.str t.text,.str t.other,.sl w 5 (eU w t.kids)]
 | .mk k o x y ks=>rfl
def aj2(w:Bool)(a b:List Tn):eU w (a++b)=eU w a++eU w b:=by simp[UG]
def fV(w:Bool)(a:List Tn):(eU w a).length=a.length:=by simp[UG]
def gW{α:Type}{l:List α}{j:Nat}{t:α}(h:l[j]? =some t):l.take (j+1)=l.take j++[t]:=by rw[List.take_add_one,h];rfl
def anB{α:Type}{l:List α}{j:Nat}{t:α}(h:l[j]? =some t):l=l.take j++t::l.drop (j+1):=by obtain⟨hj,rfl⟩:=MG.1 h;rw[<-List.drop_eq_getElem_cons hj,List.take_append_drop]
def LV{ks:List Tn}{j:Nat}{t:Tn}(h:ks[j]? =some t):sizes (ks.take j)+t.size<=sizes ks:=by have:=congrArg sizes (anB h);rw[kW,sizes] at this;omega
section
variable {l:List Nd} {b:Nat} {k op:Int} {x y:aC} {ks:List Tn}
def Lies.Pv(h:Lies l b (.mk k op x y ks)){j:Nat}{t:Tn}(hj:ks[j]? =some t):Lies l (b+sizes (ks.take j)) t:=by have e:=anB hj;rw[e] at h;exact h.kid
def VF{j:Nat}{t:Tn}(hj:ks[j]? =some t):(ends ks b)[j]? =some ((b+sizes (ks.take j)+sizes t.kids:Nat):Int):=by have hlt:=(MG.1 hj).1;have hs:=t.uq;rw[asT hlt,gW hj,kW,sizes,sizes];congr 1;omega
def Lies.root'{t:Tn}(h:Lies l b t):l[b+sizes t.kids]? =some ⟨t.kind,t.op,t.text,t.other,ends t.kids b⟩:=by cases t;exact h.root
def aiE{j:Nat}{t:Tn}(hj:ks[j]? =some t):ends (ks.take (j+1)) b=ends (ks.take j) b++[((b+sizes (ks.take j)+t.size:Nat):Int) - 1]:=by rw[gW hj,TI,ends,ends];congr 2<;>omega
def agb{j:Nat}{t:Tn}(hj:ks[j]? =some t):kD (ks.take (j+1)) b=kD (ks.take j) b++t.flat (b+sizes (ks.take j)):=by rw[gW hj,MV,kD,kD,List.append_nil]
def aoR{w:Bool}{j:Nat}{t:Tn}(hj:ks[j]? =some t):eU w (ks.take (j+1))=eU w (ks.take j)++[t.row w]:=by rw[gW hj,aj2];rfl
def ends_range:∀(ks:List Tn) (b:Nat),∀e,e∈ends ks b->(b:Int)<=e∧e<b+sizes ks
 |[],b,e,h=>by simp[ends] at h
 |t::ts,b,e,h=>by
  have hp:=t.size_pos;rw[ends] at h;have hs:(sizes (t::ts):Int)=t.size+sizes ts:=by rw[sizes];omega
  rcases List.mem_cons.1 h with rfl|h
  ·omega
  ·have:=ends_range ts _ e h;omega
end
mutual
def abP:∀(t:Tn) (b:Nat),∀n,n∈t.flat b->n.kids.length<=t.size∧∀e,e∈n.kids->(0:Int)<=e∧e<b+t.size
 | .mk k o x y ks,b,n,h=>by
  rw[Tn.flat] at h;rw[Tn.size];rcases List.mem_append.1 h with h|h
  ·have:=agc ks b n h;exact⟨au,λe he=>by have:=this.2 e he;omega⟩
  ·simp only[List.mem_singleton] at h;subst h;refine⟨by simp only[eu];have:=jq ks;omega,λe he=> ?_⟩;have:=ends_range ks b e he;omega
def agc:∀(ks:List Tn) (b:Nat),∀n,n∈kD ks b->n.kids.length<=sizes ks∧∀e,e∈n.kids->(0:Int)<=e∧e<b+sizes ks
 |[],b,n,h=>by simp[kD] at h
 |t::ts,b,n,h=>by
  rw[kD] at h;rw[sizes];rcases List.mem_append.1 h with h|h
  ·have:=abP t b n h;exact⟨au,λe he=>by have:=this.2 e he;omega⟩
  ·have:=agc ts _ n h;exact⟨au,λe he=>by have:=this.2 e he;omega⟩
end
structure Ps where
 level:Int
 mG:Bool
 sF:Bool
 sG:Bool
 lD:Bool
 deriving DecidableEq,Inhabited
def Ps.top:Ps:=⟨1,false,false,false,false⟩
def Ps.zero:Ps:=⟨0,false,false,false,false⟩
def zn(op:Int):Int:=bif op==44 then 3 else bif op==45 then 4 else bif op==67||op==46 then 6 else
 bif op==63||(op==48||(op==47||(op==50||(op==62||op==49)))) then 7 else bif op==99 then 8 else bif op==55||op==56 then 9 else
 bif op==57||(op==58||op==59) then 10 else bif op==60 then 12 else 0
def lvl(k op:Int):Int:=bif k==15 then 1 else bif k==14 then 2 else bif k==13 then 5 else bif k==12 then zn op else bif k==11 then 11 else
 bif k==9||k==10 then 13 else bif k==6 then 14 else bif k==1||(k==2||(k==3||(k==4||(k==5||(k==7||k==8))))) then 15 else 0
def mY(p:Ps):Bool:=(decide (1<=p.level) && decide (p.level<=15)) &&(!p.mG||p.level==14)
def fits(k op:Int)(p:Ps):Bool:=bif !(mY p)||lvl k op==0 then false else bif p.sF && k==13 then false else bif p.sG &&(k==12 && op==62) then false else
 bif p.lD &&(k==11||(k==9||k==4)) then false else(p.mG && k==9)||decide (p.level<=lvl k op)
def sides(op:Int):Int×Int:=bif zn op==3 then(3,4) else bif zn op==4 then(4,5) else bif zn op==6 then(7,7) else bif zn op==7 then(8,8) else
 bif zn op==8 then(8,9) else bif zn op==9 then(9,10) else bif zn op==10 then(10,11) else(13,11)
def VG(k op:Int)(j:Nat):Int:=bif k==15 then(bif Nat.beq j 0 then 14 else 1) else bif k==14 then(bif Nat.beq j 0 then 3 else 2) else bif k==13 then 5 else bif k==11 then 11 else
 bif k==12 then(bif Nat.beq j 0 then(sides op).1 else(sides op).2) else 14
def dP(k op:Int)(n j:Nat)(p:Ps):Ps:=bif !(mY p)||(!(Nat.blt j n)||lvl k op==0) then .zero else bif lvl k op==15||(k==13 && Nat.blt 1 n) then .top else
 ⟨VG k op j,k==6,p.sF,p.sG,bif k==11||(k==9||(k==10||k==6)) then false else(Nat.beq j 0 && p.lD)||(Nat.beq j 1 &&(k==12 && op==99))⟩
def qh(k:Int)(j:Nat):Bool:=Nat.beq j 0 &&(k==9||(k==10||k==15))
def tok(k:Int):Tk:=⟨k,spell k,0⟩
def F6:Bool->List (List Tk)->List Tk
 |_,[]=>[]
 |b,x::l=>(bif b then x else tok 36::x)++F6 false l
def A8{α:Type}(L:List (List α))(j:Nat):List α:=(L[j]?).getD []
def Hg(k op:Int)(n:Nat)(x:aC)(L:List (List Tk)):List Tk:=
 bif k==1 then[⟨6,x,0⟩] else bif k==2 then[⟨3,x,0⟩] else bif k==3 then[⟨4,x,0⟩] else bif k==4 then[⟨5,x,0⟩] else
 bif k==5 then⟨6,x,0⟩::tok 34::(F6 true L++[tok 35]) else bif k==7 then⟨7,x,0⟩::tok 32::(F6 true L++[tok 33]) else bif k==8 then⟨8,x,0⟩::tok 32::(F6 true L++[tok 33]) else
 bif k==9||k==11 then tok op::A8 L 0 else bif k==6 then tok 68::A8 L 0 else bif k==10 then A8 L 0++[tok op] else
 bif k==13 then(bif Nat.blt 1 n then tok 32::(F6 true L++[tok 33]) else A8 L 0)++[tok 24,⟨6,x,0⟩] else
 bif k==14 then A8 L 0++(tok 65::(A8 L 1++(tok 66::A8 L 2))) else A8 L 0++((bif op==99 then[] else[tok op])++A8 L 1)
mutual
def wH:Tn->Ps->List Tk
 | .mk k op x _ ks,p=>Hg k op ks.length x (jA k op ks.length p ks 0)
def jA(k op:Int)(n:Nat)(p:Ps):List Tn->Nat->List (List Tk)
 |[],_=>[]
 |t::ts,j=>(bif qh k j||fits t.kind t.op (dP k op n j p) then wH t (dP k op n j p) else tok 32::(wH t .top++[tok 33]))::jA k op n p ts (j+1)
end
def YF(t:Tn)(p:Ps):List Tk:=bif fits t.kind t.op p then wH t p else tok 32::(wH t .top++[tok 33])
def lV(s:aC):Tn:=.mk 1 0 s [] []
def TQ:Tn:=.mk 2 0 [] [] []
def QC:Tn:=.mk 3 0 [] [] []
def VY(d:Tn):Tn:=.mk 4 4 [] [] [d]
def anC(d:Tn):Tn:=.mk 5 0 [] [] [d]
def oz(l:List Tn):Tn:=.mk 6 0 [] [] l
def QU:Bool->List Tn->List Tn
 |_,[]=>[]
 |b,x::l=>(bif b then[x] else[lV [44],TQ,x])++QU false l
def aaO(L:List Tn):Tn:=anC (VY (oz (QU true L)))
def yA(L:List Tn)(j:Nat):Tn:=(L[j]?).getD (lV [])
def agd(s:aC):List (aC)->Nat->Nat
 |[],m=>m
 |g::l,m=>agd s l (bif Nat.blt m g.length && g.isPrefixOf s then g.length else m)
def lastB(s:aC):Int:=match s.getLast? with|some c=>(c.toNat:Int)|none=> -1
def aoS(s:aC):Int:=match s with|c::_=>(c.toNat:Int)|[]=> -1
def Ik(a b:Tk):Bool:=
 bif a.text==[]||(b.text==[]||(a.kind==2||(a.kind==1||b.kind==1))) then false else
 bif isW (lastB a.text) && isW (aoS b.text) then true else
 bif a.kind==3 &&(isW (aoS b.text)||aoS b.text==46) then true else
 bif a.kind==6 && b.kind==32 then true else
 bif !(decide (30<=a.kind) && decide (a.kind<=68)) then false else Nat.blt a.text.length (agd (a.text++b.text) UU 0)
def Xo(k op:Int)(n:Nat)(x:aC)(gap:Bool)(L:List Tn):Tn:=
 bif k==1||(k==2||(k==3||k==4)) then lV x else bif k==5 then oz [lV (x++[91]),aaO L,lV [93]] else
 bif k==7||k==8 then oz [lV (x++[40]),aaO L,lV [41]] else bif k==9 then oz [lV (spell op),yA L 0] else bif k==10 then oz [yA L 0,lV (spell op)] else
 bif k==6 then oz [lV [36],yA L 0] else bif k==11 then oz [lV (bif gap then spell op++[32] else spell op),yA L 0] else
 bif k==14 then oz [yA L 0,lV [32,63,32],yA L 1,lV [32,58,32],yA L 2] else
 bif k==13 then(bif Nat.blt 1 n then oz [lV [40],aaO L,lV ([41,32,105,110,32]++x)] else oz [yA L 0,lV ([32,105,110,32]++x)]) else
 bif k==12 && op==99 then oz [yA L 0,lV [32],yA L 1] else
 bif k==12 &&(op==45||op==44) then anC (VY (oz [yA L 0,lV (32::spell op),TQ,yA L 1])) else
 oz [yA L 0,lV ((32::spell op)++[32]),yA L 1]
def aiF(op:Int)(L:List (List Tk)):Bool:=match L with
 |(b::_)::_=>Ik (tok op) b
 |_=>false
mutual
def qj:Tn->Ps->Tn
 | .mk k op x _ ks,p=>Xo k op ks.length x (aiF op (jA k op ks.length p ks 0)) (sH k op ks.length p ks 0)
def sH(k op:Int)(n:Nat)(p:Ps):List Tn->Nat->List Tn
 |[],_=>[]
 |t::ts,j=>(bif qh k j||fits t.kind t.op (dP k op n j p) then qj t (dP k op n j p) else oz [lV [40],qj t .top,lV [41]])::sH k op n p ts (j+1)
end
def Ba(t:Tn)(p:Ps):Tn:=bif fits t.kind t.op p then qj t p else oz [lV [40],qj t .top,lV [41]]
def Jz(t:Tn):Tn:=Ba t .top
def SX(t:Tn):Tn:=bif t.kind==16 then lV [] else oz [lV [32],Jz t]
def E5:List Tn->List Tn
 |[]=>[]
 |d::l=>QC::d::E5 l
def aj3(L:List Tn):Tn:=oz [lV [123],VY (oz (E5 L)),QC,lV [125]]
def zf(L:List Tn)(j:Nat):Tn:=(L[j]?).getD (.mk 0 0 [] [] [])
def OX(p:Ps)(L:List Tn):Tn:=aaO (L.map λt=>Ba t p)
def aj6(op:Int)(y:aC)(ks:List Tn):Tn:=
 let args:=bif y==[] then ks else ks.take (ks.length - 1)
 oz ([lV (bif op==0 then[112,114,105,110,116] else[112,114,105,110,116,102])]++
  ((bif Nat.blt 0 args.length then[lV [32],OX ⟨1,false,false,true,false⟩ args] else[])++
   (bif y==[] then[] else[lV (([32]++y)++[32]),(Ba (zf ks (ks.length - 1))) ⟨9,false,false,false,false⟩])))
def YG(w:aC)(ks:List Tn):Tn:=match ks with
 |[]=>lV w
 |t::_=>oz [lV w,SX t]
def adO(k op:Int)(x y:aC)(ks L:List Tn):Tn:=
 bif k==20 then Jz (zf ks 0) else bif k==21 then aj6 op y ks else bif k==22 then lV [110,101,120,116] else bif k==25 then lV [98,114,101,97,107] else bif k==26 then lV [99,111,110,116,105,110,117,101] else
 bif k==23 then YG [101,120,105,116] ks else bif k==24 then YG [114,101,116,117,114,110] ks else
 bif k==27 then(match ks with
  |[]=>lV ([100,101,108,101,116,101,32]++x)
  |_::_=>oz [lV (([100,101,108,101,116,101,32]++x)++[91]),OX .top ks,lV [93]]) else
 bif k==28 then(let d:=oz [lV [105,102,32,40],Jz (zf ks 0),lV [41,32],yA L 1];bif Nat.blt 2 ks.length then oz [d,lV [32,101,108,115,101,32],yA L 2] else d) else
 bif k==29 then oz [lV [119,104,105,108,101,32,40],Jz (zf ks 0),lV [41,32],yA L 1] else
 bif k==30 then oz [lV [100,111,32],yA L 0,lV [32,119,104,105,108,101,32,40],Jz (zf ks 1),lV [41]] else
 bif k==31 then oz [lV [102,111,114,32,40],(bif(zf ks 0).kind==16 then lV [] else(Ba (zf ks 0)) ⟨1,false,true,false,false⟩),lV [59],SX (zf ks 1),lV [59],SX (zf ks 2),lV [41,32],yA L 3] else
 bif k==32 then oz [lV (((([102,111,114,32,40]++x)++[32,105,110,32])++y)++[41,32]),yA L 0] else
 bif k==33 then aj3 L else lV x
mutual
def iK:Tn->Tn
 | .mk k op x y ks=>adO k op x y ks (nU ks)
def nU:List Tn->List Tn
 |[]=>[]
 |t::ts=>(iK t)::nU ts
end
def FM:List Tn->Bool->List Tn
 |[],_=>[]
 |t::ts,b=>(bif t.kind==33 then(bif b then[(iK t)] else[lV [32],(iK t)]) else(bif b then[Jz t] else[lV [44,32],Jz t]))++FM ts false
def Il:List (aC)->Bool->aC
 |[],_=>[]
 |x::l,b=>(bif b then x else[44,32]++x)++Il l false
def VZ(x:aC)(ks:List Tn):aC:=(([102,117,110,99,116,105,111,110,32]++x)++[40])++(Il ((ks.take (ks.length - 1)).map Tn.text) true++[41])
def itemD(t:Tn):Tn:=
 bif t.kind==40 then oz [lV [66,69,71,73,78,32],(iK (zf t.kids 0))] else bif t.kind==41 then oz [lV [69,78,68,32],(iK (zf t.kids 0))] else
 bif t.kind==42||t.kind==43 then oz (FM t.kids true) else bif t.kind==44 then oz [lV (VZ t.text t.kids++[32]),(iK (zf t.kids (t.kids.length - 1)))] else(iK t)
def F7:List Tn->List Tn
 |[]=>[]
 |t::ts=>(itemD t)::QC::F7 ts
def U1(t:Tn):Tn:=oz (F7 t.kids)
structure Cnt(k op:Int)(y:aC)(n:Nat):Prop where
 one:k=6∨k=9∨k=10∨k=11∨k=20∨k=32∨k=40∨k=41->n=1
 two:k=12∨k=15∨k=29∨k=30->n=2
 some_:k=5∨k=13∨k=44->1<=n
 three:k=14->n=3
 four:k=31->n=4
 cnd:k=28->n=2∨n=3
 prn:k=21->(op=0∨op=1)∧(y≠[]->1<=n)
 wrd:k=23∨k=24->n<=1
 non:k=1∨k=2∨k=3∨k=4∨k=16∨k=22∨k=25∨k=26∨k=34->n=0
 rule:k=42->(op=1∧n=1)∨(op=2∧n=1)∨(op=3∧n=2)
 range:k=43->(op=1∧n=2)∨(op=3∧n=3)
 few:k≠33->k≠45->n<=7
 bin:k=12->zn op≠0∧op≠61
 asg:k=15->op=54∨(38<=op∧op<=43)
 stp:k=9∨k=10->op=51∨op=52
 una:k=11->op=55∨op=56∨op=61
def cls(k op:Int)(n j:Nat):Nat:=
 if k=9∨k=10∨(k=15∧j=0) then 6 else if k=28∨k=29 then(if j=0 then 0 else 1) else if k=30 then(if j=0 then 1 else 0) else
 if k=31 then(if j<3 then 3 else 1) else if k=32∨k=40∨k=41 then 1 else if k=33 then 2 else if k=42 then(if op=2∨(op=3∧j+1=n) then 1 else 0) else
 if k=43 then(if j=2 then 1 else 0) else if k=44 then(if j+1=n then 1 else 4) else if k=45 then 5 else 0
def BQ(c:Nat)(d:Int):Prop:=match c with
 |0=>1<=d∧d<=15
 |1=>d=33
 |2=>20<=d∧d<=34
 |3=>d=16∨(1<=d∧d<=15)
 |4=>d=1
 |5=>(40<=d∧d<=44)∨d=34
 |_=>d=1∨d=5∨d=6
def abQ(k:Int):Prop:=(1<=k∧k<=16)∨(20<=k∧k<=34)∨(40<=k∧k<=45)
mutual
def Fb:Tn->Prop
 | .mk k op x y ks=>abQ k∧Cnt k op y ks.length∧oks k op ks.length ks 0
def oks(k op:Int)(n:Nat):List Tn->Nat->Prop
 |[],_=>True
 |t::ts,j=>BQ (cls k op n j) t.kind∧(Fb t)∧oks k op n ts (j+1)
end
def ap0{k op:Int}{n:Nat}:∀{ks:List Tn} {j i:Nat} {t:Tn},oks k op n ks j->ks[i]? =some t->BQ (cls k op n (j+i)) t.kind∧(Fb t)
 |[],_,i,_,_,h=>by simp at h
 |u::ts,j,0,t,h,e=>by rw[oks] at h;cases e;exact⟨h.1,h.2.1⟩
 |u::ts,j,i+1,t,h,e=>by rw[oks] at h;rw[List.getElem?_cons_succ] at e;have:=ap0 h.2.2 e;rw[show j+1+i=j+(i+1) by omega] at this;exact this
def LW{k op:Int}{x y:aC}{ks:List Tn}(h:(Fb (Tn.mk k op x y ks))){i:Nat}{t:Tn}(e:ks[i]? =some t):BQ (cls k op ks.length i) t.kind∧(Fb t):=by
 rw[Fb] at h;have:=ap0 h.2.2 e
 rwa [Nat.zero_add] at this
def Px{k op:Int}{x y:aC}{ks:List Tn}(h:(Fb (Tn.mk k op x y ks))):Cnt k op y ks.length:=by rw[Fb] at h;exact h.2.1
def Wh(t:Tn):Prop:=1<=t.kind∧t.kind<=15
def aaP{k op:Int}{x y:aC}{ks:List Tn}(h:(Fb (Tn.mk k op x y ks)))(he:1<=k∧k<=15){i:Nat}{t:Tn}(e:ks[i]? =some t):(Wh t)∧(Fb t):=by
 obtain⟨h1,h2⟩:=LW h e;refine⟨?_,h2⟩;unfold Wh;have:cls k op ks.length i=6∨cls k op ks.length i=0:=by
  unfold cls;split
  ·exact .inl rfl
  ·repeat(rw[if_neg au])
   exact .inr rfl
 rcases this with h|h<;>rw[h] at h1<;>simp only[BQ] at h1<;>omega
def JR{a b lo hi:Int}(c:Bool)(ha:lo<=a∧a<=hi)(hb:lo<=b∧b<=hi):lo<=(bif c then a else b)∧(bif c then a else b)<=hi:=by cases c<;>assumption
def agf(op:Int):0<=zn op∧zn op<=12:=by unfold zn;exact JR _ ⟨by decide,by decide⟩ (JR _ ⟨by decide,by decide⟩ (JR _ ⟨by decide,by decide⟩ (JR _ ⟨by decide,by decide⟩ (JR _ ⟨by decide,by decide⟩ (JR _ ⟨by decide,by decide⟩ (JR _ ⟨by decide,by decide⟩ (JR _ ⟨by decide,by decide⟩ ⟨by decide,by decide⟩)))))))
def TR{k op:Int}{y:aC}{n:Nat}(he:1<=k∧k<=15)(hc:Cnt k op y n):1<=lvl k op∧lvl k op<=15:=by
 obtain⟨h1,h2⟩:=he;have hk:k=1∨k=2∨k=3∨k=4∨k=5∨k=6∨k=7∨k=8∨k=9∨k=10∨k=11∨k=13∨k=14∨k=15∨k=12:=au;rcases hk with rfl|rfl|rfl|rfl|rfl|rfl|rfl|rfl|rfl|rfl|rfl|rfl|rfl|rfl|rfl
 case inr.inr.inr.inr.inr.inr.inr.inr.inr.inr.inr.inr.inr.inr=>have hb:=(hc.bin rfl).1;have:=agf op;change 1<=zn op∧zn op<=15;omega
 all_goals simp[lvl]
def gJ(s:aC):(lV s).size=1:=by simp[lV,Tn.size,sizes]
def Xp:TQ.size=1:=by simp[TQ,Tn.size,sizes]
def aaQ:QC.size=1:=by simp[QC,Tn.size,sizes]
def U2(d:Tn):(VY d).size=d.size+1:=by simp[VY,Tn.size,sizes]
def ap1(d:Tn):(anC d).size=d.size+1:=by simp[anC,Tn.size,sizes]
def oL(l:List Tn):(oz l).size=sizes l+1:=by simp[oz,Tn.size]
def abR:∀(L:List Tn) (b:Bool),sizes (QU b L)<=sizes L+2 * L.length
 |[],b=>by rw[QU];simp[sizes]
 |x::l,b=>by have:=abR l false;cases b<;>simp only[QU,aS,bG,kW,sizes,gJ,Xp,mV]<;>omega
def agh(L:List Tn):(aaO L).size<=sizes L+2 * L.length+3:=by have:=abR L true;rw[aaO,ap1,U2,oL];omega
def aiG:∀(L:List Tn) (j:Nat),(yA L j).size<=sizes L+1
 |[],j=>by simp[yA,sizes,gJ]
 |x::l,0=>by simp only[yA,List.getElem?_cons_zero,Option.getD_some,sizes];omega
 |x::l,j+1=>by have:=aiG l j;simp only[yA,List.getElem?_cons_succ,sizes] at this⊢;omega
def aoT:∀(L:List Tn),(yA L 0).size+((yA L 1).size+(yA L 2).size)<=sizes L+3
 |[]=>by simp[yA,sizes,gJ]
 |[x]=>by simp[yA,sizes,gJ]
 |[x,y]=>by simp[yA,sizes,gJ];omega
 |x::y::z::l=>by simp[yA,sizes];omega
def Bc{a b:Tn}{N:Nat}(c:Bool)(ha:a.size<=N)(hb:b.size<=N):(bif c then a else b).size<=N:=by cases c<;>assumption
def arl(k op:Int)(n:Nat)(x:aC)(g:Bool)(L:List Tn):(Xo k op n x g L).size<=sizes L+2 * L.length+9:=by
 have h1:=agh L;have h2:=aiG L 0;have h3:=aoT L;unfold Xo;refine Bc _ ?_ (Bc _ ?_ (Bc _ ?_ (Bc _ ?_ (Bc _ ?_ (Bc _ ?_ (Bc _ ?_ (Bc _ ?_ (Bc _ (Bc _ ?_ ?_) (Bc _ ?_ (Bc _ ?_ ?_))))))))))
 all_goals(simp only[gJ,oL,ap1,U2,Xp,sizes]<;>omega)
def aaR(k op:Int)(n:Nat)(p:Ps):∀(ts:List Tn) (j:Nat),(sH k op n p ts j).length=ts.length
 |[],j=>by simp[sH]
 |t::ts,j=>by rw[sH,mV,aaR k op n p ts (j+1),mV]
def OC(k op:Int)(n:Nat)(p:Ps)(j:Nat)(u:Tn):Tn:=bif qh k j||fits u.kind u.op (dP k op n j p) then qj u (dP k op n j p) else oz [lV [40],qj u .top,lV [41]]
def agi(a:Tn):(oz [lV [40],a,lV [41]]).size=a.size+3:=by simp only[oL,gJ,sizes];omega
def aiH{k op:Int}{n:Nat}{p:Ps}{j:Nat}{u:Tn}(h:∀q,(qj u q).size+6<=16 * u.size):(OC k op n p j u).size+3<=16 * u.size:=by
 unfold OC;cases(qh k j||fits u.kind u.op (dP k op n j p)) with
 |true=>have:=h (dP k op n j p);rw[aS];omega
 |false=>have:=h .top;rw[bG,agi];omega
def agj{k op:Int}{n:Nat}{p:Ps}:∀{ts:List Tn} {j:Nat},(∀u,u∈ts->∀q,(qj u q).size+6<=16 * u.size)->sizes (sH k op n p ts j)+3 * ts.length<=16 * sizes ts
 |[],j,_=>by rw[sH];simp[sizes]
 |t::ts,j,h=>by
  have h1:=aiH (k:=k) (op:=op) (n:=n) (p:=p) (j:=j) (h t Yh);have h2:=agj (k:=k) (op:=op) (n:=n) (p:=p) (ts:=ts) (j:=j+1) λu hu=>h u (X9 _ hu)
  unfold OC at h1;rw[sH,sizes,sizes,mV];omega
def LX(t:Tn):∀q,(qj t q).size+6<=16 * t.size:=by refine Tn.ind (P:=λt=>∀q,(qj t q).size+6<=16 * t.size) ?_ t;intro k op x y ks ih q;have h1:=arl k op ks.length x (aiF op (jA k op ks.length q ks 0)) (sH k op ks.length q ks 0);have h2:=agj (k:=k) (op:=op) (n:=ks.length) (p:=q) (ts:=ks) (j:=0) ih;rw[aaR] at h1;rw[qj,Tn.size];omega
def nC(t:Tn)(q:Ps):(Ba t q).size+3<=16 * t.size:=by
 have h1:=LX t q;have h2:=LX t .top;unfold Ba;cases fits t.kind t.op q with
 |true=>rw[aS];omega
 |false=>rw[bG,agi];omega
def abS:∀(L:List Tn) (j:Nat),(zf L j).size<=sizes L+1
 |[],j=>by simp[zf,sizes,Tn.size]
 |x::l,0=>by simp[zf,sizes];omega
 |x::l,j+1=>by have:=abS l j;simp only[zf,List.getElem?_cons_succ,sizes] at this⊢;omega
def RH(t:Tn):(SX t).size<=16 * t.size:=by
 have h:=nC t .top;have hp:=t.size_pos;unfold SX Jz;refine Bc _ ?_ ?_
 ·rw[gJ];omega
 ·rw[oL];simp only[sizes,gJ];omega
def LY(p:Ps)(L:List Tn):(OX p L).size<=16 * sizes L+3:=by
 have h:∀L:List Tn,sizes (L.map λt=>Ba t p)+3 * L.length<=16 * sizes L:=by
  intro L;induction L with
  |nil=>simp[sizes]
  |cons t l ih=>have:=nC t p;simp only[OQ,sizes,mV];omega
 have h1:=agh (L.map λt=>Ba t p);have h2:=h L;rw[List.length_map] at h1;unfold OX;omega
def Xq:∀L:List Tn,sizes (E5 L)=sizes L+L.length
 |[]=>rfl
 |d::l=>by have:=Xq l;simp only[E5,sizes,aaQ,mV];omega
def arn(L:List Tn):(aj3 L).size=sizes L+L.length+6:=by have:=Xq L;simp only[aj3,oL,U2,sizes,gJ,aaQ];omega
def take_size:∀(ks:List Tn) (n:Nat),sizes (ks.take n)<=sizes ks
 |[],n=>by simp[sizes]
 |t::ts,0=>by simp[sizes]
 |t::ts,n+1=>by have:=take_size ts n;simp only[List.take_succ_cons,sizes];omega
def isS(t:Tn):Prop:=20<=t.kind∧t.kind<=34
def ZA:∀{ks:List Tn},(∀u,u∈ks->(iK u).size+2<=40 * u.size)->sizes (nU ks)+2 * ks.length<=40 * sizes ks
 |[],_=>by simp[nU,sizes]
 |t::ts,h=>by
  have h1:=h t Yh;have h2:=ZA (ks:=ts) λu hu=>h u (X9 _ hu)
  rw[nU,sizes,sizes,mV];omega
def OD:∀ks:List Tn,(nU ks).length=ks.length
 |[]=>rfl
 |t::ts=>by rw[nU,mV,OD ts,mV]
def aro(op:Int)(y:aC)(ks:List Tn):(aj6 op y ks).size<=32 * sizes ks+27:=by
 have h1:=LY ⟨1,false,false,true,false⟩ (bif y==[] then ks else ks.take (ks.length - 1));have h2:sizes (bif y==[] then ks else ks.take (ks.length - 1))<=sizes ks:=by
  cases(y==[]) with
  |true=>exact Nat.le_refl _
  |false=>exact take_size _ _
 have h3:=nC (zf ks (ks.length - 1)) ⟨9,false,false,false,false⟩;have h4:=abS ks (ks.length - 1);unfold aj6;generalize (bif y==[] then ks else ks.take (ks.length - 1))=args at *;simp only[oL,kW,sizes,gJ];cases Nat.blt 0 args.length<;>cases(y==[])<;>simp only[aS,bG,sizes,gJ]<;>omega
def agk(w:aC)(ks:List Tn):(YG w ks).size<=16 * sizes ks+2:=by
 cases ks with
 |nil=>simp[YG,gJ]
 |cons t l=>have:=RH t;simp only[YG,oL,sizes,gJ];omega
def aj7{α:Type}{l:List α}(h:l.length=4):∃a b c d,l=[a,b,c,d]:=by
 match l,h with
 |[a,b,c,d],_=>exact⟨a,b,c,d,rfl⟩
def aj8{α:Type}{l:List α}(h:l.length=2):∃a b,l=[a,b]:=by
 match l,h with
 |[a,b],_=>exact⟨a,b,rfl⟩
def arp{α:Type}{l:List α}(h:l.length=3):∃a b c,l=[a,b,c]:=by
 match l,h with
 |[a,b,c],_=>exact⟨a,b,c,rfl⟩
def ap2{k op:Int}{x y:aC}{ks:List Tn}(h:Fb (Tn.mk k op x y ks)){i:Nat}{t:Tn}(e:ks[i]? =some t)(hc:cls k op ks.length i=1∨cls k op ks.length i=2):isS t∧Fb t:=by obtain⟨h1,h2⟩:=LW h e;refine⟨?_,h2⟩;unfold isS;rcases hc with hc|hc<;>rw[hc] at h1<;>simp only[BQ] at h1<;>omega
def VH(t:Tn):Fb t->isS t->(iK t).size+2<=40 * t.size:=by
 refine Tn.ind (P:=λt=>Fb t->isS t->(iK t).size+2<=40 * t.size) ?_ t;intro k op x y ks ih hok hs;have hc:=Px hok;simp only[isS,Tn.kind] at hs;have ihk:∀{i:Nat} {u:Tn},ks[i]? =some u->(cls k op ks.length i=1∨cls k op ks.length i=2)->(iK u).size+2<=40 * u.size:=by intro i u e hcl;obtain⟨h1,h2⟩:=ap2 hok e hcl;exact ih u (BX e) h2 h1
 rw[iK,Tn.size];have hk:k=20∨k=21∨k=22∨k=23∨k=24∨k=25∨k=26∨k=27∨k=28∨k=29∨k=30∨k=31∨k=32∨k=33∨k=34:=au;rcases hk with rfl|rfl|rfl|rfl|rfl|rfl|rfl|rfl|rfl|rfl|rfl|rfl|rfl|rfl|rfl<;>simp only[adO,Int.reduceBEq,aS,bG]
 ·have h1:=nC (zf ks 0) .top;have h2:=abS ks 0;unfold Jz;omega
 ·have:=aro op y ks;omega
 ·rw[gJ];omega
 ·have:=agk [101,120,105,116] ks;omega
 ·have:=agk [114,101,116,117,114,110] ks;omega
 ·rw[gJ];omega
 ·rw[gJ];omega
 ·cases ks with
  |nil=>rw[gJ];omega
  |cons u l=>have:=LY .top (u::l);simp only[oL,gJ,sizes] at this⊢;omega
 ·rcases hc.cnd rfl with h2|h3
  ·obtain⟨u,v,rfl⟩:=aj8 h2;have a0:=nC u .top;have a1:=ihk (i:=1) (u:=v) rfl (by simp[cls]);simp[yA,zf,nU,Jz,oL,gJ,sizes,show Nat.blt 2 2=false from rfl] at *;omega
  ·obtain⟨u,v,z,rfl⟩:=arp h3;have a0:=nC u .top;have a1:=ihk (i:=1) (u:=v) rfl (by simp[cls]);have a2:=ihk (i:=2) (u:=z) rfl (by simp[cls]);simp[yA,zf,nU,Jz,oL,gJ,sizes,show Nat.blt 2 3=true from rfl] at *;omega
 ·obtain⟨u,v,rfl⟩:=aj8 (hc.two au);have a0:=nC u .top;have a1:=ihk (i:=1) (u:=v) rfl (by simp[cls]);simp[yA,zf,nU,Jz,oL,gJ,sizes] at *;omega
 ·obtain⟨u,v,rfl⟩:=aj8 (hc.two au);have a0:=nC v .top;have a1:=ihk (i:=0) (u:=u) rfl (by simp[cls]);simp[yA,zf,nU,Jz,oL,gJ,sizes] at *;omega
 ·obtain⟨u,v,z,q,rfl⟩:=aj7 (hc.four rfl);have a0:=nC u ⟨1,false,true,false,false⟩;have a1:=RH v;have a2:=RH z;have a3:=ihk (i:=3) (u:=q) rfl (by simp[cls]);have a4:(bif u.kind==16 then lV [] else(Ba u) ⟨1,false,true,false,false⟩).size<=16 * u.size:=by
   refine Bc _ ?_ ?_
   ·have:=u.size_pos;rw[gJ];omega
   ·omega
  simp[yA,zf,nU,oL,gJ,sizes] at *;omega
 ·obtain⟨u,rfl⟩:=zlo.1 (hc.one au);have a1:=ihk (i:=0) (u:=u) rfl (by simp[cls]);simp[yA,zf,nU,oL,gJ,sizes] at *;omega
 ·have h1:=arn (nU ks);have h2:=ZA (ks:=ks) λu hu=>by obtain⟨i,hi⟩:=List.mem_iff_getElem?.1 hu;exact ihk hi (by simp[cls])
  rw[OD] at h1;omega
 ·rw[gJ];omega
def yB{op:Int}(h:afV op=true):zn op≠0∧op≠61:=by
 have hc:op=60∨op=57∨op=58∨op=59∨op=55∨op=56∨op=99∨op=63∨op=48∨op=47∨op=50∨op=62∨op=49∨op=67∨op=46∨op=45∨op=44:=by simp only[afV,Bool.or_eq_true,beq_iff_eq] at h;omega
 rcases hc with rfl|rfl|rfl|rfl|rfl|rfl|rfl|rfl|rfl|rfl|rfl|rfl|rfl|rfl|rfl|rfl|rfl<;>decide
def DL{op:Int}(h:afW op=true):op=54∨(38<=op∧op<=43):=by simp only[afW,Bool.or_eq_true,FN,beq_iff_eq,decide_eq_true_eq] at h;omega
def bnd{α:Type}{x:Option Bool}{f:Bool->Option α}{r:α}(h:x.bind f=some r):∃b,x=some b∧f b=some r:=by
 cases x with
 |none=>cases h
 |some b=>exact⟨b,rfl,h⟩
def abT(k:Int)(op:Int)(t o:aC)(kids:aA)(h:M.aI k op t o kids=some true)(hk:k=1∨k=5∨k=7∨k=13∨k=27∨k=44):Cnt k op o kids.length:=by
 rcases hk with rfl|rfl|rfl|rfl|rfl|rfl
 all_goals
  simp only[M.aI,M.bf,M.dA,M.bU,M.eP,M.dU,M.dD,M.cu,fU,dI,AZ,oK,Int.reduceBEq,reduceLE,reduceLT,reduceSub,reduceAdd,dw,ah] at h;revert h;cases hn0:M.jH t with
  |none=>cases op==0<;>simp
  |some b0=>_
  all_goals try simp only[Int.reduceBEq,reduceLE,reduceLT,reduceSub,reduceAdd,dw,ah]
  all_goals(cases ho0:(op==0)<;>cases ht:(t==[])<;>cases hy:(o==[])<;>cases b0<;>simp_all<;>intros<;>constructor<;>intros<;>first|omega|exact yB ‹_›|exact DL ‹_›|(rw[aG (n:=op+1) au au] at *;omega)|(simp_all<;>omega))
def aT6(op:Int)(t o:aC)(kids:aA)(h:M.aI 2 op t o kids=some true):Cnt 2 op o kids.length:=by
 simp only[M.aI,M.bf,M.dA,M.bU,M.eP,M.dU,M.dD,M.cu,fU,dI,AZ,oK,Int.reduceBEq,reduceLE,reduceLT,reduceSub,reduceAdd,dw,ah] at h;revert h;cases hn0:M.mg 3 t 0 with
 |none=>cases op==0<;>simp
 |some b0=>_
 all_goals try simp only[Int.reduceBEq,reduceLE,reduceLT,reduceSub,reduceAdd,dw,ah]
 all_goals(cases ho0:(op==0)<;>cases ht:(t==[])<;>cases hy:(o==[])<;>cases b0<;>simp_all<;>intros<;>constructor<;>intros<;>first|omega|exact yB ‹_›|exact DL ‹_›|(rw[aG (n:=op+1) au au] at *;omega)|(simp_all<;>omega))
def aT7(op:Int)(t o:aC)(kids:aA)(h:M.aI 3 op t o kids=some true):Cnt 3 op o kids.length:=by
 simp only[M.aI,M.bf,M.dA,M.bU,M.eP,M.dU,M.dD,M.cu,fU,dI,AZ,oK,Int.reduceBEq,reduceLE,reduceLT,reduceSub,reduceAdd,dw,ah] at h;revert h;cases hn0:M.mg 4 t 0 with
 |none=>cases op==0<;>simp
 |some b0=>_
 all_goals try simp only[Int.reduceBEq,reduceLE,reduceLT,reduceSub,reduceAdd,dw,ah]
 all_goals(cases ho0:(op==0)<;>cases ht:(t==[])<;>cases hy:(o==[])<;>cases b0<;>simp_all<;>intros<;>constructor<;>intros<;>first|omega|exact yB ‹_›|exact DL ‹_›|(rw[aG (n:=op+1) au au] at *;omega)|(simp_all<;>omega))
def aT8(op:Int)(t o:aC)(kids:aA)(h:M.aI 4 op t o kids=some true):Cnt 4 op o kids.length:=by
 simp only[M.aI,M.bf,M.dA,M.bU,M.eP,M.dU,M.dD,M.cu,fU,dI,AZ,oK,Int.reduceBEq,reduceLE,reduceLT,reduceSub,reduceAdd,dw,ah] at h;revert h;cases hn0:M.mg 5 t 0 with
 |none=>cases op==0<;>simp
 |some b0=>_
 all_goals try simp only[Int.reduceBEq,reduceLE,reduceLT,reduceSub,reduceAdd,dw,ah]
 all_goals(cases ho0:(op==0)<;>cases ht:(t==[])<;>cases hy:(o==[])<;>cases b0<;>simp_all<;>intros<;>constructor<;>intros<;>first|omega|exact yB ‹_›|exact DL ‹_›|(rw[aG (n:=op+1) au au] at *;omega)|(simp_all<;>omega))
def Io(k:Int)(op:Int)(t o:aC)(kids:aA)(h:M.aI k op t o kids=some true)(hk:k=6∨k=14∨k=16∨k=20∨k=22∨k=23∨k=24∨k=25∨k=26∨k=28∨k=29∨k=30∨k=31∨k=33∨k=40∨k=41∨k=45):Cnt k op o kids.length:=by
 rcases hk with rfl|rfl|rfl|rfl|rfl|rfl|rfl|rfl|rfl|rfl|rfl|rfl|rfl|rfl|rfl|rfl|rfl
 all_goals
  simp only[M.aI,M.bf,M.dA,M.bU,M.eP,M.dU,M.dD,M.cu,fU,dI,AZ,oK,Int.reduceBEq,reduceLE,reduceLT,reduceSub,reduceAdd,dw,ah] at h;revert h
  all_goals try simp only[Int.reduceBEq,reduceLE,reduceLT,reduceSub,reduceAdd,dw,ah]
  all_goals(cases ho0:(op==0)<;>cases ht:(t==[])<;>cases hy:(o==[])<;>simp_all<;>intros<;>constructor<;>intros<;>first|omega|exact yB ‹_›|exact DL ‹_›|(rw[aG (n:=op+1) au au] at *;omega)|(simp_all<;>omega))
def aT9(op:Int)(t o:aC)(kids:aA)(h:M.aI 8 op t o kids=some true):Cnt 8 op o kids.length:=by
 simp only[M.aI,M.bf,M.dA,M.bU,M.eP,M.dU,M.dD,M.cu,fU,dI,AZ,oK,Int.reduceBEq,reduceLE,reduceLT,reduceSub,reduceAdd,dw,ah] at h;revert h;cases hn0:M.lM t with
 |none=>cases op==0<;>simp
 |some b0=>_
 all_goals try simp only[Int.reduceBEq,reduceLE,reduceLT,reduceSub,reduceAdd,dw,ah]
 all_goals(cases ho0:(op==0)<;>cases ht:(t==[])<;>cases hy:(o==[])<;>cases b0<;>simp_all<;>intros<;>constructor<;>intros<;>first|omega|exact yB ‹_›|exact DL ‹_›|(rw[aG (n:=op+1) au au] at *;omega)|(simp_all<;>omega))
def avH(k:Int)(op:Int)(t o:aC)(kids:aA)(h:M.aI k op t o kids=some true)(hk:k=9∨k=10):Cnt k op o kids.length:=by
 rcases hk with rfl|rfl
 all_goals
  simp only[M.aI,M.bf,M.dA,M.bU,M.eP,M.dU,M.dD,M.cu,fU,dI,AZ,oK,Int.reduceBEq,reduceLE,reduceLT,reduceSub,reduceAdd,dw,ah] at h;revert h
  all_goals try simp only[Int.reduceBEq,reduceLE,reduceLT,reduceSub,reduceAdd,dw,ah]
  all_goals(cases ho0:(op==51)<;>cases ho1:(op==52)<;>cases ht:(t==[])<;>cases hy:(o==[])<;>simp_all<;>intros<;>constructor<;>intros<;>first|omega|exact yB ‹_›|exact DL ‹_›|(rw[aG (n:=op+1) au au] at *;omega)|(simp_all<;>omega))
def aDg(op:Int)(t o:aC)(kids:aA)(h:M.aI 11 op t o kids=some true):Cnt 11 op o kids.length:=by
 simp only[M.aI,M.bf,M.dA,M.bU,M.eP,M.dU,M.dD,M.cu,fU,dI,AZ,oK,Int.reduceBEq,reduceLE,reduceLT,reduceSub,reduceAdd,dw,ah] at h;revert h
 all_goals try simp only[Int.reduceBEq,reduceLE,reduceLT,reduceSub,reduceAdd,dw,ah]
 all_goals(cases ho0:(op==55)<;>cases ho1:(op==56)<;>cases ho2:(op==61)<;>cases ht:(t==[])<;>cases hy:(o==[])<;>simp_all<;>intros<;>constructor<;>intros<;>first|omega|exact yB ‹_›|exact DL ‹_›|(rw[aG (n:=op+1) au au] at *;omega)|(simp_all<;>omega))
def aDh(op:Int)(t o:aC)(kids:aA)(h:M.aI 12 op t o kids=some true):Cnt 12 op o kids.length:=by
 simp only[M.aI,M.bf,M.dA,M.bU,M.eP,M.dU,M.dD,M.cu,fU,dI,AZ,oK,Int.reduceBEq,reduceLE,reduceLT,reduceSub,reduceAdd,dw,ah] at h;revert h
 all_goals try simp only[Int.reduceBEq,reduceLE,reduceLT,reduceSub,reduceAdd,dw,ah]
 all_goals(cases ho0:(afV op)<;>cases ht:(t==[])<;>cases hy:(o==[])<;>simp_all<;>intros<;>constructor<;>intros<;>first|omega|exact yB ‹_›|exact DL ‹_›|(rw[aG (n:=op+1) au au] at *;omega)|(simp_all<;>omega))
def aDi(op:Int)(t o:aC)(kids:aA)(h:M.aI 15 op t o kids=some true):Cnt 15 op o kids.length:=by
 simp only[M.aI,M.bf,M.dA,M.bU,M.eP,M.dU,M.dD,M.cu,fU,dI,AZ,oK,Int.reduceBEq,reduceLE,reduceLT,reduceSub,reduceAdd,dw,ah] at h;revert h
 all_goals try simp only[Int.reduceBEq,reduceLE,reduceLT,reduceSub,reduceAdd,dw,ah]
 all_goals(cases ho0:(afW op)<;>cases ht:(t==[])<;>cases hy:(o==[])<;>simp_all<;>intros<;>constructor<;>intros<;>first|omega|exact yB ‹_›|exact DL ‹_›|(rw[aG (n:=op+1) au au] at *;omega)|(simp_all<;>omega))
def aDj(op:Int)(t o:aC)(kids:aA)(h:M.aI 21 op t o kids=some true):Cnt 21 op o kids.length:=by
 simp only[M.aI,M.bf,M.dA,M.bU,M.eP,M.dU,M.dD,M.cu,fU,dI,AZ,oK,Int.reduceBEq,reduceLE,reduceLT,reduceSub,reduceAdd,dw,ah] at h;revert h
 all_goals try simp only[Int.reduceBEq,reduceLE,reduceLT,reduceSub,reduceAdd,dw,ah]
 all_goals(cases ho0:(decide (0<=op))<;>cases ho1:(decide (op<=1))<;>cases ht:(t==[])<;>cases hy:(o==[])<;>cases h1:(o==[62])<;>cases h2:(o==[62,62])<;>cases h3:(o==[124])<;>simp_all<;>intros<;>constructor<;>intros<;>first|omega|exact yB ‹_›|exact DL ‹_›|(rw[aG (n:=op+1) au au] at *;omega)|(simp_all<;>omega))
def aDk(op:Int)(t o:aC)(kids:aA)(h:M.aI 32 op t o kids=some true):Cnt 32 op o kids.length:=by
 simp only[M.aI,M.bf,M.dA,M.bU,M.eP,M.dU,M.dD,M.cu,fU,dI,AZ,oK,Int.reduceBEq,reduceLE,reduceLT,reduceSub,reduceAdd,dw,ah] at h;revert h;cases hn0:M.jH t with
 |none=>cases op==0<;>simp
 |some b0=>_
 cases hn1:M.jH o with
 |none=>cases b0<;>cases op==0<;>simp
 |some b1=>_
 all_goals try simp only[Int.reduceBEq,reduceLE,reduceLT,reduceSub,reduceAdd,dw,ah]
 all_goals(cases ho0:(op==0)<;>cases ht:(t==[])<;>cases hy:(o==[])<;>cases b0<;>cases b1<;>simp_all<;>intros<;>constructor<;>intros<;>first|omega|exact yB ‹_›|exact DL ‹_›|(rw[aG (n:=op+1) au au] at *;omega)|(simp_all<;>omega))
def aDl(op:Int)(t o:aC)(kids:aA)(h:M.aI 34 op t o kids=some true):Cnt 34 op o kids.length:=by
 simp only[M.aI,M.bf,M.dA,M.bU,M.eP,M.dU,M.dD,M.cu,fU,dI,AZ,oK,Int.reduceBEq,reduceLE,reduceLT,reduceSub,reduceAdd,dw,ah] at h;revert h;cases hn0:M.mg 2 t 0 with
 |none=>cases op==0<;>simp
 |some b0=>_
 all_goals try simp only[Int.reduceBEq,reduceLE,reduceLT,reduceSub,reduceAdd,dw,ah]
 all_goals(cases ho0:(op==0)<;>cases ht:(t==[])<;>cases hy:(o==[])<;>cases b0<;>simp_all<;>intros<;>constructor<;>intros<;>first|omega|exact yB ‹_›|exact DL ‹_›|(rw[aG (n:=op+1) au au] at *;omega)|(simp_all<;>omega))
def aDm(op:Int)(t o:aC)(kids:aA)(h:M.aI 42 op t o kids=some true):Cnt 42 op o kids.length:=by have hc:=ajY h;have hr:=hc.rule rfl;constructor<;>intros<;>omega
def aDn(op:Int)(t o:aC)(kids:aA)(h:M.aI 43 op t o kids=some true):Cnt 43 op o kids.length:=by have hc:=ajY h;have hr:=hc.range rfl;constructor<;>intros<;>omega
def VI(k:Int)(op:Int)(t o:aC)(kids:aA)(j:Nat)(d:Int)(hj:j<kids.length)(hl:kids.length<=400)(hc:Cnt k op o kids.length)(h:M.aO k op t o kids (j:Int) d=some true)(hk:k=1∨k=2∨k=3∨k=4∨k=16∨k=22∨k=25∨k=26∨k=34):BQ (cls k op kids.length j) d:=by
 rcases hk with rfl|rfl|rfl|rfl|rfl|rfl|rfl|rfl|rfl
 all_goals
  have hw:i64.wrap ((kids.length:Int) - 1)=(kids.length:Int) - 1:=aG au au;simp only[M.aO,M.aN,bK,bM,bP,aV,fU,dI,Int.reduceBEq,reduceLE,reduceLT,reduceSub,reduceAdd,dw,ah] at h
  try rw[hw] at h
  have:=hc.non au;omega
def F8(k:Int)(op:Int)(t o:aC)(kids:aA)(j:Nat)(d:Int)(hj:j<kids.length)(hl:kids.length<=400)(hc:Cnt k op o kids.length)(h:M.aO k op t o kids (j:Int) d=some true)(hk:k=5∨k=6∨k=7∨k=8∨k=11∨k=12∨k=13∨k=14∨k=20∨k=21∨k=23∨k=24∨k=27∨k=32∨k=33∨k=40∨k=41∨k=45):BQ (cls k op kids.length j) d:=by
 rcases hk with rfl|rfl|rfl|rfl|rfl|rfl|rfl|rfl|rfl|rfl|rfl|rfl|rfl|rfl|rfl|rfl|rfl|rfl
 all_goals
  have hw:i64.wrap ((kids.length:Int) - 1)=(kids.length:Int) - 1:=aG au au;simp only[M.aO,M.aN,bK,bM,bP,aV,fU,dI,Int.reduceBEq,reduceLE,reduceLT,reduceSub,reduceAdd,dw,ah] at h
  try rw[hw] at h
  simp[cls,BQ,ug,UY,aaK,isIt,Bool.cond_eq_ite] at h⊢
  all_goals first|omega|((repeat' split at h)<;>simp_all<;>omega)
def avI(k:Int)(op:Int)(t o:aC)(kids:aA)(j:Nat)(d:Int)(hj:j<kids.length)(hl:kids.length<=400)(hc:Cnt k op o kids.length)(h:M.aO k op t o kids (j:Int) d=some true)(hk:k=9∨k=10):BQ (cls k op kids.length j) d:=by
 rcases hk with rfl|rfl
 all_goals
  have hw:i64.wrap ((kids.length:Int) - 1)=(kids.length:Int) - 1:=aG au au;simp only[M.aO,M.aN,bK,bM,bP,aV,fU,dI,Int.reduceBEq,reduceLE,reduceLT,reduceSub,reduceAdd,dw,ah] at h
  try rw[hw] at h
  have hn:=hc.one au;obtain rfl:j=0:=au
  all_goals(simp[cls,BQ,ug,UY,aaK,isIt,Bool.cond_eq_ite] at h⊢<;>first|omega|(repeat' split at h)<;>simp_all<;>omega)
def aoU(k:Int)(op:Int)(t o:aC)(kids:aA)(j:Nat)(d:Int)(hj:j<kids.length)(hl:kids.length<=400)(hc:Cnt k op o kids.length)(h:M.aO k op t o kids (j:Int) d=some true)(hk:k=15∨k=29∨k=30):BQ (cls k op kids.length j) d:=by
 rcases hk with rfl|rfl|rfl
 all_goals
  have hw:i64.wrap ((kids.length:Int) - 1)=(kids.length:Int) - 1:=aG au au;simp only[M.aO,M.aN,bK,bM,bP,aV,fU,dI,Int.reduceBEq,reduceLE,reduceLT,reduceSub,reduceAdd,dw,ah] at h
  try rw[hw] at h
  have hn:=hc.two au;obtain rfl|rfl:j=0∨j=1:=au
  all_goals(simp[cls,BQ,ug,UY,aaK,isIt,Bool.cond_eq_ite] at h⊢<;>first|omega|(repeat' split at h)<;>simp_all<;>omega)
def aDo(op:Int)(t o:aC)(kids:aA)(j:Nat)(d:Int)(hj:j<kids.length)(hl:kids.length<=400)(hc:Cnt 28 op o kids.length)(h:M.aO 28 op t o kids (j:Int) d=some true):BQ (cls 28 op kids.length j) d:=by
 have hw:i64.wrap ((kids.length:Int) - 1)=(kids.length:Int) - 1:=aG au au;simp only[M.aO,M.aN,bK,bM,bP,aV,fU,dI,Int.reduceBEq,reduceLE,reduceLT,reduceSub,reduceAdd,dw,ah] at h
 try rw[hw] at h
 have hn:=hc.cnd au;obtain rfl|rfl|rfl:j=0∨j=1∨j=2:=au
 all_goals(simp[cls,BQ,ug,UY,aaK,isIt,Bool.cond_eq_ite] at h⊢<;>first|omega|(repeat' split at h)<;>simp_all<;>omega)
def aDp(op:Int)(t o:aC)(kids:aA)(j:Nat)(d:Int)(hj:j<kids.length)(hl:kids.length<=400)(hc:Cnt 31 op o kids.length)(h:M.aO 31 op t o kids (j:Int) d=some true):BQ (cls 31 op kids.length j) d:=by
 have hw:i64.wrap ((kids.length:Int) - 1)=(kids.length:Int) - 1:=aG au au;simp only[M.aO,M.aN,bK,bM,bP,aV,fU,dI,Int.reduceBEq,reduceLE,reduceLT,reduceSub,reduceAdd,dw,ah] at h
 try rw[hw] at h
 have hn:=hc.four au;obtain rfl|rfl|rfl|rfl:j=0∨j=1∨j=2∨j=3:=au
 all_goals(simp[cls,BQ,ug,UY,aaK,isIt,Bool.cond_eq_ite] at h⊢<;>first|omega|(repeat' split at h)<;>simp_all<;>omega)
def aDq(op:Int)(t o:aC)(kids:aA)(j:Nat)(d:Int)(hj:j<kids.length)(hl:kids.length<=400)(hc:Cnt 42 op o kids.length)(h:M.aO 42 op t o kids (j:Int) d=some true):BQ (cls 42 op kids.length j) d:=by
 have hw:i64.wrap ((kids.length:Int) - 1)=(kids.length:Int) - 1:=aG au au;simp only[M.aO,M.aN,bK,bM,bP,aV,fU,dI,Int.reduceBEq,reduceLE,reduceLT,reduceSub,reduceAdd,dw,ah] at h
 try rw[hw] at h
 rcases hc.rule rfl with⟨rfl,h1⟩|⟨rfl,h1⟩|⟨rfl,h1⟩
 ·obtain rfl:j=0:=au
  all_goals(simp[cls,BQ,ug,UY,aaK,isIt,Bool.cond_eq_ite,h1] at h⊢<;>first|omega|(repeat' split at h)<;>simp_all<;>omega)
 ·obtain rfl:j=0:=au
  all_goals(simp[cls,BQ,ug,UY,aaK,isIt,Bool.cond_eq_ite,h1] at h⊢<;>first|omega|(repeat' split at h)<;>simp_all<;>omega)
 ·obtain rfl|rfl:j=0∨j=1:=au
  all_goals(simp[cls,BQ,ug,UY,aaK,isIt,Bool.cond_eq_ite,h1] at h⊢<;>first|omega|(repeat' split at h)<;>simp_all<;>omega)
def aDr(op:Int)(t o:aC)(kids:aA)(j:Nat)(d:Int)(hj:j<kids.length)(hl:kids.length<=400)(hc:Cnt 43 op o kids.length)(h:M.aO 43 op t o kids (j:Int) d=some true):BQ (cls 43 op kids.length j) d:=by
 have hw:i64.wrap ((kids.length:Int) - 1)=(kids.length:Int) - 1:=aG au au;simp only[M.aO,M.aN,bK,bM,bP,aV,fU,dI,Int.reduceBEq,reduceLE,reduceLT,reduceSub,reduceAdd,dw,ah] at h
 try rw[hw] at h
 rcases hc.range rfl with⟨rfl,h1⟩|⟨rfl,h1⟩
 ·obtain rfl|rfl:j=0∨j=1:=au
  all_goals(simp[cls,BQ,ug,UY,aaK,isIt,Bool.cond_eq_ite,h1] at h⊢<;>first|omega|(repeat' split at h)<;>simp_all<;>omega)
 ·obtain rfl|rfl|rfl:j=0∨j=1∨j=2:=au
  all_goals(simp[cls,BQ,ug,UY,aaK,isIt,Bool.cond_eq_ite,h1] at h⊢<;>first|omega|(repeat' split at h)<;>simp_all<;>omega)
def aDs(op:Int)(t o:aC)(kids:aA)(j:Nat)(d:Int)(hj:j<kids.length)(hl:kids.length<=400)(hc:Cnt 44 op o kids.length)(h:M.aO 44 op t o kids (j:Int) d=some true):BQ (cls 44 op kids.length j) d:=by
 have hw:i64.wrap ((kids.length:Int) - 1)=(kids.length:Int) - 1:=aG au au;simp only[M.aO,M.aN,bK,bM,bP,aV,fU,dI,Int.reduceBEq,reduceLE,reduceLT,reduceSub,reduceAdd,dw,ah] at h
 try rw[hw] at h
 by_cases h1:j+1=kids.length
 ·have e:((j:Int)==(kids.length:Int) - 1)=true:=by rw[beq_iff_eq];omega
  rw[e] at h;simp[cls,BQ,h1,Bool.cond_eq_ite] at h⊢
  first|omega|skip
 ·have e:((j:Int)==(kids.length:Int) - 1)=false:=by rw[MJ];omega
  rw[e] at h;simp[cls,BQ,h1,Bool.cond_eq_ite] at h⊢
  first|omega|skip
def anD{k op:Int}{t o:aC}{kids:aA}(h:M.aI k op t o kids=some true):abQ k:=by
 by_cases hk:abQ k
 ·exact hk
 ·exfalso;have e1:(decide (k>=1) && decide (k<=16))=false:=by
   cases hq:(decide (k>=1) && decide (k<=16)) with
   |false=>rfl
   |true=>rw[FN,decide_eq_true_eq,decide_eq_true_eq] at hq;exact absurd (Or.inl hq) hk
  have e2:(decide (k>=20) && decide (k<=34))=false:=by
   cases hq:(decide (k>=20) && decide (k<=34)) with
   |false=>rfl
   |true=>rw[FN,decide_eq_true_eq,decide_eq_true_eq] at hq;exact absurd (Or.inr (Or.inl hq)) hk
  have e3:(decide (k>=40) && decide (k<=45))=false:=by
   cases hq:(decide (k>=40) && decide (k<=45)) with
   |false=>rfl
   |true=>rw[FN,decide_eq_true_eq,decide_eq_true_eq] at hq;exact absurd (Or.inr (Or.inr hq)) hk
  simp only[M.aI,M.bf,fU,e1,e2,e3,ah,bG] at h;cases hm:M.dA k op t o kids with
  |none=>rw[hm] at h;cases h
  |some r=>rw[hm,ah] at h;cases h
def aDt{k op:Int}{t o:aC}{kids:aA}(h:M.aI k op t o kids=some true):Cnt k op o kids.length:=by
 have hk:k=1∨k=2∨k=3∨k=4∨k=5∨k=6∨k=7∨k=8∨k=9∨k=10∨k=11∨k=12∨k=13∨k=14∨k=15∨k=16∨k=20∨k=21∨k=22∨k=23∨k=24∨k=25∨k=26∨k=27∨k=28∨k=29∨k=30∨k=31∨k=32∨k=33∨k=34∨k=40∨k=41∨k=42∨k=43∨k=44∨k=45:=by have:=anD h;unfold abQ at this;omega
 rcases hk with rfl|rfl|rfl|rfl|rfl|rfl|rfl|rfl|rfl|rfl|rfl|rfl|rfl|rfl|rfl|rfl|rfl|rfl|rfl|rfl|rfl|rfl|rfl|rfl|rfl|rfl|rfl|rfl|rfl|rfl|rfl|rfl|rfl|rfl|rfl|rfl|rfl
 ·exact abT _ _ _ _ _ h au
 ·exact aT6 _ _ _ _ h
 ·exact aT7 _ _ _ _ h
 ·exact aT8 _ _ _ _ h
 ·exact abT _ _ _ _ _ h au
 ·exact Io _ _ _ _ _ h au
 ·exact abT _ _ _ _ _ h au
 ·exact aT9 _ _ _ _ h
 ·exact avH _ _ _ _ _ h au
 ·exact avH _ _ _ _ _ h au
 ·exact aDg _ _ _ _ h
 ·exact aDh _ _ _ _ h
 ·exact abT _ _ _ _ _ h au
 ·exact Io _ _ _ _ _ h au
 ·exact aDi _ _ _ _ h
 ·exact Io _ _ _ _ _ h au
 ·exact Io _ _ _ _ _ h au
 ·exact aDj _ _ _ _ h
 ·exact Io _ _ _ _ _ h au
 ·exact Io _ _ _ _ _ h au
 ·exact Io _ _ _ _ _ h au
 ·exact Io _ _ _ _ _ h au
 ·exact Io _ _ _ _ _ h au
 ·exact abT _ _ _ _ _ h au
 ·exact Io _ _ _ _ _ h au
 ·exact Io _ _ _ _ _ h au
 ·exact Io _ _ _ _ _ h au
 ·exact Io _ _ _ _ _ h au
 ·exact aDk _ _ _ _ h
 ·exact Io _ _ _ _ _ h au
 ·exact aDl _ _ _ _ h
 ·exact Io _ _ _ _ _ h au
 ·exact Io _ _ _ _ _ h au
 ·exact aDm _ _ _ _ h
 ·exact aDn _ _ _ _ h
 ·exact abT _ _ _ _ _ h au
 ·exact Io _ _ _ _ _ h au
def aDu{k op:Int}{t o:aC}{kids:aA}{j:Nat}{d:Int}(hk:abQ k)(hj:j<kids.length)(hl:kids.length<=400)(hc:Cnt k op o kids.length)(h:M.aO k op t o kids (j:Int) d=some true):BQ (cls k op kids.length j) d:=by
 have hk:k=1∨k=2∨k=3∨k=4∨k=5∨k=6∨k=7∨k=8∨k=9∨k=10∨k=11∨k=12∨k=13∨k=14∨k=15∨k=16∨k=20∨k=21∨k=22∨k=23∨k=24∨k=25∨k=26∨k=27∨k=28∨k=29∨k=30∨k=31∨k=32∨k=33∨k=34∨k=40∨k=41∨k=42∨k=43∨k=44∨k=45:=by unfold abQ at hk;omega
 rcases hk with rfl|rfl|rfl|rfl|rfl|rfl|rfl|rfl|rfl|rfl|rfl|rfl|rfl|rfl|rfl|rfl|rfl|rfl|rfl|rfl|rfl|rfl|rfl|rfl|rfl|rfl|rfl|rfl|rfl|rfl|rfl|rfl|rfl|rfl|rfl|rfl|rfl
 ·exact VI _ _ _ _ _ _ _ hj hl hc h au
 ·exact VI _ _ _ _ _ _ _ hj hl hc h au
 ·exact VI _ _ _ _ _ _ _ hj hl hc h au
 ·exact VI _ _ _ _ _ _ _ hj hl hc h au
 ·exact F8 _ _ _ _ _ _ _ hj hl hc h au
 ·exact F8 _ _ _ _ _ _ _ hj hl hc h au
 ·exact F8 _ _ _ _ _ _ _ hj hl hc h au
 ·exact F8 _ _ _ _ _ _ _ hj hl hc h au
 ·exact avI _ _ _ _ _ _ _ hj hl hc h au
 ·exact avI _ _ _ _ _ _ _ hj hl hc h au
 ·exact F8 _ _ _ _ _ _ _ hj hl hc h au
 ·exact F8 _ _ _ _ _ _ _ hj hl hc h au
 ·exact F8 _ _ _ _ _ _ _ hj hl hc h au
 ·exact F8 _ _ _ _ _ _ _ hj hl hc h au
 ·exact aoU _ _ _ _ _ _ _ hj hl hc h au
 ·exact VI _ _ _ _ _ _ _ hj hl hc h au
 ·exact F8 _ _ _ _ _ _ _ hj hl hc h au
 ·exact F8 _ _ _ _ _ _ _ hj hl hc h au
 ·exact VI _ _ _ _ _ _ _ hj hl hc h au
 ·exact F8 _ _ _ _ _ _ _ hj hl hc h au
 ·exact F8 _ _ _ _ _ _ _ hj hl hc h au
 ·exact VI _ _ _ _ _ _ _ hj hl hc h au
 ·exact VI _ _ _ _ _ _ _ hj hl hc h au
 ·exact F8 _ _ _ _ _ _ _ hj hl hc h au
 ·exact aDo _ _ _ _ _ _ hj hl hc h
 ·exact aoU _ _ _ _ _ _ _ hj hl hc h au
 ·exact aoU _ _ _ _ _ _ _ hj hl hc h au
 ·exact aDp _ _ _ _ _ _ hj hl hc h
 ·exact F8 _ _ _ _ _ _ _ hj hl hc h au
 ·exact F8 _ _ _ _ _ _ _ hj hl hc h au
 ·exact VI _ _ _ _ _ _ _ hj hl hc h au
 ·exact F8 _ _ _ _ _ _ _ hj hl hc h au
 ·exact F8 _ _ _ _ _ _ _ hj hl hc h au
 ·exact aDq _ _ _ _ _ _ hj hl hc h
 ·exact aDr _ _ _ _ _ _ hj hl hc h
 ·exact aDs _ _ _ _ _ _ hj hl hc h
 ·exact F8 _ _ _ _ _ _ _ hj hl hc h au
def agl{α:Type}{p:Nat->α->Bool}:∀{l:List α} {i j:Nat} {x:α},UZ p l i=true->l[j]? =some x->p (i+j) x=true
 |[],_,j,_,_,h=>by simp at h
 |y::l,i,0,x,h,e=>by rw[UZ,FN] at h;cases e;exact h.1
 |y::l,i,j+1,x,h,e=>by
  rw[UZ,FN] at h;rw[List.getElem?_cons_succ] at e;have:=agl h.2 e
  rwa [show i+1+j=i+(j+1) by omega] at this
def avJ{k op:Int}{n:Nat}:∀{ks:List Tn} {j:Nat},(∀i t,ks[i]? =some t->BQ (cls k op n (j+i)) t.kind∧Fb t)->oks k op n ks j
 |[],_,_=>by rw[oks];trivial
 |t::ts,j,h=>by
  rw[oks];have h0:=h 0 t rfl;refine⟨h0.1,h0.2,avJ λi u hu=> ?_⟩;have:=h (i+1) u (by rw[List.getElem?_cons_succ];exact hu)
  rwa [show j+(i+1)=j+1+i by omega] at this
def ayA{l:List Nd}(hall:UZ (np l) l 0=true)(hsm:∀n,n∈l->Small n)(hkl:∀n,n∈l->n.kids.length<=400)(t:Tn):∀b,Lies l b t->Fb t:=by
 refine Tn.ind (P:=λt=>∀b,Lies l b t->Fb t) ?_ t;intro k op x y ks ih b h;have hr:=h.root;have hm:=BX hr;have hn:=agl hall hr;unfold np at hn;rw[FN] at hn;have hf:=(aj1 (hsm _ hm) (hkl _ hm)).1;rw[hn.1] at hf;have hc:=aDt hf;rw[aZ,eu] at hc;have hkn:=anD hf;rw[Fb];refine⟨hkn,hc,avJ λi u hu=>⟨?_,ih u (BX hu) _ (Lies.Pv h hu)⟩⟩;have he:=VF (b:=b) hu;have hlt:=(MG.1 hu).1;have hk:=agl hn.2 he;have hroot:=Lies.root' (Lies.Pv h hu);unfold kp at hk;rw[Uj] at hk;have hnd:(Yg l (b+sizes (ks.take i)+sizes u.kids)).kind=u.kind:=by rw[Yg,hroot]
 rw[hnd] at hk;have hko:=(aoQ (hsm _ hm) (hkl _ hm) hn.1 (0+i) (by rw[eu];omega) u.kind).1;rw[hk] at hko;have:=aDu (j:=0+i) hkn (by rw[aZ,eu];omega) (by rw[aZ];exact hkl _ hm) (by rw[aZ,eu];exact hc) hko;rw[aZ,eu] at this;exact this
def aoV{t:Tn}(h:VE (t.flat 0)=true)(hsm:∀n,n∈t.flat 0->Small n):Fb t:=by unfold VE at h;rw[FN,FN] at h;obtain⟨r,hv⟩:=ajZ h.1;exact ayA h.2.2 hsm hv.af7 t 0 (Lies.whole t)
def wK:List Nd->Nat
 |[]=>0
 |n::l=>4+n.kids.length+wK l
structure Ok(l:List Nd):Prop where
 len:l.length<=1048576
 kids:∀n,n∈l->n.kids.length<=1048576∧∀e,e∈n.kids->I64 e
 sm:∀n,n∈l->Small n
 w:wK l<=10000000
def Ok.k{l:List Nd}(h:Ok l):∀n,n∈l->n.kids.length<=1048576:=λn hn=>by have:=(h.kids n hn).1;omega
def aj9{l:List Nd}(h:VE l=true):Hu l=true:=by unfold VE at h;rw[FN] at h;exact h.1
def avK{l:List Nd}(hs:(l.length+wNs l:Int)<=1048576)(hf:∀n,n∈l->Fit n)(hl:l.length<=1048576)(hk:∀n,n∈l->n.kids.length<=1048576):Ok l:=by
 have hw:∀l:List Nd,wK l<=4 * l.length+wNs l:=by
  intro l;induction l with
  |nil=>exact Nat.le_refl _
  |cons n l ih=>rw[wK,wNs,wN,mV];omega
 have:=hw l;exact⟨hl,λn hn=>⟨hk n hn,(hf n hn).kid⟩,λn hn=>by have h1:=aeh hn;have h2:wN n=n.text.length+n.other.length+n.kids.length:=rfl;exact⟨au,au⟩,au⟩
def abU(o:Bool)(n:Nd):Row:=[.int .i64 n.kind,.int .i64 n.op,.str n.text,.sl o 1 (encI n.kids)]
def dh(o:Bool)(l:List Nd):aA:=l.map (abU o)
section
variable (o:Bool) (n:Nd) (l:List Nd) (i:Int)
@[simp] theorem jg:(dh o l).length=l.length:=by simp[dh]
@[simp] theorem aD1:idx (dh o l) i=(idx l i).map (abU o):=ad6 _ _ _
@[simp] theorem uM(j:Nat):(dh o l)[j]? =(l[j]?).map (abU o):=by simp[dh]
@[simp] theorem cD0:bI .i64 (abU o n) 0=some n.kind:=rfl
@[simp] theorem cD1:bI .i64 (abU o n) 1=some n.op:=rfl
@[simp] theorem cD2:cStr (abU o n) 2=some n.text:=rfl
@[simp] theorem cD3:PE 1 (abU o n) 3=some (encI n.kids):=rfl
@[simp] theorem anE:aQ (dh o l)=dh false l:=by
 induction l with
 |nil=>rfl
 |cons x l ih=>simp only[dh,OQ,aQ] at ih⊢;rw[ih];simp[abU,qg,D.fz,apy]
end
def OE(o:Bool)(a b:List Nd):dh o (a++b)=dh o a++dh o b:=by simp[dh]
def agm:∀l:List Nd,JX (dh true l)=true
 |[]=>rfl
 |n::l=>by have:dh true (n::l)=abU true n::dh true l:=rfl;rw[this,JX,agm l];simp[abU,dF,D.pure]
def arq(l:List Nd):[[D.sl true 4 (dh true l)]].all dF=true:=by simp[dF,D.pure,agm]
def ayB(l:List Nd)(o:Bool)(d:Int)(hl:l.length<=90000000)(hk:∀n,n∈l->n.kids.length<=90000000∧∀e,e∈n.kids-> -4000000000<=e+d∧e+d<=4000000000):
  M.qU (dh o l) d=some (dh true (l.map (Nd.up d))):=by
 simp only[M.qU,M.KE];have hloop:=jh (b:=M.EF (dh o l) d) (t:=((l.length:Int),dh true (l.map (Nd.up d)))) (λi=>((i:Int),dh true ((l.take i).map (Nd.up d)))) l.length
  (by
   intro i hi;obtain⟨n,hn⟩:∃n,l[i]? =some n:=⟨l[i],by simp[hi]⟩
   obtain⟨hkl,hke⟩:=hk n (BX hn);have hin:=jh (b:=M.ED (dh o l) d (i:Int) (dh true ((l.take i).map (Nd.up d))) n.kind n.op n.text) (t:=((n.kids.length:Int),encI (n.kids.map (· +d)))) (λj=>((j:Int),encI ((n.kids.take j).map (· +d)))) n.kids.length
    (by
     intro j hj;obtain⟨e,he⟩:∃e,n.kids[j]? =some e:=⟨n.kids[j],by simp[hj]⟩
     have:=hke e (BX he);simp only[jm,M.ED,M.yL,bJ,uM,hn,OJ,ah,cD3,aZ,lK,he,JW,List.length_map,Ui,J9];rw[zdt au,aS,aX au,aS,aX au,aS,aG au au,aG au au,gW he];simp[encI])
    (by simp only[jm,M.ED,M.yL,bJ,uM,hn,OJ,ah,cD3,aZ];rw[qw au,bG,List.take_length]) 0 (Nat.zero_le _)
   simp only[pY,List.take_zero,List.map_nil] at hin;have hin':M.IV (dh o l) d (i:Int) (dh true ((l.take i).map (Nd.up d))) n.kind n.op n.text (0,[])=some ((n.kids.length:Int),encI (n.kids.map (· +d))):=hin;simp only[jm,M.EF,M.yM,jg,bJ,uM,hn,OJ,ah,cD0,cD1,cD2,cD3,hin',MB,aS,List.length_map,Ui,J9];rw[zdt au,aS,aX au,aS,aX au,aS,aG au au,gW hn,List.map_append,OE];rfl)
  (by simp only[jm,M.EF,M.yM,jg];rw[qw au,bG,List.take_length]) 0 (Nat.zero_le _)
 simp only[pY,List.take_zero,List.map_nil] at hloop;have BM:M.IW (dh o l) d (0,[])=some ((l.length:Int),dh true (l.map (Nd.up d))):=hloop;rw[BM,ah]
def sJ(ts:List Tn):aA:=ts.map λt=>[.sl false 4 (dh false (t.flat 0))]
def akb(t:Tn)(n:Nd)(hn:n∈t.flat 0):n.kids.length<=t.size∧∀e,e∈n.kids->0<=e∧e<t.size:=by obtain⟨h1,h2⟩:=abP t 0 n hn;refine⟨au,λe he=> ?_⟩;have:=h2 e he;omega
def aoW(k op:Int)(ts:List Tn)(hs:sizes ts<=90000000):M.aH k op (sJ ts)=some (dh true ((Tn.mk k op [] [] ts).flat 0)):=by
 have htl:=jq ts;simp only[jm,M.aH,M.NH];have hpl:(sJ ts).length=ts.length:=by simp[sJ]
 have hloop:=jh (b:=M.Ac)
  (t:=if ts=[] then .inl (sJ ts,0,[],k,op,[]) else .inr (sJ ts,(ts.length:Int),dh true (kD ts 0),k,op,[],encI (ends ts 0)))
  (λj=>if j=0 then .inl (sJ ts,0,[],k,op,[]) else .inr (sJ ts,(j:Int),dh true (kD (ts.take j) 0),k,op,[],encI (ends (ts.take j) 0))) ts.length
  (by
   intro j hj;obtain⟨t,ht⟩:∃t,ts[j]? =some t:=⟨ts[j],by simp[hj]⟩
   have hst:=LV ht;have hp:=t.size_pos;have hr:(sJ ts)[j]? =some [.sl false 4 (dh false (t.flat 0))]:=by simp[sJ,ht]
   have c0:PE 4 [D.sl false 4 (dh false (t.flat 0))] 0=some (dh false (t.flat 0)):=rfl;have hfl:(dh true (kD (ts.take j) 0)).length=sizes (ts.take j):=by rw[jg,o9]
   have hsh:M.qU (dh false (t.flat 0)) ((sizes (ts.take j):Nat):Int)=some (dh true (t.flat (sizes (ts.take j)))):=by
    rw[ayB (t.flat 0) false _ (by rw[t.flat_length];omega) (λn hn=> ?_)]
    ·rw[t.apA 0 (sizes (ts.take j))];congr 4<;>omega
    ·obtain⟨h1,h2⟩:=akb t n hn;refine⟨au,λe he=> ?_⟩;have:=h2 e he;omega
   have hrl:(dh true (t.flat (sizes (ts.take j)))).length=t.size:=by rw[jg,t.flat_length]
   have hel:(encI (ends (ts.take j) 0)).length=j:=by rw[aZ,eu,Ui];omega
   rw[if_neg (show¬j+1=0 by omega),aiE ht,agb ht]
   by_cases h0:j=0
   ·subst h0;have hi:idx (sJ ts) 0=some [.sl false 4 (dh false (t.flat 0))]:=by have:=bJ (sJ ts) 0;rw[pY] at this;rw[this,hr]
    rw[if_pos rfl];have z:sizes (ts.take 0)=0:=rfl;rw[z] at hsh hrl;have z2:(([]:aA).length:Int)=((0:Nat):Int):=rfl;simp only[jm,M.Ac,M.wz,hpl,hi,ah,c0,z2,hsh,hrl,List.nil_append,um,Nat.zero_add];rw[zdt au,aS,aX au,aS,aX au,aS,aG au au,aG au au];simp[encI,dh,kD,ends,sizes]
   ·rw[if_neg h0];simp only[jm,M.Ac,M.wz,hpl,bJ,hr,ah,c0,hfl,hsh,hrl,hel,qx,J9];rw[zdt au,aS,aX au,aS,aX au,aS,aX au,aS,aX au,aS,aG au au,aG au au,OE,Nat.zero_add];simp[encI])
  (by
   by_cases h0:ts=[]
   ·rw[if_pos (by rw[h0];rfl),if_pos h0];subst h0;rfl
   ·have h1:¬ts.length=0:=λe=>h0 (List.length_eq_zero_iff.1 e)
    rw[if_neg h1,if_neg h0,List.take_length];simp only[jm,M.Ac,M.wz,hpl];rw[qw au,bG]) 0 (Nat.zero_le _)
 rw[if_pos rfl] at hloop;rw[M.KF,hloop,ah]
 by_cases h0:ts=[]
 ·rw[if_pos h0];subst h0;rfl
 ·rw[if_neg h0];simp only[ql,letE,MB,aS,jg,o9,J9];rw[aX au,aS,aX au,aS,Tn.flat,OE];rfl
mutual
def Bd(w:Bool):Tn->Row
 | .mk k n x _ ks=>[.int .i64 k,.int .i64 n,.str x,.sl w 5 (nK w ks),.int .i64 0]
def nK(w:Bool):List Tn->aA
 |[]=>[]
 |t::ts=>Bd w t::nK w ts
end
def XZ(w:Bool):∀ts:List Tn,nK w ts=ts.map (Bd w)
 |[]=>rfl
 |t::ts=>by rw[nK,XZ w ts];rfl
def xM(w:Bool)(a:List Tn):(nK w a).length=a.length:=by simp[XZ]
mutual
def ayC(w:Bool):∀t:Tn,qg (Bd w t)=Bd false t
 | .mk k n x y ks=>by have:=agn w ks;simp only[Bd,qg,D.fz,this]
def agn(w:Bool):∀ts:List Tn,aQ (nK w ts)=nK false ts
 |[]=>rfl
 |t::ts=>by rw[nK,aQ,ayC w t,agn w ts,nK]
end
def aUa(t:Tn):∀(f:Nat) (w:Bool) (p:List Nd),t.size<=f->p.length+t.size<=90000000->
  M.lu f t.kind t.op t.text (nK w t.kids) 0 (dh true p)=some (dh true (p++t.flat p.length)):=by
 refine Tn.ind (P:=λt=>∀(f:Nat) (w:Bool) (p:List Nd),t.size<=f->p.length+t.size<=90000000->M.lu f t.kind t.op t.text (nK w t.kids) 0 (dh true p)=some (dh true (p++t.flat p.length))) ?_ t;intro k op x y ks ih f w p hf hp;cases f with
 |zero=>rw[Tn.size] at hf;omega
 |succ f=>
  rw[Tn.size] at hf hp;have hkl:=jq ks;simp only[jm,M.lu,M.Ii,Tn.kids,Tn.kind,Tn.op,Tn.text,xM];have hrec:∀j t,ks[j]? =some t->M.lu f t.kind t.op t.text (nK w t.kids) 0 (dh true (p++kD (ks.take j) p.length))=some (dh true (p++kD (ks.take (j+1)) p.length)):=by
   intro j t hj;have hst:=LV hj;have hfl:(p++kD (ks.take j) p.length).length=p.length+sizes (ks.take j):=by rw[qx,o9]
   have:=ih t (BX hj) f w (p++kD (ks.take j) p.length) au (by rw[hfl];omega);rw[this,hfl,agb hj,BO]
  have hloop:=jh (b:=M.wC (M.lu f))
   (t:=if ks=[] then .inl (nK w ks,(ks.length:Int),0,dh true p,k,op,x) else .inr (nK w ks,(ks.length:Int),(ks.length:Int),dh true (p++kD ks p.length),k,op,x,encI (ends ks p.length)))
   (λj=>if j=0 then .inl (nK w ks,(ks.length:Int),0,dh true p,k,op,x) else .inr (nK w ks,(ks.length:Int),(j:Int),dh true (p++kD (ks.take j) p.length),k,op,x,encI (ends (ks.take j) p.length))) ks.length
   (by
    intro j hj;obtain⟨t,ht⟩:∃t,ks[j]? =some t:=⟨ks[j],by simp⟩
    have hr:=hrec j t ht;have hst:=LV ht;have hp1:=t.size_pos;have hg:(nK w ks)[j]? =some (Bd w t):=by rw[XZ];simp[ht]
    have hc0:bI .i64 (Bd w t) 0=some t.kind:=by cases t;rfl
    have hc1:bI .i64 (Bd w t) 1=some t.op:=by cases t;rfl
    have hc2:cStr (Bd w t) 2=some t.text:=by cases t;rfl
    have hc3:PE 5 (Bd w t) 3=some (nK w t.kids):=by cases t;rfl
    have hc4:bI .i64 (Bd w t) 4=some 0:=by cases t;rfl
    have hfl:(dh true (p++kD (ks.take (j+1)) p.length)).length=p.length+sizes (ks.take j)+t.size:=by rw[jg,qx,o9,gW ht,kW,sizes,sizes];omega
    rw[if_neg (show¬j+1=0 by omega),aiE ht]
    by_cases h0:j=0
    ·subst h0;rw[if_pos rfl];have hi:idx (nK w ks) 0=some (Bd w t):=by have:=bJ (nK w ks) 0;rw[pY] at this;rw[this,hg]
     have hr0:M.lu f t.kind t.op t.text (nK w t.kids) 0 (dh true p)=some (dh true (p++kD (ks.take (0+1)) p.length)):=by rw[<-hr];simp[kD]
     simp only[jm,M.wC,M.rU,hi,ah,hc0,hc1,hc2,hc3,hc4,hr0,hfl];rw[zdt au,aS,aG au au,aG au au];rfl
    ·rw[if_neg h0];simp only[jm,M.wC,M.rU,bJ,hg,ah,hc0,hc1,hc2,hc3,hc4,hr,hfl,aZ,eu,Ui,J9];rw[zdt au,aS,aX au,aS,aX au,aS,aG au au,aG au au];simp[encI])
   (by
    by_cases h0:ks.length=0
    ·have he:ks=[]:=List.length_eq_zero_iff.1 h0;rw[if_pos h0,if_pos he];simp only[jm,M.wC,M.rU];rw[qw au,bG]
    ·have he:¬ks=[]:=λe=>h0 (by rw[e];rfl)
     rw[if_neg h0,if_neg he,List.take_length];simp only[jm,M.wC,M.rU];rw[qw au,bG]) 0 (Nat.zero_le _)
  rw[if_pos rfl] at hloop;rw[M.Ld,hloop,ah]
  by_cases he:ks=[]
  ·rw[if_pos he];subst he;simp only[ql,jg,J9];rw[aX au,aS,aX au,aS,OE];rfl
  ·rw[if_neg he];simp only[ql,letE,jg,qx,o9,J9,MB,aS];rw[aX au,aS,aX au,aS,Tn.flat,<-BO];simp only[OE];rfl
def ZB{a b:Int×Int}(c:Bool)(ha:(1<=a.1∧a.1<=14)∧1<=a.2∧a.2<=14)(hb:(1<=b.1∧b.1<=14)∧1<=b.2∧b.2<=14):(1<=(bif c then a else b).1∧(bif c then a else b).1<=14)∧1<=(bif c then a else b).2∧(bif c then a else b).2<=14:=by cases c<;>assumption
def anF(op:Int):(1<=(sides op).1∧(sides op).1<=14)∧1<=(sides op).2∧(sides op).2<=14:=by unfold sides;exact ZB _ (by decide) (ZB _ (by decide) (ZB _ (by decide) (ZB _ (by decide) (ZB _ (by decide) (ZB _ (by decide) (ZB _ (by decide) (by decide)))))))
def akc(k op:Int)(j:Nat):1<=VG k op j∧VG k op j<=14:=by have h:=anF op;unfold VG;exact JR _ (JR _ (by decide) (by decide)) (JR _ (JR _ (by decide) (by decide)) (JR _ (by decide) (JR _ (by decide) (JR _ (JR _ h.1 h.2) (by decide)))))
def wI{k op:Int}{n j:Nat}{p:Ps}(hp:mY p=true)(hj:j<n)(hl:lvl k op≠0):mY (dP k op n j p)=true:=by
 have h1:Nat.blt j n=true:=by rw[Nat.blt_eq];exact hj
 have h2:(lvl k op==0)=false:=by simpa using hl
 unfold dP;rw[hp,h1,h2];simp only[Bool.not_true,Bool.or_false,bG];cases(lvl k op==15||(k==13 && Nat.blt 1 n)) with
 |true=>rfl
 |false=>
  have hr:=akc k op j;simp only[bG,mY];rw[zdt hr.1,zdt (show VG k op j<=15 by omega)]
  by_cases h6:k=6
  ·subst h6;rfl
  ·have:(k==6)=false:=by simpa using h6
   rw[this];rfl
def Xr{k op:Int}{n:Nat}{p q:Ps}(h:∀j,j<n->dP k op n j p=dP k op n j q):∀(ts:List Tn) (j:Nat),j+ts.length=n->jA k op n p ts j=jA k op n q ts j
 |[],_,_=>by rw[jA,jA]
 |t::ts,j,hj=>by rw[mV] at hj;rw[jA,jA,h j au,Xr h ts (j+1) au]
def ac1{k op:Int}{n:Nat}{p q:Ps}(h:∀j,j<n->dP k op n j p=dP k op n j q):∀(ts:List Tn) (j:Nat),j+ts.length=n->sH k op n p ts j=sH k op n q ts j
 |[],_,_=>by rw[sH,sH]
 |t::ts,j,hj=>by rw[mV] at hj;rw[sH,sH,h j au,ac1 h ts (j+1) au]
def Ip{k op:Int}{n j:Nat}{p:Ps}(hp:mY p=true)(hj:j<n)(hl:lvl k op=15):dP k op n j p=.top:=by
 have h1:Nat.blt j n=true:=by rw[Nat.blt_eq];exact hj
 unfold dP;rw[hp,h1,hl];rfl
def VJ{k op:Int}(h:13<=lvl k op)(he:1<=k∧k<=15):lvl k op=15∨k=6∨k=9∨k=10:=by
 have hk:k=1∨k=2∨k=3∨k=4∨k=5∨k=6∨k=7∨k=8∨k=9∨k=10∨k=11∨k=12∨k=13∨k=14∨k=15:=au;rcases hk with rfl|rfl|rfl|rfl|rfl|rfl|rfl|rfl|rfl|rfl|rfl|rfl|rfl|rfl|rfl
 all_goals first
  |(left;rfl)
  |(right;simp;done)
  |(exfalso;have h2:=(agf op).2;have h3:lvl 12 op=zn op:=rfl;omega)
  |(exfalso;revert h;simp[lvl];done)
def akd{k op:Int}(h:k=1∨k=5∨k=6):13<=lvl k op∧(1<=k∧k<=15):=by rcases h with rfl|rfl|rfl<;>simp[lvl]
def ac2{k op:Int}{a b c:Bool}{i j:Bool}(hl:lvl k op≠0):fits k op ⟨14,true,a,b,false⟩=fits k op ⟨14,true,i,j,false⟩:=by
 have e:∀a b,fits k op ⟨14,true,a,b,false⟩=(k==9||decide (14<=lvl k op)):=by
  intro a b;have h2:(lvl k op==0)=false:=by simpa using hl
  unfold fits;rw[h2,show mY ⟨14,true,a,b,false⟩=true from rfl];simp only[Bool.not_true,Bool.or_false,bG,Bool.false_and,Bool.true_and]
  by_cases h13:k=13
  ·subst h13;have:lvl 13 op=5:=rfl;rw[this];cases a<;>cases b<;>rfl
  ·have e13:(k==13)=false:=by simpa using h13
   rw[e13,Bool.and_false,bG]
   by_cases h12:k=12∧op=62
   ·obtain⟨rfl,rfl⟩:=h12;cases b<;>rfl
   ·have e12:(k==12 && op==62)=false:=by rw[Bool.and_eq_false_iff,MJ,MJ];omega
    rw[e12,Bool.and_false,bG]
 rw[e,e]
def aoX(t:Tn):(Fb t)->13<=lvl t.kind t.op->(Wh t)->∀p q,mY p=true->mY q=true->wH t p=wH t q:=by
 refine Tn.ind (P:=λt=>(Fb t)->13<=lvl t.kind t.op->(Wh t)->∀p q,mY p=true->mY q=true->wH t p=wH t q) ?_ t;intro k op x y ks ih hok hl he p q hp hq;simp only[Tn.kind,Tn.op] at hl;simp only[Wh,Tn.kind] at he;rw[wH,wH];congr 1;rcases VJ hl he with h|h
 ·exact Xr (λj hj=>by rw[Ip hp hj h,Ip hq hj h]) ks 0 au
 ·have hn:ks.length=1:=(Px hok).one au;obtain⟨u,rfl⟩:=zlo.1 hn;obtain⟨hue,huo⟩:=aaP hok he (i:=0) (t:=u) rfl;obtain⟨huc,_⟩:=LW hok (i:=0) (t:=u) rfl;have hlu:1<=lvl u.kind u.op∧lvl u.kind u.op<=15:=by cases u;exact TR hue (Px huo)
  have hlk:lvl k op≠0:=au;have kp:=wI (n:=[u].length) (j:=0) hp (by simp) hlk;have kq:=wI (n:=[u].length) (j:=0) hq (by simp) hlk;rw[jA,jA,jA,jA];congr 1;rcases h with rfl|h
  ·have e1:∀r:Ps,mY r=true->dP 6 op [u].length 0 r=⟨14,true,r.sF,r.sG,false⟩:=by intro r hr;unfold dP;rw[hr];rfl
   rw[e1 p hp] at kp⊢;rw[e1 q hq] at kq⊢;have ht:qh 6 0=false:=rfl;rw[ht,Bool.false_or,Bool.false_or,ac2 (c:=false) (i:=q.sF) (j:=q.sG) au];cases hf:fits u.kind u.op ⟨14,true,q.sF,q.sG,false⟩ with
   |false=>rfl
   |true=>
    have aDv:13<=lvl u.kind u.op:=by
     unfold fits at hf;revert hf;cases(!(mY ⟨14,true,q.sF,q.sG,false⟩)||lvl u.kind u.op==0)<;>cases(q.sF && u.kind==13)<;>cases(q.sG &&(u.kind==12 && u.op==62))<;>simp;intro hf;rcases hf with h9|h14
     ·rw[h9];exact(show(13:Int)<=13 by omega)
     ·omega
    rw[aS,aS];exact ih u (by simp) huo aDv hue _ _ kp kq
  ·have ht:qh k 0=true:=by rcases h with rfl|rfl<;>rfl
   rw[ht,Bool.true_or,aS,Bool.true_or,aS];have hc6:cls k op [u].length 0=6:=by unfold cls;rw[if_pos au]
   rw[hc6] at huc;exact ih u (by simp) huo (akd huc).1 hue _ _ kp kq
def aoY(t:Tn):(Fb t)->13<=lvl t.kind t.op->(Wh t)->∀p q,mY p=true->mY q=true->qj t p=qj t q:=by
 refine Tn.ind (P:=λt=>(Fb t)->13<=lvl t.kind t.op->(Wh t)->∀p q,mY p=true->mY q=true->qj t p=qj t q) ?_ t;intro k op x y ks ih hok hl he p q hp hq;simp only[Tn.kind,Tn.op] at hl;simp only[Wh,Tn.kind] at he;have hT:jA k op ks.length p ks 0=jA k op ks.length q ks 0∨k=6∨k=9∨k=10:=by
  rcases VJ hl he with h|h
  ·exact .inl (Xr (λj hj=>by rw[Ip hp hj h,Ip hq hj h]) ks 0 au)
  ·exact .inr h
 rw[qj,qj];have hg:∀g g' L,k≠11->Xo k op ks.length x g L=Xo k op ks.length x g' L:=by
  intro g g' L h11;have:(k==11)=false:=by simpa using h11
  unfold Xo;rw[this];rfl
 have h11:k≠11:=by
  rcases VJ hl he with h|h
  ·rintro rfl;exact absurd h (by change¬(11:Int)=15;decide)
  ·omega
 rw[hg _ (aiF op (jA k op ks.length q ks 0)) _ h11];congr 1;rcases VJ hl he with h|h
 ·exact ac1 (λj hj=>by rw[Ip hp hj h,Ip hq hj h]) ks 0 au
 ·have hn:ks.length=1:=(Px hok).one au;obtain⟨u,rfl⟩:=zlo.1 hn;obtain⟨hue,huo⟩:=aaP hok he (i:=0) (t:=u) rfl;obtain⟨huc,_⟩:=LW hok (i:=0) (t:=u) rfl;have hlu:1<=lvl u.kind u.op∧lvl u.kind u.op<=15:=by cases u;exact TR hue (Px huo)
  have hlk:lvl k op≠0:=au;have kp:=wI (n:=[u].length) (j:=0) hp (by simp) hlk;have kq:=wI (n:=[u].length) (j:=0) hq (by simp) hlk;rw[sH,sH,sH,sH];congr 1;rcases h with rfl|h
  ·have e1:∀r:Ps,mY r=true->dP 6 op [u].length 0 r=⟨14,true,r.sF,r.sG,false⟩:=by intro r hr;unfold dP;rw[hr];rfl
   rw[e1 p hp] at kp⊢;rw[e1 q hq] at kq⊢;have ht:qh 6 0=false:=rfl;rw[ht,Bool.false_or,Bool.false_or,ac2 (c:=false) (i:=q.sF) (j:=q.sG) au];cases hf:fits u.kind u.op ⟨14,true,q.sF,q.sG,false⟩ with
   |false=>rfl
   |true=>
    have aDv:13<=lvl u.kind u.op:=by
     unfold fits at hf;revert hf;cases(!(mY ⟨14,true,q.sF,q.sG,false⟩)||lvl u.kind u.op==0)<;>cases(q.sF && u.kind==13)<;>cases(q.sG &&(u.kind==12 && u.op==62))<;>simp;intro hf;rcases hf with h9|h14
     ·rw[h9];exact(show(13:Int)<=13 by omega)
     ·omega
    rw[aS,aS];exact ih u (by simp) huo aDv hue _ _ kp kq
  ·have ht:qh k 0=true:=by rcases h with rfl|rfl<;>rfl
   rw[ht,Bool.true_or,aS,Bool.true_or,aS];have hc6:cls k op [u].length 0=6:=by unfold cls;rw[if_pos au]
   rw[hc6] at huc;exact ih u (by simp) huo (akd huc).1 hue _ _ kp kq
def ZC{α:Type}(a b:Bool)(x y:α):(bif a||b then x else y)=bif a then x else bif b then x else y:=by cases a<;>rfl
def ake{α:Type}(a b:Bool)(x y:α):(bif a && b then x else y)=bif a then(bif b then x else y) else y:=by cases a<;>rfl
def U3{α:Type}(a:Bool)(x y:α):some (bif a then x else y)=bif a then some x else some y:=by cases a<;>rfl
def VK(op:Int):M.nH op=some (zn op)∧M.uS op=some (zn op):=by simp only[M.nH,M.Ib,M.uS,M.Nz,zn,ZC,U3];constructor<;>first|trivial|rfl
def VL(k op:Int)(x y:aC)(r:aA):M.og k op x y r=some (lvl k op)∧M.dH k op x y r=some (lvl k op):=by simp only[M.og,M.NY,M.dH,M.NC,lvl,ZC,U3,(VK op).1,(VK op).2,ah];constructor<;>first|trivial|rfl
def aaS(p:Ps):M.BD p.level p.mG p.sF p.sG p.lD=some (mY p)∧M.Bo p.level p.mG p.sF p.sG p.lD=some (mY p):=by simp only[M.BD,M.Ro,M.Bo,M.Rk,fU,dI,ah,mY,ge_iff_le];cases(decide (1<=p.level) && decide (p.level<=15))<;>cases p.mG<;>exact⟨rfl,rfl⟩
def BN:M.tX=some (1,false,false,false,false)∧M.gX=some (1,false,false,false,false):=⟨rfl,rfl⟩
def ayD(k op:Int)(p:Ps):fits k op p=bif !(mY p) then false else bif lvl k op==0 then false else bif p.sF && k==13 then false else bif p.sG &&(k==12 && op==62) then false else
  bif p.lD &&(k==11||(k==9||k==4)) then false else bif p.mG && k==9 then true else decide (p.level<=lvl k op):=by
 unfold fits;rw[ZC];cases(p.mG && k==9)<;>rfl
def aei(k op:Int)(x y:aC)(r:aA)(p:Ps):M.FU k op x y r p.level p.mG p.sF p.sG p.lD=some (fits k op p)∧M.FT k op x y r p.level p.mG p.sF p.sG p.lD=some (fits k op p):=by rw[ayD];simp only[M.FU,M.TL,M.FT,M.TJ,(VL k op x y r).1,(VL k op x y r).2,(aaS p).1,(aaS p).2,ah,ZC,ake,U3];constructor<;>first|trivial|rfl
def nb0(j:Nat):((j:Int)==0)=Nat.beq j 0:=by cases j<;>rfl
def nb1(j:Nat):((j:Int)==1)=Nat.beq j 1:=by
 rcases j with _|_|j
 ·rfl
 ·rfl
 ·rw[MJ.2 au];rfl
def gt0(j:Nat):decide ((j:Int)>0)= !(Nat.beq j 0):=by
 cases j with
 |zero=>rfl
 |succ j=>rw[zdt au];rfl
def anG(op:Int)(j:Nat):M.xZ op (j:Int)=some (bif Nat.beq j 0 then(sides op).1 else(sides op).2):=by simp only[M.xZ,M.KX,(VK op).1,ah,nb0,sides];cases zn op==3<;>cases zn op==4<;>cases zn op==6<;>cases zn op==7<;>cases zn op==8<;>cases zn op==9<;>cases zn op==10<;>cases Nat.beq j 0<;>rfl
def aoZ(op:Int):M.xE op=some (sides op):=by simp only[M.xE,M.NI,(VK op).2,ah,sides,U3]
def anH(k op:Int)(x y:aC)(r:aA)(j:Nat):M.uV k op x y r (j:Int)=some (VG k op j):=by simp only[M.uV,M.KY,anG,ah,VG,gt0];cases k==15<;>cases k==14<;>cases k==13<;>cases k==11<;>cases k==12<;>cases Nat.beq j 0<;>rfl
def Ps.BU(p:Ps):Int×Bool×Bool×Bool×Bool:=(p.level,p.mG,p.sF,p.sG,p.lD)
def ap3(j n:Nat)(h:n<=1048576):(decide ((j:Int)>=0) && decide ((j:Int)<=i64.wrap ((n:Int) - 1)))=Nat.blt j n:=by
 rw[aG au au];cases hb:Nat.blt j n with
 |true=>rw[Nat.blt_eq] at hb;rw[zdt au,zdt au];rfl
 |false=>
  have:¬j<n:=by rw[<-Nat.blt_eq,hb];simp
  rw[qw (show¬(j:Int)<=(n:Int) - 1 by omega),Bool.and_false]
def many(n:Nat):decide ((n:Int)>1)=Nat.blt 1 n:=by
 cases hb:Nat.blt 1 n with
 |true=>rw[Nat.blt_eq] at hb;exact zdt au
 |false=>
  have:¬1<n:=by rw[<-Nat.blt_eq,hb];simp
  exact qw au
def Xt(k op:Int)(x y:aC)(r:aA)(j:Nat)(p:Ps)(hr:r.length<=1048576):M.x9 k op x y r (j:Int) p.level p.mG p.sF p.sG p.lD=some (dP k op r.length j p).BU:=by
 simp only[M.x9,M.Qj,(aaS p).1,dI,(VL k op x y r).1,anH,BN.1,ah,ap3 j r.length hr,many,nb0,nb1,dP];cases mY p with
 |false=>rfl
 |true=>
  cases Nat.blt j r.length with
  |false=>rfl
  |true=>
   cases hz:(lvl k op==0) with
   |true=>rfl
   |false=>
    cases h15:(lvl k op==15) with
    |true=>rfl
    |false=>
     simp only[Bool.not_true,bG,Bool.false_or];have fin:∀z:Int,(bif k==11 then some (z,k==6,p.sF,p.sG,false) else bif k==9 then some (z,k==6,p.sF,p.sG,false) else bif k==10 then some (z,k==6,p.sF,p.sG,false) else bif k==6 then some (z,k==6,p.sF,p.sG,false) else
       bif Nat.beq j 0 then(bif p.lD then some (z,k==6,p.sF,p.sG,true) else bif Nat.beq j 1 then(bif k==12 then some (z,k==6,p.sF,p.sG,op==99) else some (z,k==6,p.sF,p.sG,false)) else some (z,k==6,p.sF,p.sG,false)) else
       bif Nat.beq j 1 then(bif k==12 then some (z,k==6,p.sF,p.sG,op==99) else some (z,k==6,p.sF,p.sG,false)) else some (z,k==6,p.sF,p.sG,false))=
       some (z,k==6,p.sF,p.sG,bif k==11||(k==9||(k==10||k==6)) then false else(Nat.beq j 0 && p.lD)||(Nat.beq j 1 &&(k==12 && op==99))):=by
      intro z;cases h11:(k==11) with
      |true=>rfl
      |false=>cases h9:(k==9) with
       |true=>rfl
       |false=>cases h10:(k==10) with
        |true=>rfl
        |false=>cases h6:(k==6) with
         |true=>rfl
         |false=>simp only[bG,Bool.or_false];cases Nat.beq j 0<;>cases p.lD<;>cases Nat.beq j 1<;>cases(k==12)<;>simp
     cases h13:(k==13) with
     |true=>
      cases Nat.blt 1 r.length with
      |true=>rfl
      |false=>exact fin _
     |false=>exact fin _
def ac3(k op:Int)(x y:aC)(r:aA)(j:Nat):M.qX k op x y r (j:Int)=some (qh k j):=by simp only[M.qX,M.KZ,nb0,qh];cases Nat.beq j 0<;>cases k==9<;>cases k==10<;>rfl
def lZ(k:Int)(hk:I64 k):M.ji k=some (k,spell k,0)∧M.dL k=some (k,spell k,0):=by simp only[M.ji,M.TM,M.dL,M.P9,(nP k hk).1,(nP k hk).2,ah];constructor<;>first|trivial|rfl
end Go.Proofs.YtbpldgeajbfgnaaGreatDoor
