import Derived.Test.YtbgadfelmhoheaaGreatDoorZCommon
import Derived.Test.YtbgadfelmhoheaaGreatDoorVm4
set_option linter.defProp false
namespace Go.Proofs.YtbgadfelmhoheaaGreatDoor
set_option linter.unusedVariables false
set_option linter.unusedSimpArgs false
open Go Go.Vm
open Go.IntKind (i64)
def Qu(x lo hi:Int):M.aV x lo hi=some (decide (lo<=x) && decide (x<=hi)):=by
 simp only[M.aV,M.wM]
 by_cases h:lo<=x
 ·rw[zdt (show x>=lo from h)];rfl
 ·rw[qN (show¬x>=lo from h)];rfl
def ahJ:∀k:List Int,aeB (encI k)=some k
 |[]=>rfl
 |x::k=>by have:encI (x::k)=[D.int .i64 x]::encI k:=rfl;rw[this];simp only[aeB,ahJ k,He]
def nk(n:Nd):Nk:=⟨n.kind,n.op,⟨⟨n.text⟩⟩,⟨⟨n.other⟩⟩,n.kids⟩
def XT(o:Bool):∀l:List Nd,(∀n,n∈l->n.kids.length<=1048576)->QJ (aQ o l)=some (l.map nk)
 |[],_=>rfl
 |n::l,h=>by
  have:aQ o (n::l)=KN o n::aQ o l:=rfl;rw[this,QJ];have hk:ajh (KN o n)=some (nk n):=by simp only[KN,ajh,ahJ,ah];rw[if_pos (h n zmf)];rfl
  rw[hk,ah,XT o l (λm hm=>h m (zmm _ hm))];rfl
def ash(l:List Nd):(l.map nk).map (·.kids)=ks l:=by simp[ks,nk]
def Zz(l:List Nd)(o:Bool)(hl:l.length<=1048576)(hk:∀n,n∈l->n.kids.length<=1048576):M.wF (aQ o l)=some (Dt l):=by
 simp only[M.wF,M.Iw,M.fM,XT o l hk,ah,ash,List.length_map];rw[if_pos hl,Dt];cases mM (ks l) with
 |none=>rfl
 |some st=>rfl
def WJ(l:List Nd)(o:Bool){i:Nat}{n:Nd}{st:List Int}(hi:l[i]? =some n)(hl:l.length<=1048576)(hkl:n.kids.length<=1048576)(hst:TA st)(hs:st.length=i):
  ∀(j:Nat) (a:Int),j<=n.kids.length->0<=a->a<=i->M.pY (aQ o l) (i:Int) (encI st) (a,(j:Int) - 1)=some (match dH st (n.kids.take j).reverse (a - 1) with
   |none=> .inl ()
   |some r=> .inr (r+1, -1))
 |0,a,hj,h0,h1=>by rw[M.pY];apply dP;simp only[M.zY,M.uI];rw[qN (by omega),cu,List.take_zero,List.reverse_nil,dH];simp
 |j+1,a,hj,h0,h1=>by
  have hlt:i<l.length:=(G9.1 hi).1;obtain⟨k,hk⟩:∃k,n.kids[j]? =some k:=⟨n.kids[j]'(by omega),by simp⟩
  have ht:(n.kids.take (j+1)).reverse=k::(n.kids.take j).reverse:=by rw[List.take_add_one,hk,Option.toList_some,List.reverse_append];rfl
  rw[ht,dH];have e1:(((j+1:Nat):Int) - 1)=(j:Int):=by omega
  rw[e1];have hstep:M.zY (aQ o l) (i:Int) (encI st) (a,(j:Int))=if a - 1<0∨k≠a - 1 then some (.inr (.inl ())) else some (.inl (st[k.toNat]?.getD 0,(j:Int) - 1)):=by
   simp only[M.zY,M.uI,bU,jK,hi,He,ah,Jo,kU,hk,MI];rw[zdt (by omega),aT,aC (n:=a - 1) (by omega) (by omega)]
   by_cases h2:k=a - 1
   ·have:(k !=a - 1)=false:=by simp[h2]
    rw[this,cu]
    by_cases h3:a=0
    ·have:(a==0)=true:=by simp[h3]
     rw[this,aT,if_pos (.inl (by omega))]
    ·have:(a==0)=false:=by simp[h3]
     rw[this,cu,if_neg (by omega)];obtain⟨d,hd⟩:∃d:Nat,a - 1=(d:Int):=⟨(a - 1).toNat,by omega⟩
     have hdl:d<st.length:=by omega
     rw[h2,hd];simp only[aaW,bU,kU,QS];rw[List.getElem?_eq_getElem hdl];simp only[He,ah,MI,Option.getD_some];rw[aC (by omega) (by omega)]
   ·have:(k !=a - 1)=true:=by simp[h2]
    rw[this,aT,if_pos (.inr h2)]
  by_cases hc:a - 1<0∨k≠a - 1
  ·rw[if_pos hc];rw[if_pos hc] at hstep;exact dP hstep
  ·rw[if_neg hc];rw[if_neg hc] at hstep;rw[M.pY,gQ hstep];have hz:=Nh hst k.toNat;have:=WJ l o hi hl hkl hst hs j (st[k.toNat]?.getD 0) (by omega) hz.1 (by omega);rw[M.pY] at this;exact this
def OL(l:List Nd)(o:Bool)(hl:l.length<=1048576)(hk:∀n,n∈l->n.kids.length<=1048576):∀(rest:List Nd) (i:Nat) (st:List Int),l.drop i=rest->st.length=i->i<=l.length->TA st->
  M.qg (aQ o l) ((i:Int),encI st)=some (match dR st (ks rest) with
   |none=> .inl ()
   |some r=> .inr ((l.length:Int),encI r))
 |[],i,st,hd,hs,hi,hst=>by
  have:l.length<=i:=List.drop_eq_nil_iff.1 hd;rw[M.qg];apply dP;simp only[lK,M.zZ,M.uJ,dn];rw[qN (by omega),cu];have:i=l.length:=by omega
  subst this;rfl
 |n::rest,i,st,hd,hs,hi,hst=>by
  have hn:l[i]? =some n:=by
   have:(l.drop i)[0]? =some n:=by rw[hd];rfl
   simpa using this
  have hlt:i<l.length:=(G9.1 hn).1;have hd':l.drop (i+1)=rest:=by rw[<-List.drop_drop,hd];rfl
  have hkn:=hk n (Gy hn);have hin:=WJ l o hn hl hkn hst hs n.kids.length (i:Int) (Nat.le_refl _) (by omega) (by omega);rw[List.take_length] at hin;have hks:ks (n::rest)=n.kids::ks rest:=rfl;rw[hks,dR,hs];have hstep:M.zZ (aQ o l) ((i:Int),encI st)=some (match dH st n.kids.reverse ((i:Int) - 1) with
    |none=> .inr (.inl ())
    |some a=> .inl (((i+1:Nat):Int),encI (st++[a+1]))):=by
   simp only[lK,M.zZ,M.uJ,dn,bU,jK,hn,He,ah,Jo,aU];rw[zdt (by omega),aT,aC (n:=(n.kids.length:Int) - 1) (by omega) (by omega),hin];cases hw:dH st n.kids.reverse ((i:Int) - 1) with
   |none=>rfl
   |some a=>simp only[ah,qR,letE,LJ];rw[bn (by omega),aT,bn (by omega),aT,aC (by omega) (by omega)];simp[encI]
  cases hw:dH st n.kids.reverse ((i:Int) - 1) with
  |none=>rw[hw] at hstep;exact dP hstep
  |some a=>rw[hw] at hstep;rw[M.qg,gQ hstep];have hr:=Du hst _ _ _ (by omega) (by omega) hw;have:=OL l o hl hk rest (i+1) (st++[a+1]) hd' (by simp[hs]) hlt (Pz hst hr.1 hr.2);rw[M.qg] at this;exact this
def QK(l:List Nd)(o:Bool)(hl:l.length<=1048576)(hk:∀n,n∈l->n.kids.length<=1048576):M.qx (aQ o l)=some (Dt l):=by
 simp only[M.qx,M.H6,Qu,ah,dn]
 by_cases h1:1<=l.length∧l.length<=400
 ·have hb:(decide ((1:Int)<=(l.length:Int)) && decide ((l.length:Int)<=400))=true:=by simp;omega
  rw[hb,Bool.not_true,cu];have h:=OL l o hl hk l 0 [] rfl rfl (Nat.zero_le _) Nj;have e0:((0:Nat):Int)=0:=rfl;rw[e0] at h;simp only[M.mO,M.AO];rw[show([]:au)=encI [] from rfl,h,Dt,mM,if_pos (by rw[GR];exact h1)];cases hs:dR [] (ks l) with
  |none=>rfl
  |some r=>
   have hrl:r.length=l.length:=by have:=Ql _ _ _ hs;rw[GR] at this;simpa using this
   simp only[ah,qR,letE,Bh,aT];rw[aC (by omega) (by omega),show(l.length:Int) - 1=((l.length - 1:Nat):Int) by omega];simp only[aaW,bU,kU,QS];rw[List.getElem?_eq_getElem (by omega)];simp only[He,ah,MI,Option.getD_some]
 ·have hb:(decide ((1:Int)<=(l.length:Int)) && decide ((l.length:Int)<=400))=false:=by
   cases hq:(decide ((1:Int)<=(l.length:Int)) && decide ((l.length:Int)<=400)) with
   |false=>rfl
   |true=>simp at hq;omega
  rw[hb,Bool.not_false,aT,Dt,mM,if_neg (by rw[GR];exact h1)]
def adx{st:List Int}(h:TA st):∀(l:List Int) (a r:Int),a<st.length->dH st l a=some r->∀k,k∈l->0<=k∧k<st.length
 |[],a,r,h1,e,k,hk=>absurd hk List.not_mem_nil
 |x::l,a,r,h1,e,k,hk=>by
  rw[dH] at e;split at e
  ·cases e
  ·rename_i hc;have hz:=Nh h x.toNat;rcases List.mem_cons.1 hk with rfl|hk
   ·omega
   ·exact adx h l _ r (by omega) e k hk
def Y1:∀(l:List (List Int)) (st r:List Int),TA st->dR st l=some r->∀(i:Nat) n,l[i]? =some n->∀k,k∈n->0<=k∧k<st.length+i
 |[],st,r,h0,h,i,n,hn=>by simp at hn
 |m::l,st,r,h0,h,i,n,hn=>by
  rw[dR] at h;split at h
  ·cases h
  ·rename_i a ha;have hr:=Du h0 _ _ _ (by omega) (by omega) ha;cases i with
   |zero=>simp only[List.getElem?_cons_zero,eX] at hn;subst hn;intro k hk;have:=adx h0 _ _ _ (by omega) ha k (List.mem_reverse.2 hk);omega
   |succ i=>simp only[List.getElem?_cons_succ] at hn;intro k hk;have:=Y1 l _ r (Pz h0 hr.1 hr.2) h i n hn k hk;simp at this;omega
def alO{l:List Nd}(h:Dt l=true):1<=l.length∧l.length<=400:=by
 unfold Dt at h;cases hs:mM (ks l) with
 |none=>rw[hs] at h;cases h
 |some r=>
  unfold mM at hs;split at hs
  ·rename_i hq;rw[GR] at hq;exact hq
  ·cases hs
def Uj:∀(l:List (List Int)) (st r:List Int),dR st l=some r->∃t,r=st++t
 |[],st,r,h=>by rw[dR] at h;cases h;exact⟨[],by simp⟩
 |n::l,st,r,h=>by
  rw[dR] at h;split at h
  ·cases h
  ·obtain⟨t,ht⟩:=Uj l _ r h;exact⟨_,by rw[ht,Bf]⟩
def ahK{st t:List Int}(h:TA st):∀(ks:List Int) (a:Int),a<st.length->dH (st++t) ks a=dH st ks a
 |[],a,_=>rfl
 |k::ks,a,ha=>by
  rw[dH,dH];split
  ·rfl
  ·rename_i hc;have hk:k.toNat<st.length:=by omega
   have e:(st++t)[k.toNat]? =st[k.toNat]? :=List.getElem?_append_left hk;rw[e];have hz:=Nh h k.toNat;exact ahK h ks _ (by omega)
def ady:∀(l:List (List Int)) (st r:List Int),TA st->dR st l=some r->∀(i:Nat) n,l[i]? =some n->∃a,dH r n.reverse ((st.length:Int)+i - 1)=some a∧r[st.length+i]? =some (a+1)
 |[],st,r,h0,h,i,n,hn=>by simp at hn
 |m::l,st,r,h0,h,i,n,hn=>by
  rw[dR] at h;split at h
  ·cases h
  ·rename_i a ha;have hr:=Du h0 _ _ _ (by omega) (by omega) ha;obtain⟨t,ht⟩:=Uj l _ r h;cases i with
   |zero=>
    simp only[List.getElem?_cons_zero,eX] at hn;subst hn;refine⟨a, ?_, ?_⟩
    ·rw[ht,Bf,ahK h0 _ _ (by simp;omega)];simpa using ha
    ·rw[ht];simp
   |succ i=>
    simp only[List.getElem?_cons_succ] at hn;obtain⟨b,h1,h2⟩:=ady l _ r (Pz h0 hr.1 hr.2) h i n hn;refine⟨b, ?_, ?_⟩
    ·rw[<-h1];congr 1;simp;omega
    ·rw[<-h2];congr 1;simp;omega
def RX:List Int->Int
 |[]=>0
 |x::l=>x+RX l
def Y2:∀(a b:List Int),RX (a++b)=RX a+RX b
 |[],b=>by simp[RX]
 |x::a,b=>by rw[Uo,RX,RX,Y2 a b];omega
def WM:∀l:List Int,RX l.reverse=RX l
 |[]=>rfl
 |x::l=>by rw[List.reverse_cons,Y2,WM l];simp[RX];omega
def sz(r:List Int)(k:Int):Int:=k - (r[k.toNat]?.getD 0)+1
def ahL(r:List Int):∀(ks:List Int) (a b:Int),dH r ks a=some b->RX (ks.map (sz r))=a - b
 |[],a,b,h=>by rw[dH] at h;cases h;simp[RX]
 |k::ks,a,b,h=>by
  rw[dH] at h;split at h
  ·cases h
  ·rename_i hc;have:=ahL r ks _ b h;rw[TN,RX,this,sz];omega
structure Val(l:List Nd)(r:List Int):Prop where
 st:dR [] (ks l)=some r
 pos:1<=l.length
 le:l.length<=400
def abx{l:List Nd}(h:Dt l=true):∃r,Val l r:=by
 have hl:=alO h;unfold Dt at h;cases hs:mM (ks l) with
 |none=>rw[hs] at h;cases h
 |some r=>
  unfold mM at hs;split at hs
  ·exact⟨r,hs,hl.1,hl.2⟩
  ·cases hs
section
variable {l:List Nd} {r:List Int}
def Val.len(h:Val l r):r.length=l.length:=by have:=Ql _ _ _ h.st;rw[GR] at this;simpa using this
def Val.ok(h:Val l r):TA r:=XA _ _ _ Nj h.st
def Val.kids(h:Val l r){i:Nat}{n:Nd}(hn:l[i]? =some n):∀k,k∈n.kids->0<=k∧k<i:=by have:=Y1 _ _ _ Nj h.st i n.kids (by simp[ks,hn]);simpa using this
def Val.sum(h:Val l r){i:Nat}{n:Nd}(hn:l[i]? =some n):RX (n.kids.map (sz r))+1=sz r i:=by obtain⟨a,h1,h2⟩:=ady _ _ _ Nj h.st i n.kids (by simp[ks,hn]);have:=ahL r _ _ _ h1;rw[List.map_reverse,WM] at this;simp at h2;rw[this,sz,QS,h2];simp;omega
def Val.aoX(h:Val l r){k:Int}(h0:0<=k):1<=sz r k∧sz r k<=k+1:=by have:=Nh h.ok k.toNat;rw[sz];omega
end
def aby(l:List Nd)(i:Nat):List Int:=match l[i]? with|some n=>n.kids|none=>[]
def Jw{l:List Nd}{i:Nat}{n:Nd}(h:l[i]? =some n):aby l i=n.kids:=by rw[aby,h]
def mx:Int->List Int->Int
 |a,[]=>a
 |a,x::l=>mx (bif decide (a<x) then x else a) l
def abz(B:Int):∀(l:List Int) (a:Int),a<=B->(∀x,x∈l->x<=B)->a<=mx a l∧mx a l<=B
 |[],a,h,_=>⟨Int.le_refl _,h⟩
 |x::l,a,h,hl=>by
  have hx:=hl x zmf;rw[mx]
  by_cases c:a<x
  ·rw[zdt c,aT];have:=abz B l x hx λy hy=>hl y (zmm _ hy)
   omega
  ·rw[qN c,cu];exact abz B l a h λy hy=>hl y (zmm _ hy)
def aeN:∀(l:List Int) (a x:Int),mx a (l++[x])=(bif decide (mx a l<x) then x else mx a l)
 |[],a,x=>rfl
 |y::l,a,x=>by rw[Uo,mx,mx,aeN l]
def aoY:∀(l:List Int) (a:Int),mx (1+a) (l.map λd=>1+d)=1+mx a l
 |[],a=>rfl
 |x::l,a=>by
  rw[TN,mx,mx,<-aoY l]
  by_cases c:a<x
  ·rw[zdt c,aT,zdt (by omega),aT]
  ·rw[qN c,cu,qN (by omega),cu]
def dep(l:List Nd):Nat->Nat->Int
 |0,_=>0
 |f+1,i=>mx 0 ((aby l i).map λk=>dep l f k.toNat)+1
def XU(l:List Nd):∀f i,0<=dep l f i∧dep l f i<=f
 |0,i=>by simp[dep]
 |f+1,i=>by have:=abz (f:Int) ((aby l i).map λk=>dep l f k.toNat) 0 (by omega) (λx hx=>by obtain⟨k,_,rfl⟩:=List.mem_map.1 hx;exact(XU l f k.toNat).2);rw[dep];omega
section
variable {l:List Nd} {r:List Int} {o:Bool}
def ahM(h:Val l r):∀(f f' i:Nat),i<f->i<f'->i<l.length->dep l f i=dep l f' i
 |0,_,i,h1,_,_=>absurd h1 (Nat.not_lt_zero _)
 |f+1,0,i,_,h2,_=>absurd h2 (Nat.not_lt_zero _)
 |f+1,f'+1,i,h1,h2,h3=>by
  obtain⟨n,hn⟩:∃n,l[i]? =some n:=⟨l[i],by simp⟩
  rw[dep,dep,Jw hn];congr 2;refine List.map_congr_left λk hk=> ?_
  have hkr:=h.kids hn k hk;exact ahM h f f' k.toNat (by omega) (by omega) (by omega)
def abA(l:List Nd)(i:Nat):List Int:=(List.range i).map λj=>dep l (j+1) j
def aoZ(l:List Nd)(i:Nat):(abA l i).length=i:=by simp[abA]
def ahN(l:List Nd){i j:Nat}(h:j<i):(abA l i)[j]? =some (dep l (j+1) j):=by simp[abA,List.getElem?_range h]
def alP(l:List Nd)(i:Nat):abA l (i+1)=abA l i++[dep l (i+1) i]:=by simp[abA,List.range_succ]
def ahO(h:Val l r){i:Nat}{n:Nd}(hn:l[i]? =some n)(hk:n.kids.length<=1048576):M.AP (aQ o l) (i:Int) (encI (abA l i)) (1,0)=some (dep l (i+1) i,(n.kids.length:Int)):=by
 have hil:=(G9.1 hn).1;have hle:=h.le;have hdk:∀k,k∈n.kids->dep l i k.toNat=dep l (k.toNat+1) k.toNat:=λk hkm=>by have:=h.kids hn k hkm;exact ahM h _ _ _ (by omega) (by omega) (by omega)
 have hval:∀(j:Nat),(1:Int)+mx 0 ((n.kids.take j).map λk=>dep l i k.toNat)=mx 1 ((n.kids.take j).map λk=>1+dep l i k.toNat):=λj=>by have:=aoY ((n.kids.take j).map λk=>dep l i k.toNat) 0;rw[List.map_map] at this;exact this.symm
 have hloop:=fF (b:=M.BO (aQ o l) (i:Int) (encI (abA l i))) (t:=(dep l (i+1) i,(n.kids.length:Int))) (λj=>(mx 1 ((n.kids.take j).map λk=>1+dep l i k.toNat),(j:Int))) n.kids.length
  (by
   intro j hj;obtain⟨k,hkj⟩:∃k,n.kids[j]? =some k:=⟨n.kids[j],by simp⟩
   have hkm:=Gy hkj;have hkr:=h.kids hn k hkm;obtain⟨q,hq⟩:∃q:Nat,k=q:=⟨k.toNat,by omega⟩
   have hd:=hdk k hkm;have hr:=XU l (q+1) q;subst hq;rw[QS] at hd;simp only[M.BO,M.wO,bU,jK,hn,He,ah,Jo,aU,kU,hkj,MI,QS,ahN l (show q<i by omega)];rw[zdt (by omega),aT,aC (n:=(j:Int)+1) (by omega) (by omega),aC (n:=1+dep l (q+1) q) (by omega) (by omega),List.take_add_one,hkj,Option.toList_some,List.map_append,TN,List.map_nil,aeN,QS,hd];rfl)
  (by simp only[M.BO,M.wO,bU,jK,hn,He,ah,Jo,aU];rw[qN (by omega),cu,<-hval,List.take_length,dep,Jw hn,Int.add_comm]) 0 (Nat.zero_le _)
 rw[M.AP];exact hloop
def depth(l:List Nd):Int:=if Dt l then dep l l.length (l.length - 1) else 0
def ZA(l:List Nd)(o:Bool)(hl:l.length<=1048576)(hk:∀n,n∈l->n.kids.length<=1048576):M.vY (aQ o l)=some (depth l):=by
 simp only[M.vY,M.H7,QK l o hl hk,ah,dn,depth];cases hs:Dt l with
 |false=>rfl
 |true=>
  obtain⟨r,h⟩:=abx hs;have h1:=h.pos;have h2:=h.le;have hloop:=fF (b:=M.BP (aQ o l)) (t:=((l.length:Int),encI (abA l l.length))) (λi=>((i:Int),encI (abA l i))) l.length
   (by
    intro i hi;obtain⟨n,hn⟩:∃n,l[i]? =some n:=⟨l[i],by simp⟩
    have hin:=ahO (o:=o) h hn (hk n (Gy hn));simp only[lK,M.BP,M.wP,dn,hin,ah,aU,aoZ,LJ];rw[zdt (by omega),aT,bn (by omega),aT,bn (by omega),aT,aC (by omega) (by omega),alP];simp[encI])
   (by simp only[lK,M.BP,M.wP,dn];rw[qN (by omega),cu]) 0 (Nat.zero_le _)
  have NH:M.Fp (aQ o l) (0,[])=_:=hloop;rw[Bool.not_true,cu,NH,ah,aC (by omega) (by omega),show(l.length:Int) - 1=((l.length - 1:Nat):Int) by omega,if_pos rfl];simp only[bU,QS,kU,ahN l (show l.length - 1<l.length by omega),He,ah,MI];rw[show l.length - 1+1=l.length by omega]
def TM(l:List Nd)(i:Nat):Nd:=match l[i]? with|some n=>n|none=>⟨0,0,[],[],[]⟩
def abB(n:Nd)(rows:au):Row:=[.int .i64 n.kind,.int .i64 n.op,.str n.text,.str n.other,.sl true 5 rows]
def CY(l:List Nd):Nat->Nat->au
 |0,_=>[]
 |f+1,i=>(aby l i).map λk=>abB (TM l k.toNat) (CY l f k.toNat)
def adz(h:Val l r)(hk:∀n,n∈l->n.kids.length<=400):∀(f i:Nat) (n:Nd),i<f->l[i]? =some n->M.iK f (aQ o l) (i:Int)=some (n.kind,n.op,n.text,n.other,CY l f i)
 |0,i,n,hf,_=>absurd hf (Nat.not_lt_zero _)
 |f+1,i,n,hf,hn=>by
  have hkn:=hk n (Gy hn);have hil:=(G9.1 hn).1;have hkl:=h.kids hn;simp only[lK,M.iK,M.Bq,bU,jK,hn,He,ah,Lp,NR,NQ,NS,Jo,aU];have hrec:∀(j:Nat) k,n.kids[j]? =some k->M.iK f (aQ o l) k=some ((TM l k.toNat).kind,(TM l k.toNat).op,(TM l k.toNat).text,(TM l k.toNat).other,CY l f k.toNat):=by
   intro j k hj;have hkr:=hkl k (Gy hj);obtain⟨q,hq⟩:∃q:Nat,k=q:=⟨k.toNat,by omega⟩
   subst hq;obtain⟨m,hm⟩:∃m,l[q]? =some m:=⟨l[q]'(by omega),by simp⟩
   have:=adz h hk f q m (by omega) hm;rw[this,QS,TM,hm]
  have hloop:=fF (b:=M.jS (M.iK f))
   (t:=if n.kids=[] then .inl (aQ o l,encI n.kids,(n.kids.length:Int),0,0,0,[],[],n.kind,n.op,n.text,n.other) else .inr (aQ o l,encI n.kids,(n.kids.length:Int),(n.kids.length:Int),0,0,[],[],n.kind,n.op,n.text,n.other,CY l (f+1) i))
   (λj=>if j=0 then .inl (aQ o l,encI n.kids,(n.kids.length:Int),0,0,0,[],[],n.kind,n.op,n.text,n.other) else .inr (aQ o l,encI n.kids,(n.kids.length:Int),(j:Int),0,0,[],[],n.kind,n.op,n.text,n.other,(n.kids.take j).map λk=>abB (TM l k.toNat) (CY l f k.toNat))) n.kids.length
   (by
    intro j hj;obtain⟨k,hkj⟩:∃k,n.kids[j]? =some k:=⟨n.kids[j],by simp⟩
    have hr:=hrec j k hkj;have htk:(n.kids.take (j+1)).map (λk=>abB (TM l k.toNat) (CY l f k.toNat))=(n.kids.take j).map (λk=>abB (TM l k.toNat) (CY l f k.toNat))++[abB (TM l k.toNat) (CY l f k.toNat)]:=by rw[List.take_add_one,hkj,Option.toList_some,List.map_append];rfl
    rw[if_neg (show¬j+1=0 by omega),htk]
    by_cases h0:j=0
    ·subst h0;rw[if_pos rfl];have aQm:idx (encI n.kids) 0=some [D.int .i64 k]:=by have:=bU (encI n.kids) 0;rw[rG] at this;rw[this,kU,hkj];rfl
     simp only[lK,M.jS,M.jR,aQm,ah,MI,hr];rw[zdt (by omega),aT];rfl
    ·rw[if_neg h0];simp only[lK,M.jS,M.jR,bU,kU,hkj,He,ah,MI,hr,List.length_map,PW,LJ];rw[zdt (by omega),aT,bn (by omega),aT,bn (by omega),aT,aC (by omega) (by omega)];rfl)
   (by
    by_cases h0:n.kids.length=0
    ·have he:n.kids=[]:=List.length_eq_zero_iff.1 h0;rw[if_pos h0,if_pos he];simp only[lK,M.jS,M.jR];rw[qN (by omega),cu]
    ·have he:¬n.kids=[]:=λe=>h0 (by rw[e];rfl)
     rw[if_neg h0,if_neg he,List.take_length];simp only[lK,M.jS,M.jR];rw[qN (by omega),cu,CY,Jw hn]) 0 (Nat.zero_le _)
  rw[if_pos rfl] at hloop;rw[M.DJ,hloop,ah]
  by_cases he:n.kids=[]
  ·rw[if_pos he,CY,Jw hn,he];rfl
  ·rw[if_neg he];rfl
def Vk:∀rows:au,bJ rows=rows.map uw
 |[]=>rfl
 |x::rows=>by rw[bJ,Vk rows,TN]
def ahP(h:Val l r)(hk:∀n,n∈l->n.kids.length<=400):∀(f i:Nat) (n:Nd) (a b:Int) (c d:aA),i<f->f<=1000->l[i]? =some n->M.iT f a b c d (bJ (CY l f i))=some (dep l f i)
 |0,i,n,a,b,c,d,hf,_,_=>absurd hf (Nat.not_lt_zero _)
 |f+1,i,n,a,b,c,d,hf,hf2,hn=>by
  have hkn:=hk n (Gy hn);have hil:=(G9.1 hn).1;have hkl:=h.kids hn;have hdr:=XU l (f+1) i;have hlen:(bJ (CY l (f+1) i)).length=n.kids.length:=by rw[Vk,CY,Jw hn];simp
  simp only[M.iT,M.xB,hlen];have hloop:=fF (b:=M.xA (M.iT f) (bJ (CY l (f+1) i)) (n.kids.length:Int)) (t:=(mx 0 (n.kids.map λk=>dep l f k.toNat),(n.kids.length:Int)))
   (λj=>(mx 0 ((n.kids.take j).map λk=>dep l f k.toNat),(j:Int))) n.kids.length
   (by
    intro j hj;obtain⟨k,hkj⟩:∃k,n.kids[j]? =some k:=⟨n.kids[j],by simp⟩
    have hkr:=hkl k (Gy hkj);obtain⟨q,hq⟩:∃q:Nat,k=q:=⟨k.toNat,by omega⟩
    subst hq;obtain⟨m,hm⟩:∃m,l[q]? =some m:=⟨l[q]'(by omega),by simp⟩
    have hrow:(bJ (CY l (f+1) i))[j]? =some (uw (abB m (CY l f q))):=by rw[Vk,CY,Jw hn,List.getElem?_map,List.getElem?_map,hkj];simp only[He,QS,TM,hm]
    have hrec:=ahP h hk f q m m.kind m.op m.text m.other (by omega) (by omega) hm;have k0:fQ .i64 (uw (abB m (CY l f q))) 0=some m.kind:=rfl;have k1:fQ .i64 (uw (abB m (CY l f q))) 1=some m.op:=rfl;have k2:cStr (uw (abB m (CY l f q))) 2=some m.text:=rfl;have k3:cStr (uw (abB m (CY l f q))) 3=some m.other:=rfl;have k4:SK 5 (uw (abB m (CY l f q))) 4=some (bJ (CY l f q)):=rfl;simp only[lK,M.xA,M.rE,bU,hrow,ah,k0,k1,k2,k3,k4,hrec];rw[zdt (by omega),aT,aC (by omega) (by omega),List.take_add_one,hkj,Option.toList_some,List.map_append,TN,List.map_nil,aeN,QS];rfl)
   (by simp only[lK,M.xA,M.rE];rw[qN (by omega),cu,List.take_length]) 0 (Nat.zero_le _)
  have NH:M.Aj (M.iT f) (bJ (CY l (f+1) i)) (n.kids.length:Int) (0,0)=_:=hloop;rw[NH,ah];rw[dep,Jw hn] at hdr⊢;rw[aC (by omega) (by omega)]
end
def OM{α:Type}(p:Nat->α->Bool):List α->Nat->Bool
 |[],_=>true
 |x::l,i=>p i x && OM p l (i+1)
def RY{α:Type}(l:List α)(p:Nat->α->Bool){b:Int->Option (Int⊕(Unit⊕Int))}
  (hb:∀(i:Nat) x,l[i]? =some x->b (i:Int)=some (bif p i x then .inl ((i:Int)+1) else .inr (.inl ()))) (he:b (l.length:Int)=some (.inr (.inr (l.length:Int)))):
  eF b 0=some (bif OM p l 0 then .inr (l.length:Int) else .inl ()):=by
 have key:∀(t:List α) (i:Nat),l.drop i=t->i<=l.length->eF b (i:Int)=some (bif OM p t i then .inr (l.length:Int) else .inl ()):=by
  intro t;induction t with
  |nil=>
   intro i hd hi;have:i=l.length:=by have:=congrArg List.length hd;simp at this;omega
   subst this;exact dP he
  |cons x t ih=>
   intro i hd hi;have hx:l[i]? =some x:=by
    have:(l.drop i)[0]? =some x:=by rw[hd];rfl
    simpa using this
   have hlt:i<l.length:=(G9.1 hx).1;have hd':l.drop (i+1)=t:=by rw[<-List.drop_drop,hd];rfl
   have hs:=hb i x hx;rw[OM];cases hw:p i x with
   |true=>rw[hw,aT] at hs;rw[gQ hs,show(i:Int)+1=((i+1:Nat):Int) by omega,ih (i+1) hd' hlt,Bool.true_and]
   |false=>rw[hw,cu] at hs;rw[dP hs];rfl
 exact key l 0 rfl (Nat.zero_le _)
noncomputable def fOk(n:Nd):Bool:=(M.aB n.kind n.op n.text n.other (encI n.kids)).getD false
noncomputable def kOk(n:Nd)(j:Int)(d:Int):Bool:=(M.aH n.kind n.op n.text n.other (encI n.kids) j d).getD false
structure Small(n:Nd):Prop where
 text:n.text.length<=1048576
 other:n.other.length<=1048576
def abC{n:Nd}(hs:Small n)(hk:n.kids.length<=400):M.aB n.kind n.op n.text n.other (encI n.kids)=some (fOk n)∧M.fO n.kind n.op n.text n.other (encI n.kids)=some (fOk n):=by obtain⟨b,h1,h2⟩:=ahG n.kind n.op n.text n.other (encI n.kids) hs.text hs.other (by rw[aU];exact hk);rw[fOk,h1];exact⟨rfl,h2⟩
def ajq{n:Nd}(hs:Small n)(hk:n.kids.length<=400)(hf:fOk n=true)(j:Nat)(hj:j<n.kids.length)(d:Int):
  M.aH n.kind n.op n.text n.other (encI n.kids) (j:Int) d=some (kOk n j d)∧M.aS n.kind n.op n.text n.other (encI n.kids) (j:Int) d=some (kOk n j d):=by
 have hc:=aeL (k:=n.kind) (op:=n.op) (t:=n.text) (o:=n.other) (kids:=encI n.kids) (by rw[(abC hs hk).1,hf]);obtain⟨b,h1,h2⟩:=avM n.kind n.op n.text n.other (encI n.kids) (j:Int) d (by omega) (by rw[aU];omega) (by rw[aU];exact hk) hc;rw[kOk,h1];exact⟨rfl,h2⟩
def aky:∀(l:List Int),(∀x,x∈l->1<=x)->(l.length:Int)<=RX l
 |[],_=>by simp[RX]
 |x::l,h=>by
  have:=aky l λy hy=>h y (zmm _ hy)
  have:=h x zmf;simp only[ng,RX];omega
section
variable {l:List Nd} {r:List Int} {o:Bool}
def Val.WO(h:Val l r){i:Nat}{n:Nd}(hn:l[i]? =some n):n.kids.length<=400:=by have hil:=(G9.1 hn).1;have h1:=h.sum hn;have h2:=aky (n.kids.map (sz r)) (λx hx=>by obtain⟨k,hk,rfl⟩:=List.mem_map.1 hx;exact(h.aoX (h.kids hn k hk).1).1);rw[List.length_map] at h2;have h3:=(h.aoX (k:=(i:Int)) (by omega)).2;have:=h.le;omega
def Val.WQ(h:Val l r):∀n,n∈l->n.kids.length<=400:=λn hn=>by obtain⟨i,hi⟩:=List.mem_iff_getElem?.1 hn;exact h.WO hi
noncomputable def kp(l:List Nd)(n:Nd)(j:Nat)(k:Int):Bool:=kOk n j (TM l k.toNat).kind
def abD(h:Val l r)(hsm:∀n,n∈l->Small n){i:Nat}{n:Nd}(hn:l[i]? =some n)(hf:fOk n=true)(v10:au)(v11 v12:Int):
  M.Dz (aQ o l) (i:Int) 0=some (bif OM (kp l n) n.kids 0 then .inr (n.kids.length:Int) else .inl ())∧
  M.DK (aQ o l) v10 v11 v12 (encI n.kids) (n.kids.length:Int) n.kind n.op n.text n.other (encI n.kids) 0=some (bif OM (kp l n) n.kids 0 then .inr (n.kids.length:Int) else .inl ()):=by
 have hkl:=h.WO hn;have hs:=hsm n (Gy hn);have step:∀(j:Nat) k,n.kids[j]? =some k->∃(q:Nat) (m:Nd),k=(q:Int)∧l[q]? =some m∧(TM l k.toNat).kind=m.kind:=by
  intro j k hj;have hkr:=h.kids hn k (Gy hj);have hil:=(G9.1 hn).1;obtain⟨q,hq⟩:∃q:Nat,k=q:=⟨k.toNat,by omega⟩
  obtain⟨m,hm⟩:∃m,l[q]? =some m:=⟨l[q]'(by omega),by simp⟩
  refine⟨q,m,hq,hm, ?_⟩;rw[hq,QS,TM,hm]
 constructor
 ·rw[M.Dz];refine RY n.kids (kp l n) (λj k hj=> ?_) ?_
  ·obtain⟨q,m,hq,hm,he⟩:=step j k hj;have hjl:=(G9.1 hj).1;have hok:=(ajq hs hkl hf j hjl m.kind).1;rw[kp,he];subst hq;simp only[lK,M.Jq,M.yO,bU,jK,hn,hm,He,ah,Lp,NR,NQ,NS,Jo,aU,kU,hj,MI,hok];rw[zdt (by omega),aT,aC (by omega) (by omega)];cases kOk n j m.kind<;>rfl
  ·simp only[lK,M.Jq,M.yO,bU,jK,hn,He,ah,Jo,aU];rw[qN (by omega),cu]
 ·rw[M.DK];refine RY n.kids (kp l n) (λj k hj=> ?_) ?_
  ·obtain⟨q,m,hq,hm,he⟩:=step j k hj;have hjl:=(G9.1 hj).1;have hok:=(ajq hs hkl hf j hjl m.kind).2;rw[kp,he];subst hq;simp only[M.Jt,M.y5,bU,jK,hm,He,ah,Lp,kU,hj,MI,hok];rw[zdt (by omega),aT,aC (by omega) (by omega)];cases kOk n j m.kind<;>rfl
  ·simp only[M.Jt,M.y5];rw[qN (by omega),cu]
noncomputable def np(l:List Nd)(_:Nat)(n:Nd):Bool:=fOk n && OM (kp l n) n.kids 0
def Y3(h:Val l r)(hsm:∀n,n∈l->Small n):
  M.DC (aQ o l) 0=some (bif OM (np l) l 0 then .inr (l.length:Int) else .inl ())∧
  M.DL (aQ o l) (aQ o l) (l.length:Int) 0=some (bif OM (np l) l 0 then .inr (l.length:Int) else .inl ()):=by
 have hle:=h.le;constructor
 ·rw[M.DC];refine RY l (np l) (λi n hi=> ?_) ?_
  ·have hil:=(G9.1 hi).1;have hf:=(abC (hsm n (Gy hi)) (h.WO hi)).1;simp only[lK,M.Jr,M.yP,dn,bU,jK,hi,He,ah,Lp,NR,NQ,NS,Jo,hf,np];rw[zdt (by omega),aT,aC (by omega) (by omega)];cases hff:fOk n with
   |false=>rfl
   |true=>have:=(abD (o:=o) h hsm hi hff [] 0 0).1;rw[Bool.not_true,cu,this,ah];cases OM (kp l n) n.kids 0<;>rfl
  ·simp only[lK,M.Jr,M.yP,dn];rw[qN (by omega),cu]
 ·rw[M.DL];refine RY l (np l) (λi n hi=> ?_) ?_
  ·have hil:=(G9.1 hi).1;have hf:=(abC (hsm n (Gy hi)) (h.WO hi)).2;simp only[lK,M.Ju,M.y7,bU,jK,hi,He,ah,Lp,NR,NQ,NS,Jo,hf,np,aU];rw[zdt (by omega),aT,aC (by omega) (by omega)];cases hff:fOk n with
   |false=>rfl
   |true=>have:=(abD (o:=o) h hsm hi hff (aQ o l) (l.length:Int) (i:Int)).2;rw[Bool.not_true,cu,this,ah];cases OM (kp l n) n.kids 0<;>rfl
  ·simp only[lK,M.Ju,M.y7];rw[qN (by omega),cu]
end
noncomputable def Jy(l:List Nd):Bool:=Dt l &&(decide (depth l<=40) && OM (np l) l 0)
section
variable (l:List Nd) (o:Bool) (hl:l.length<=1048576) (hk:∀n,n∈l->n.kids.length<=1048576) (hsm:∀n,n∈l->Small n)
include hl hk hsm
theorem abE:M.zH (aQ o l)=some (Jy l):=by
 simp only[M.zH,M.JW,QK l o hl hk,ZA l o hl hk,ah,Jy];cases hs:Dt l with
 |false=>rfl
 |true=>
  obtain⟨r,h⟩:=abx hs;rw[Bool.not_true,cu,(Y3 (o:=o) h hsm).1,ah,Bool.true_and]
  by_cases hd:depth l<=40
  ·rw[qN (show¬depth l>40 by omega),cu,zdt hd,Bool.true_and];cases OM (np l) l 0<;>rfl
  ·rw[zdt (show depth l>40 by omega),aT,qN hd];rfl
theorem RZ:M.tX (aQ o l)=some (Jy l):=by
 simp only[M.tX,M.Kr,Zz l o hl hk,ah,Jy,dn];cases hs:Dt l with
 |false=>rfl
 |true=>
  obtain⟨r,h⟩:=abx hs;have h1:=h.pos;have h2:=h.le;obtain⟨n,hn⟩:∃n,l[l.length - 1]? =some n:=⟨l[l.length - 1]'(by omega),by simp⟩
  have ht:=adz (o:=o) h h.WQ l.length (l.length - 1) n (by omega) hn;have hd:=ahP h h.WQ l.length (l.length - 1) n n.kind n.op n.text n.other (by omega) (by omega) hn;rw[Bool.not_true,cu,(Y3 (o:=o) h hsm).2,ah,Bool.true_and];simp only[M.Dx,M.Kq,dn];rw[aC (by omega) (by omega),show(l.length:Int) - 1=((l.length - 1:Nat):Int) by omega,M.Rx ht,ah,ah];simp only;rw[M.Vd hd,ah,depth,if_pos hs];cases OM (np l) l 0<;>simp[qR,letE]
end
def NI(k:Int):Nat->List Int
 |0=>[]
 |n+1=>k::NI (k+1) n
def MB(k:Int)(n:Nat):(NI k n).length=n:=by
 induction n generalizing k with
 |zero=>rfl
 |succ n ih=>simp[NI,ih]
def markT(k:Int)(l:List Int)(i:Nat):List Int:=NI k i++l.drop i
def alQ{k:Int}{l:List Int}{i:Nat}(h:i<l.length):(markT k l i)[i]? =l[i]? :=by unfold markT;rw[List.getElem?_append_right (by simp[MB])];simp[MB]
def ajr(k:Int)(n:Nat):NI k (n+1)=NI k n++[k+n]:=by
 induction n generalizing k with
 |zero=>simp[NI]
 |succ n ih=>rw[NI,ih (k+1),NI];simp;omega
def alR{k:Int}{l:List Int}{i:Nat}(h:i<l.length):(markT k l i).set i (k+i)=markT k l (i+1):=by
 unfold markT;obtain⟨x,hx⟩:∃x,l[i]? =some x:=⟨l[i],by simp[h]⟩
 have hd:l.drop i=x::l.drop (i+1):=by rw[List.drop_eq_getElem_cons h];rw[List.getElem?_eq_getElem h] at hx;rw[Option.some.inj hx]
 rw[hd];have:=OJ (NI k i) (l.drop (i+1)) x (k+i);rw[MB] at this;rw[this,ajr];simp
def WR(k:Int)(l:List Int){i:Nat}(h:i<=l.length):(markT k l i).length=l.length:=by simp[markT,MB];omega
def ahQ(k:Int)(l:List Int)(h0:0<=k)(h1:k<=1000000000)(hl:l.length<=1000000000):M.uf k (encI l)=some (k+l.length,encI (NI k l.length)):=by
 simp only[M.uf,M.Gi];have hloop:=fF (b:=M.Aq) (t:=(k+l.length,(l.length:Int),encI (NI k l.length))) (λi=>(k+i,(i:Int),encI (markT k l i))) l.length
  (by
   intro i hi;obtain⟨x,hx⟩:∃x,l[i]? =some x:=⟨l[i],by simp[hi]⟩
   simp only[M.Aq,M.uU,aU,WR k l (Nat.le_of_lt hi),bU,kU,alQ hi,hx,He,ah,QS];rw[zdt (by omega),aT,aC (by omega) (by omega),aC (by omega) (by omega)];have hs:splice [D.int IntKind.i64 x] 0 [D.int IntKind.i64 (k+i)]=[D.int IntKind.i64 (k+i)]:=rfl;rw[hs,anb,alR hi];congr 3;omega)
  (by simp only[M.Aq,M.uU,aU,WR k l (Nat.le_refl _)];rw[qN (by omega),cu];simp[markT]) 0 (Nat.zero_le _)
 simp only[rG,Int.add_zero,markT,NI,List.drop_zero,List.nil_append] at hloop;rw[M.EN,hloop,ah]
@[simp] theorem alS(l:List Int):uy (encI l)=true:=by
 induction l with
 |nil=>rfl
 |cons x l ih=>simp only[encI,TN] at ih⊢;simp[uy,eY,D.pure,ih]
@[simp] theorem awz(l:List Int):[[D.sl true 1 (encI l)]].all eY=true:=by simp[eY,D.pure]
def Uk:∀(m:Nat) (k:Int) (s:aA),0<=k->k.toNat<=m->s.length+k.toNat<=4000000000000000000->∃k' s',M.um (k,s)=some (k',s')∧s'.length<=4000000000000000000
 |m,k,s,h0,h1,hs=>by
  by_cases hk:0<k
  ·cases m with
   |zero=>omega
   |succ m=>
    have hd:k.tdiv 10=k / 10:=Int.tdiv_eq_ediv_of_nonneg h0;obtain⟨y,hy⟩:∃y,y=UInt8.ofNat (IntKind.u8.wrap (i64.wrap (48+k.tmod 10))).toNat:=⟨_,rfl⟩
    have hstep:M.Ap (k,s)=some (.inl (k / 10,[y]++s)):=by
     simp only[M.Ap,M.uT];rw[<-hy,zdt (show k>0 from hk),aT];have:([y].length+s.length).ble 9223372036854775807=true:=by apply Nat.ble_eq_true_of_le;simp;omega
     rw[this,aT,hd,aC (by omega) (by omega)]
    obtain⟨k',s',h2,h3⟩:=Uk m (k / 10) ([y]++s) (by omega) (by omega) (by simp;omega);refine⟨k',s', ?_,h3⟩;rw[M.um,gQ hstep];exact h2
  ·refine⟨k,s, ?_,by omega⟩;rw[M.um];apply dP;simp only[M.Ap,M.uT];rw[qN (show¬k>0 from hk),cu]
noncomputable def mk(k:Int):aA:=(M.jE k).getD []
def Ou(k:Int)(h:k<=4000000000000000000):M.jE k=some (mk k):=by
 have:∃s,M.jE k=some s:=by
  simp only[M.jE,M.Gg]
  by_cases hk:k<=0
  ·rw[zdt hk];exact⟨_,rfl⟩
  ·rw[qN hk,cu];obtain⟨k',s',h2,h3⟩:=Uk k.toNat k [] (by omega) (Nat.le_refl _) (by simp;omega);rw[h2,ah];have:(1+s'.length).ble 9223372036854775807=true:=by apply Nat.ble_eq_true_of_le;omega
   rw[this];exact⟨_,rfl⟩
 obtain⟨s,hs⟩:=this;rw[mk,hs];rfl
def avN{α:Type}(a:List α)(x:α)(b:List α){i:Nat}(h:a.length=i):idx (a++x::b) (i:Int)=some x:=by rw[bU,List.getElem?_append_right (by omega)];simp[h]
def avO{α:Type}(a:List α)(x:α)(b:List α){i:Nat}(h:a.length=i):(a++x::b)[i]? =some x:=by rw[List.getElem?_append_right (by omega)];simp[h]
def at_set{α:Type}(a:List α)(x y:α)(b:List α){i:Nat}(h:a.length=i):(a++x::b).set i y=a++y::b:=by subst h;exact OJ a b x y
def MC(o:Bool)(a b:List Nd):aQ o (a++b)=aQ o a++aQ o b:=by simp[aQ]
def avP(w:Bool):∀t:Tn,t.row w=[.int .i64 t.kind,.int .i64 t.op,.str t.text,.str t.other,.sl w 5 (gZ w t.kids)]
 | .mk k o x y ks=>rfl
def aeO(w:Bool)(a b:List Tn):gZ w (a++b)=gZ w a++gZ w b:=by simp[MJ]
def iY(w:Bool)(a:List Tn):(gZ w a).length=a.length:=by simp[MJ]
def fP{α:Type}{l:List α}{j:Nat}{t:α}(h:l[j]? =some t):l.take (j+1)=l.take j++[t]:=by rw[List.take_add_one,h];rfl
def ahR{α:Type}{l:List α}{j:Nat}{t:α}(h:l[j]? =some t):l=l.take j++t::l.drop (j+1):=by obtain⟨hj,rfl⟩:=G9.1 h;rw[<-List.drop_eq_getElem_cons hj,List.take_append_drop]
def NJ{ks:List Tn}{j:Nat}{t:Tn}(h:ks[j]? =some t):sizes (ks.take j)+t.size<=sizes ks:=by have:=congrArg sizes (ahR h);rw[mW,sizes] at this;omega
section
variable {l:List Nd} {b:Nat} {k op:Int} {x y:aA} {ks:List Tn}
def Lies.OO(h:Lies l b (.mk k op x y ks)){j:Nat}{t:Tn}(hj:ks[j]? =some t):Lies l (b+sizes (ks.take j)) t:=by have e:=ahR hj;rw[e] at h;exact h.kid
def aeP{j:Nat}{t:Tn}(hj:ks[j]? =some t):(ends ks b)[j]? =some ((b+sizes (ks.take j)+sizes t.kids:Nat):Int):=by have hlt:=(G9.1 hj).1;have hs:=t.vK;rw[anc hlt,fP hj,mW,sizes,sizes];congr 1;omega
def Lies.root'{t:Tn}(h:Lies l b t):l[b+sizes t.kids]? =some ⟨t.kind,t.op,t.text,t.other,ends t.kids b⟩:=by cases t;exact h.root
def adA{j:Nat}{t:Tn}(hj:ks[j]? =some t):ends (ks.take (j+1)) b=ends (ks.take j) b++[((b+sizes (ks.take j)+t.size:Nat):Int) - 1]:=by rw[fP hj,Og,ends,ends];congr 2<;>omega
def abG{j:Nat}{t:Tn}(hj:ks[j]? =some t):jA (ks.take (j+1)) b=jA (ks.take j) b++t.flat (b+sizes (ks.take j)):=by rw[fP hj,Hw,jA,jA,List.append_nil]
def ajs{w:Bool}{j:Nat}{t:Tn}(hj:ks[j]? =some t):gZ w (ks.take (j+1))=gZ w (ks.take j)++[t.row w]:=by rw[fP hj,aeO];rfl
def ends_range:∀(ks:List Tn) (b:Nat),∀e,e∈ends ks b->(b:Int)<=e∧e<b+sizes ks
 |[],b,e,h=>by simp[ends] at h
 |t::ts,b,e,h=>by
  have hp:=t.size_pos;rw[ends] at h;have hs:(sizes (t::ts):Int)=t.size+sizes ts:=by rw[sizes];omega
  rcases List.mem_cons.1 h with rfl|h
  ·omega
  ·have:=ends_range ts _ e h;omega
end
mutual
def ML:∀(t:Tn) (b:Nat),∀n,n∈t.flat b->n.kids.length<=t.size∧∀e,e∈n.kids->(0:Int)<=e∧e<b+t.size
 | .mk k o x y ks,b,n,h=>by
  rw[Tn.flat] at h;rw[Tn.size];rcases List.mem_append.1 h with h|h
  ·have:=abH ks b n h;exact⟨by omega,λe he=>by have:=this.2 e he;omega⟩
  ·simp only[List.mem_singleton] at h;subst h;refine⟨by simp only[gU];have:=lW ks;omega,λe he=> ?_⟩;have:=ends_range ks b e he;omega
def abH:∀(ks:List Tn) (b:Nat),∀n,n∈jA ks b->n.kids.length<=sizes ks∧∀e,e∈n.kids->(0:Int)<=e∧e<b+sizes ks
 |[],b,n,h=>by simp[jA] at h
 |t::ts,b,n,h=>by
  rw[jA] at h;rw[sizes];rcases List.mem_append.1 h with h|h
  ·have:=ML t b n h;exact⟨by omega,λe he=>by have:=this.2 e he;omega⟩
  ·have:=abH ts _ n h;exact⟨by omega,λe he=>by have:=this.2 e he;omega⟩
end
structure Ps where
 level:Int
 kM:Bool
 oV:Bool
 oW:Bool
 jU:Bool
 deriving DecidableEq,Inhabited
def Ps.top:Ps:=⟨1,false,false,false,false⟩
def Ps.zero:Ps:=⟨0,false,false,false,false⟩
def vG(op:Int):Int:=bif op==44 then 3 else bif op==45 then 4 else bif op==67||op==46 then 6 else
 bif op==63||(op==48||(op==47||(op==50||(op==62||op==49)))) then 7 else bif op==99 then 8 else bif op==55||op==56 then 9 else
 bif op==57||(op==58||op==59) then 10 else bif op==60 then 12 else 0
def lvl(k op:Int):Int:=bif k==15 then 1 else bif k==14 then 2 else bif k==13 then 5 else bif k==12 then vG op else bif k==11 then 11 else
 bif k==9||k==10 then 13 else bif k==6 then 14 else bif k==1||(k==2||(k==3||(k==4||(k==5||(k==7||k==8))))) then 15 else 0
def jX(p:Ps):Bool:=(decide (1<=p.level) && decide (p.level<=15)) &&(!p.kM||p.level==14)
def fits(k op:Int)(p:Ps):Bool:=bif !(jX p)||lvl k op==0 then false else bif p.oV && k==13 then false else bif p.oW &&(k==12 && op==62) then false else
 bif p.jU &&(k==11||(k==9||k==4)) then false else(p.kM && k==9)||decide (p.level<=lvl k op)
def sides(op:Int):Int×Int:=bif vG op==3 then(3,4) else bif vG op==4 then(4,5) else bif vG op==6 then(7,7) else bif vG op==7 then(8,8) else
 bif vG op==8 then(8,9) else bif vG op==9 then(9,10) else bif vG op==10 then(10,11) else(13,11)
def Qv(k op:Int)(j:Nat):Int:=bif k==15 then(bif Nat.beq j 0 then 14 else 1) else bif k==14 then(bif Nat.beq j 0 then 3 else 2) else bif k==13 then 5 else bif k==11 then 11 else
 bif k==12 then(bif Nat.beq j 0 then(sides op).1 else(sides op).2) else 14
def bZ(k op:Int)(n j:Nat)(p:Ps):Ps:=bif !(jX p)||(!(Nat.blt j n)||lvl k op==0) then .zero else bif lvl k op==15||(k==13 && Nat.blt 1 n) then .top else
 ⟨Qv k op j,k==6,p.oV,p.oW,bif k==11||(k==9||(k==10||k==6)) then false else(Nat.beq j 0 && p.jU)||(Nat.beq j 1 &&(k==12 && op==99))⟩
def ni(k:Int)(j:Nat):Bool:=Nat.beq j 0 &&(k==9||(k==10||k==15))
def tok(k:Int):Tk:=⟨k,spell k,0⟩
def BH:Bool->List (List Tk)->List Tk
 |_,[]=>[]
 |b,x::l=>(bif b then x else tok 36::x)++BH false l
def xM{α:Type}(L:List (List α))(j:Nat):List α:=(L[j]?).getD []
def Dj(k op:Int)(n:Nat)(x:aA)(L:List (List Tk)):List Tk:=
 bif k==1 then[⟨6,x,0⟩] else bif k==2 then[⟨3,x,0⟩] else bif k==3 then[⟨4,x,0⟩] else bif k==4 then[⟨5,x,0⟩] else
 bif k==5 then⟨6,x,0⟩::tok 34::(BH true L++[tok 35]) else bif k==7 then⟨7,x,0⟩::tok 32::(BH true L++[tok 33]) else bif k==8 then⟨8,x,0⟩::tok 32::(BH true L++[tok 33]) else
 bif k==9||k==11 then tok op::xM L 0 else bif k==6 then tok 68::xM L 0 else bif k==10 then xM L 0++[tok op] else
 bif k==13 then(bif Nat.blt 1 n then tok 32::(BH true L++[tok 33]) else xM L 0)++[tok 24,⟨6,x,0⟩] else
 bif k==14 then xM L 0++(tok 65::(xM L 1++(tok 66::xM L 2))) else xM L 0++((bif op==99 then[] else[tok op])++xM L 1)
mutual
def rM:Tn->Ps->List Tk
 | .mk k op x _ ks,p=>Dj k op ks.length x (gW k op ks.length p ks 0)
def gW(k op:Int)(n:Nat)(p:Ps):List Tn->Nat->List (List Tk)
 |[],_=>[]
 |t::ts,j=>(bif ni k j||fits t.kind t.op (bZ k op n j p) then rM t (bZ k op n j p) else tok 32::(rM t .top++[tok 33]))::gW k op n p ts (j+1)
end
def Ul(t:Tn)(p:Ps):List Tk:=bif fits t.kind t.op p then rM t p else tok 32::(rM t .top++[tok 33])
def rO(s:aA):Tn:=.mk 1 0 s [] []
def NK:Tn:=.mk 2 0 [] [] []
def akz:Tn:=.mk 3 0 [] [] []
def PI(d:Tn):Tn:=.mk 4 4 [] [] [d]
def acI(d:Tn):Tn:=.mk 5 0 [] [] [d]
def qL(l:List Tn):Tn:=.mk 6 0 [] [] l
def Ja:Bool->List Tn->List Tn
 |_,[]=>[]
 |b,x::l=>(bif b then[x] else[rO [44],NK,x])++Ja false l
def LG(L:List Tn):Tn:=acI (PI (qL (Ja true L)))
def uo(L:List Tn)(j:Nat):Tn:=(L[j]?).getD (rO [])
def abI(s:aA):List (aA)->Nat->Nat
 |[],m=>m
 |g::l,m=>abI s l (bif Nat.blt m g.length && g.isPrefixOf s then g.length else m)
def lastB(s:aA):Int:=match s.getLast? with|some c=>(c.toNat:Int)|none=> -1
def ajt(s:aA):Int:=match s with|c::_=>(c.toNat:Int)|[]=> -1
def DU(a b:Tk):Bool:=
 bif a.text==[]||(b.text==[]||(a.kind==2||(a.kind==1||b.kind==1))) then false else
 bif isW (lastB a.text) && isW (ajt b.text) then true else
 bif a.kind==3 &&(isW (ajt b.text)||ajt b.text==46) then true else
 bif a.kind==6 && b.kind==32 then true else
 bif !(decide (30<=a.kind) && decide (a.kind<=68)) then false else Nat.blt a.text.length (abI (a.text++b.text) OI 0)
def NU(k op:Int)(n:Nat)(x:aA)(gap:Bool)(L:List Tn):Tn:=
 bif k==1||(k==2||(k==3||k==4)) then rO x else bif k==5 then qL [rO (x++[91]),LG L,rO [93]] else
 bif k==7||k==8 then qL [rO (x++[40]),LG L,rO [41]] else bif k==9 then qL [rO (spell op),uo L 0] else bif k==10 then qL [uo L 0,rO (spell op)] else
 bif k==6 then qL [rO [36],uo L 0] else bif k==11 then qL [rO (bif gap then spell op++[32] else spell op),uo L 0] else
 bif k==14 then qL [uo L 0,rO [32,63,32],uo L 1,rO [32,58,32],uo L 2] else
 bif k==13 then(bif Nat.blt 1 n then qL [rO [40],LG L,rO ([41,32,105,110,32]++x)] else qL [uo L 0,rO ([32,105,110,32]++x)]) else
 bif k==12 && op==99 then qL [uo L 0,rO [32],uo L 1] else
 bif k==12 &&(op==45||op==44) then acI (PI (qL [uo L 0,rO (32::spell op),NK,uo L 1])) else
 qL [uo L 0,rO ((32::spell op)++[32]),uo L 1]
def abJ(op:Int)(L:List (List Tk)):Bool:=match L with
 |(b::_)::_=>DU (tok op) b
 |_=>false
mutual
def kY:Tn->Ps->Tn
 | .mk k op x _ ks,p=>NU k op ks.length x (abJ op (gW k op ks.length p ks 0)) (kS k op ks.length p ks 0)
def kS(k op:Int)(n:Nat)(p:Ps):List Tn->Nat->List Tn
 |[],_=>[]
 |t::ts,j=>(bif ni k j||fits t.kind t.op (bZ k op n j p) then kY t (bZ k op n j p) else qL [rO [40],kY t .top,rO [41]])::kS k op n p ts (j+1)
end
def CZ(t:Tn)(p:Ps):Tn:=bif fits t.kind t.op p then kY t p else qL [rO [40],kY t .top,rO [41]]
def Gu(t:Tn):Tn:=CZ t .top
def ao0(t:Tn):Tn:=bif t.kind==16 then rO [] else qL [rO [32],Gu t]
def aeQ:List Tn->List Tn
 |[]=>[]
 |d::l=>akz::d::aeQ l
def avQ(L:List Tn):Tn:=qL [rO [123],PI (qL (aeQ L)),akz,rO [125]]
def MF(L:List Tn)(j:Nat):Tn:=(L[j]?).getD (.mk 0 0 [] [] [])
def Um(p:Ps)(L:List Tn):Tn:=LG (L.map λt=>CZ t p)
def avR(op:Int)(y:aA)(ks:List Tn):Tn:=
 let args:=bif y==[] then ks else ks.take (ks.length - 1)
 qL ([rO (bif op==0 then[112,114,105,110,116] else[112,114,105,110,116,102])]++
  ((bif Nat.blt 0 args.length then[rO [32],Um ⟨1,false,false,true,false⟩ args] else[])++
   (bif y==[] then[] else[rO (([32]++y)++[32]),(CZ (MF ks (ks.length - 1))) ⟨9,false,false,false,false⟩])))
def ahS(w:aA)(ks:List Tn):Tn:=match ks with
 |[]=>rO w
 |t::_=>qL [rO w,ao0 t]
def aFs(k op:Int)(x y:aA)(ks L:List Tn):Tn:=
 bif k==20 then Gu (MF ks 0) else bif k==21 then avR op y ks else bif k==22 then rO [110,101,120,116] else bif k==25 then rO [98,114,101,97,107] else bif k==26 then rO [99,111,110,116,105,110,117,101] else
 bif k==23 then ahS [101,120,105,116] ks else bif k==24 then ahS [114,101,116,117,114,110] ks else
 bif k==27 then(match ks with
  |[]=>rO ([100,101,108,101,116,101,32]++x)
  |_::_=>qL [rO (([100,101,108,101,116,101,32]++x)++[91]),Um .top ks,rO [93]]) else
 bif k==28 then(let d:=qL [rO [105,102,32,40],Gu (MF ks 0),rO [41,32],uo L 1];bif Nat.blt 2 ks.length then qL [d,rO [32,101,108,115,101,32],uo L 2] else d) else
 bif k==29 then qL [rO [119,104,105,108,101,32,40],Gu (MF ks 0),rO [41,32],uo L 1] else
 bif k==30 then qL [rO [100,111,32],uo L 0,rO [32,119,104,105,108,101,32,40],Gu (MF ks 1),rO [41]] else
 bif k==31 then qL [rO [102,111,114,32,40],(bif(MF ks 0).kind==16 then rO [] else(CZ (MF ks 0)) ⟨1,false,true,false,false⟩),rO [59],ao0 (MF ks 1),rO [59],ao0 (MF ks 2),rO [41,32],uo L 3] else
 bif k==32 then qL [rO (((([102,111,114,32,40]++x)++[32,105,110,32])++y)++[41,32]),uo L 0] else
 bif k==33 then avQ L else rO x
mutual
def abK:Tn->Tn
 | .mk k op x y ks=>aFs k op x y ks (Ov ks)
def Ov:List Tn->List Tn
 |[]=>[]
 |t::ts=>(abK t)::Ov ts
end
def uX:List (aA)->Bool->aA
 |[],_=>[]
 |x::l,b=>(bif b then x else[44,32]++x)++uX l false
def Si(x:aA)(ks:List Tn):aA:=(([102,117,110,99,116,105,111,110,32]++x)++[40])++(uX ((ks.take (ks.length - 1)).map Tn.text) true++[41])
structure Cnt(k op:Int)(y:aA)(n:Nat):Prop where
 one:k=6∨k=9∨k=10∨k=11∨k=20∨k=32∨k=40∨k=41->n=1
 two:k=12∨k=15∨k=29∨k=30->n=2
 some_:k=5∨k=13∨k=44->1<=n
 three:k=14->n=3
 four:k=31->n=4
 cnd:k=28->n=2∨n=3
 prn:k=21->(op=0∨op=1)∧(y≠[]->1<=n)
 wrd:k=23∨k=24->n<=1
 non:k=1∨k=2∨k=3∨k=4∨k=16∨k=22∨k=25∨k=26∨k=34->n=0
 rule:k=42->(op=1∧n=1)∨(op=2∧n=1)∨(op=3∧n=2)
 range:k=43->(op=1∧n=2)∨(op=3∧n=3)
 few:k≠33->k≠45->n<=7
 bin:k=12->vG op≠0∧op≠61
 asg:k=15->op=54∨(38<=op∧op<=43)
 stp:k=9∨k=10->op=51∨op=52
 una:k=11->op=55∨op=56∨op=61
def cls(k op:Int)(n j:Nat):Nat:=
 if k=9∨k=10∨(k=15∧j=0) then 6 else if k=28∨k=29 then(if j=0 then 0 else 1) else if k=30 then(if j=0 then 1 else 0) else
 if k=31 then(if j<3 then 3 else 1) else if k=32∨k=40∨k=41 then 1 else if k=33 then 2 else if k=42 then(if op=2∨(op=3∧j+1=n) then 1 else 0) else
 if k=43 then(if j=2 then 1 else 0) else if k=44 then(if j+1=n then 1 else 4) else if k=45 then 5 else 0
def yj(c:Nat)(d:Int):Prop:=match c with
 |0=>1<=d∧d<=15
 |1=>d=33
 |2=>20<=d∧d<=34
 |3=>d=16∨(1<=d∧d<=15)
 |4=>d=1
 |5=>(40<=d∧d<=44)∨d=34
 |_=>d=1∨d=5∨d=6
def XV(k:Int):Prop:=(1<=k∧k<=16)∨(20<=k∧k<=34)∨(40<=k∧k<=45)
mutual
def Az:Tn->Prop
 | .mk k op x y ks=>XV k∧Cnt k op y ks.length∧oks k op ks.length ks 0
def oks(k op:Int)(n:Nat):List Tn->Nat->Prop
 |[],_=>True
 |t::ts,j=>yj (cls k op n j) t.kind∧(Az t)∧oks k op n ts (j+1)
end
def akA{k op:Int}{n:Nat}:∀{ks:List Tn} {j i:Nat} {t:Tn},oks k op n ks j->ks[i]? =some t->yj (cls k op n (j+i)) t.kind∧(Az t)
 |[],_,i,_,_,h=>by simp at h
 |u::ts,j,0,t,h,e=>by rw[oks] at h;cases e;exact⟨h.1,h.2.1⟩
 |u::ts,j,i+1,t,h,e=>by rw[oks] at h;rw[List.getElem?_cons_succ] at e;have:=akA h.2.2 e;rw[show j+1+i=j+(i+1) by omega] at this;exact this
def OQ{k op:Int}{x y:aA}{ks:List Tn}(h:(Az (Tn.mk k op x y ks))){i:Nat}{t:Tn}(e:ks[i]? =some t):yj (cls k op ks.length i) t.kind∧(Az t):=by
 rw[Az] at h;have:=akA h.2.2 e
 rwa [Nat.zero_add] at this
def I4{k op:Int}{x y:aA}{ks:List Tn}(h:(Az (Tn.mk k op x y ks))):Cnt k op y ks.length:=by rw[Az] at h;exact h.2.1
def Qw(t:Tn):Prop:=1<=t.kind∧t.kind<=15
def Sj{k op:Int}{x y:aA}{ks:List Tn}(h:(Az (Tn.mk k op x y ks)))(he:1<=k∧k<=15){i:Nat}{t:Tn}(e:ks[i]? =some t):(Qw t)∧(Az t):=by
 obtain⟨h1,h2⟩:=OQ h e;refine⟨?_,h2⟩;unfold Qw;have:cls k op ks.length i=6∨cls k op ks.length i=0:=by
  unfold cls;split
  ·exact .inl rfl
  ·repeat(rw[if_neg (by omega)])
   exact .inr rfl
 rcases this with h|h<;>rw[h] at h1<;>simp only[yj] at h1<;>omega
def EZ{a b lo hi:Int}(c:Bool)(ha:lo<=a∧a<=hi)(hb:lo<=b∧b<=hi):lo<=(bif c then a else b)∧(bif c then a else b)<=hi:=by cases c<;>assumption
def abL(op:Int):0<=vG op∧vG op<=12:=by unfold vG;exact EZ _ ⟨by decide,by decide⟩ (EZ _ ⟨by decide,by decide⟩ (EZ _ ⟨by decide,by decide⟩ (EZ _ ⟨by decide,by decide⟩ (EZ _ ⟨by decide,by decide⟩ (EZ _ ⟨by decide,by decide⟩ (EZ _ ⟨by decide,by decide⟩ (EZ _ ⟨by decide,by decide⟩ ⟨by decide,by decide⟩)))))))
def KE{k op:Int}{y:aA}{n:Nat}(he:1<=k∧k<=15)(hc:Cnt k op y n):1<=lvl k op∧lvl k op<=15:=by
 obtain⟨h1,h2⟩:=he;have hk:k=1∨k=2∨k=3∨k=4∨k=5∨k=6∨k=7∨k=8∨k=9∨k=10∨k=11∨k=13∨k=14∨k=15∨k=12:=by omega
 rcases hk with rfl|rfl|rfl|rfl|rfl|rfl|rfl|rfl|rfl|rfl|rfl|rfl|rfl|rfl|rfl
 case inr.inr.inr.inr.inr.inr.inr.inr.inr.inr.inr.inr.inr.inr=>have hb:=(hc.bin rfl).1;have:=abL op;change 1<=vG op∧vG op<=15;omega
 all_goals simp[lvl]
def iD(s:aA):(rO s).size=1:=by simp[rO,Tn.size,sizes]
def NM:NK.size=1:=by simp[NK,Tn.size,sizes]
def ahT:akz.size=1:=by simp[akz,Tn.size,sizes]
def NP(d:Tn):(PI d).size=d.size+1:=by simp[PI,Tn.size,sizes]
def ZT(d:Tn):(acI d).size=d.size+1:=by simp[acI,Tn.size,sizes]
def nO(l:List Tn):(qL l).size=sizes l+1:=by simp[qL,Tn.size]
def XW:∀(L:List Tn) (b:Bool),sizes (Ja b L)<=sizes L+2 * L.length
 |[],b=>by rw[Ja];simp[sizes]
 |x::l,b=>by have:=XW l false;cases b<;>simp only[Ja,aT,cu,mW,sizes,iD,NM,ng]<;>omega
def Vl(L:List Tn):(LG L).size<=sizes L+2 * L.length+3:=by have:=XW L true;rw[LG,ZT,NP,nO];omega
def XY:∀(L:List Tn) (j:Nat),(uo L j).size<=sizes L+1
 |[],j=>by simp[uo,sizes,iD]
 |x::l,0=>by simp only[uo,List.getElem?_cons_zero,Option.getD_some,sizes];omega
 |x::l,j+1=>by have:=XY l j;simp only[uo,List.getElem?_cons_succ,sizes] at this⊢;omega
def abM:∀(L:List Tn),(uo L 0).size+((uo L 1).size+(uo L 2).size)<=sizes L+3
 |[]=>by simp[uo,sizes,iD]
 |[x]=>by simp[uo,sizes,iD]
 |[x,y]=>by simp[uo,sizes,iD];omega
 |x::y::z::l=>by simp[uo,sizes];omega
def jk{a b:Tn}{N:Nat}(c:Bool)(ha:a.size<=N)(hb:b.size<=N):(bif c then a else b).size<=N:=by cases c<;>assumption
def alT(k op:Int)(n:Nat)(x:aA)(g:Bool)(L:List Tn):(NU k op n x g L).size<=sizes L+2 * L.length+9:=by
 have h1:=Vl L;have h2:=XY L 0;have h3:=abM L;unfold NU;refine jk _ ?_ (jk _ ?_ (jk _ ?_ (jk _ ?_ (jk _ ?_ (jk _ ?_ (jk _ ?_ (jk _ ?_ (jk _ (jk _ ?_ ?_) (jk _ ?_ (jk _ ?_ ?_))))))))))
 all_goals(simp only[iD,nO,ZT,NP,NM,sizes]<;>omega)
def Qx(k op:Int)(n:Nat)(p:Ps):∀(ts:List Tn) (j:Nat),(kS k op n p ts j).length=ts.length
 |[],j=>by simp[kS]
 |t::ts,j=>by rw[kS,ng,Qx k op n p ts (j+1),ng]
def DV(k op:Int)(n:Nat)(p:Ps)(j:Nat)(u:Tn):Tn:=bif ni k j||fits u.kind u.op (bZ k op n j p) then kY u (bZ k op n j p) else qL [rO [40],kY u .top,rO [41]]
def Qy(a:Tn):(qL [rO [40],a,rO [41]]).size=a.size+3:=by simp only[nO,iD,sizes];omega
def adB{k op:Int}{n:Nat}{p:Ps}{j:Nat}{u:Tn}(h:∀q,(kY u q).size+6<=16 * u.size):(DV k op n p j u).size+3<=16 * u.size:=by
 unfold DV;cases(ni k j||fits u.kind u.op (bZ k op n j p)) with
 |true=>have:=h (bZ k op n j p);rw[aT];omega
 |false=>have:=h .top;rw[cu,Qy];omega
def abN{k op:Int}{n:Nat}{p:Ps}:∀{ts:List Tn} {j:Nat},(∀u,u∈ts->∀q,(kY u q).size+6<=16 * u.size)->sizes (kS k op n p ts j)+3 * ts.length<=16 * sizes ts
 |[],j,_=>by rw[kS];simp[sizes]
 |t::ts,j,h=>by
  have h1:=adB (k:=k) (op:=op) (n:=n) (p:=p) (j:=j) (h t zmf);have h2:=abN (k:=k) (op:=op) (n:=n) (p:=p) (ts:=ts) (j:=j+1) λu hu=>h u (zmm _ hu)
  unfold DV at h1;rw[kS,sizes,sizes,ng];omega
def Gv(t:Tn):∀q,(kY t q).size+6<=16 * t.size:=by refine Tn.ind (P:=λt=>∀q,(kY t q).size+6<=16 * t.size) ?_ t;intro k op x y ks ih q;have h1:=alT k op ks.length x (abJ op (gW k op ks.length q ks 0)) (kS k op ks.length q ks 0);have h2:=abN (k:=k) (op:=op) (n:=ks.length) (p:=q) (ts:=ks) (j:=0) ih;rw[Qx] at h1;rw[kY,Tn.size];omega
def x9(t:Tn)(q:Ps):(CZ t q).size+3<=16 * t.size:=by
 have h1:=Gv t q;have h2:=Gv t .top;unfold CZ;cases fits t.kind t.op q with
 |true=>rw[aT];omega
 |false=>rw[cu,Qy];omega
def XZ:∀(L:List Tn) (j:Nat),(MF L j).size<=sizes L+1
 |[],j=>by simp[MF,sizes,Tn.size]
 |x::l,0=>by simp[MF,sizes];omega
 |x::l,j+1=>by have:=XZ l j;simp only[MF,List.getElem?_cons_succ,sizes] at this⊢;omega
def X3(t:Tn):(ao0 t).size<=16 * t.size:=by
 have h:=x9 t .top;have hp:=t.size_pos;unfold ao0 Gu;refine jk _ ?_ ?_
 ·rw[iD];omega
 ·rw[nO];simp only[sizes,iD];omega
def Qz(p:Ps)(L:List Tn):(Um p L).size<=16 * sizes L+3:=by
 have h:∀L:List Tn,sizes (L.map λt=>CZ t p)+3 * L.length<=16 * sizes L:=by
  intro L;induction L with
  |nil=>simp[sizes]
  |cons t l ih=>have:=x9 t p;simp only[TN,sizes,ng];omega
 have h1:=Vl (L.map λt=>CZ t p);have h2:=h L;rw[List.length_map] at h1;unfold Um;omega
def Y4:∀L:List Tn,sizes (aeQ L)=sizes L+L.length
 |[]=>rfl
 |d::l=>by have:=Y4 l;simp only[aeQ,sizes,ahT,ng];omega
def alU(L:List Tn):(avQ L).size=sizes L+L.length+6:=by have:=Y4 L;simp only[avQ,nO,NP,sizes,iD,ahT];omega
def take_size:∀(ks:List Tn) (n:Nat),sizes (ks.take n)<=sizes ks
 |[],n=>by simp[sizes]
 |t::ts,0=>by simp[sizes]
 |t::ts,n+1=>by have:=take_size ts n;simp only[List.take_succ_cons,sizes];omega
def uq{op:Int}(h:YX op=true):vG op≠0∧op≠61:=by
 have hc:op=60∨op=57∨op=58∨op=59∨op=55∨op=56∨op=99∨op=63∨op=48∨op=47∨op=50∨op=62∨op=49∨op=67∨op=46∨op=45∨op=44:=by simp only[YX,Bool.or_eq_true,beq_iff_eq] at h;omega
 rcases hc with rfl|rfl|rfl|rfl|rfl|rfl|rfl|rfl|rfl|rfl|rfl|rfl|rfl|rfl|rfl|rfl|rfl<;>decide
def zl{op:Int}(h:YZ op=true):op=54∨(38<=op∧op<=43):=by simp only[YZ,Bool.or_eq_true,zq,beq_iff_eq,decide_eq_true_eq] at h;omega
def X4(k:Int)(op:Int)(t o:aA)(kids:au)(h:M.aB k op t o kids=some true)(hk:k=1∨k=5∨k=7∨k=13∨k=27∨k=44):Cnt k op o kids.length:=by
 rcases hk with rfl|rfl|rfl|rfl|rfl|rfl
 all_goals
  simp only[M.aB,M.aO,M.bK,M.bg,M.dD,M.dh,M.bI,M.bD,dU,bQ,uV,lH,Int.reduceBEq,Int.reduceLE,Int.reduceLT,Int.reduceSub,Int.reduceAdd,bP,ah] at h;revert h;cases hn0:M.iF t with
  |none=>cases op==0<;>simp
  |some b0=>_
  all_goals try simp only[Int.reduceBEq,Int.reduceLE,Int.reduceLT,Int.reduceSub,Int.reduceAdd,bP,ah]
  all_goals(cases ho0:(op==0)<;>cases ht:(t==[])<;>cases hy:(o==[])<;>cases b0<;>simp_all<;>intros<;>constructor<;>intros<;>first|omega|exact uq ‹_›|exact zl ‹_›|(rw[aC (n:=op+1) (by omega) (by omega)] at *;omega)|(simp_all<;>omega))
def aFt(op:Int)(t o:aA)(kids:au)(h:M.aB 2 op t o kids=some true):Cnt 2 op o kids.length:=by
 simp only[M.aB,M.aO,M.bK,M.bg,M.dD,M.dh,M.bI,M.bD,dU,bQ,uV,lH,Int.reduceBEq,Int.reduceLE,Int.reduceLT,Int.reduceSub,Int.reduceAdd,bP,ah] at h;revert h;cases hn0:M.kE 3 t 0 with
 |none=>cases op==0<;>simp
 |some b0=>_
 all_goals try simp only[Int.reduceBEq,Int.reduceLE,Int.reduceLT,Int.reduceSub,Int.reduceAdd,bP,ah]
 all_goals(cases ho0:(op==0)<;>cases ht:(t==[])<;>cases hy:(o==[])<;>cases b0<;>simp_all<;>intros<;>constructor<;>intros<;>first|omega|exact uq ‹_›|exact zl ‹_›|(rw[aC (n:=op+1) (by omega) (by omega)] at *;omega)|(simp_all<;>omega))
def aFu(op:Int)(t o:aA)(kids:au)(h:M.aB 3 op t o kids=some true):Cnt 3 op o kids.length:=by
 simp only[M.aB,M.aO,M.bK,M.bg,M.dD,M.dh,M.bI,M.bD,dU,bQ,uV,lH,Int.reduceBEq,Int.reduceLE,Int.reduceLT,Int.reduceSub,Int.reduceAdd,bP,ah] at h;revert h;cases hn0:M.kE 4 t 0 with
 |none=>cases op==0<;>simp
 |some b0=>_
 all_goals try simp only[Int.reduceBEq,Int.reduceLE,Int.reduceLT,Int.reduceSub,Int.reduceAdd,bP,ah]
 all_goals(cases ho0:(op==0)<;>cases ht:(t==[])<;>cases hy:(o==[])<;>cases b0<;>simp_all<;>intros<;>constructor<;>intros<;>first|omega|exact uq ‹_›|exact zl ‹_›|(rw[aC (n:=op+1) (by omega) (by omega)] at *;omega)|(simp_all<;>omega))
def aFv(op:Int)(t o:aA)(kids:au)(h:M.aB 4 op t o kids=some true):Cnt 4 op o kids.length:=by
 simp only[M.aB,M.aO,M.bK,M.bg,M.dD,M.dh,M.bI,M.bD,dU,bQ,uV,lH,Int.reduceBEq,Int.reduceLE,Int.reduceLT,Int.reduceSub,Int.reduceAdd,bP,ah] at h;revert h;cases hn0:M.kE 5 t 0 with
 |none=>cases op==0<;>simp
 |some b0=>_
 all_goals try simp only[Int.reduceBEq,Int.reduceLE,Int.reduceLT,Int.reduceSub,Int.reduceAdd,bP,ah]
 all_goals(cases ho0:(op==0)<;>cases ht:(t==[])<;>cases hy:(o==[])<;>cases b0<;>simp_all<;>intros<;>constructor<;>intros<;>first|omega|exact uq ‹_›|exact zl ‹_›|(rw[aC (n:=op+1) (by omega) (by omega)] at *;omega)|(simp_all<;>omega))
def DW(k:Int)(op:Int)(t o:aA)(kids:au)(h:M.aB k op t o kids=some true)(hk:k=6∨k=14∨k=16∨k=20∨k=22∨k=23∨k=24∨k=25∨k=26∨k=28∨k=29∨k=30∨k=31∨k=33∨k=40∨k=41∨k=45):Cnt k op o kids.length:=by
 rcases hk with rfl|rfl|rfl|rfl|rfl|rfl|rfl|rfl|rfl|rfl|rfl|rfl|rfl|rfl|rfl|rfl|rfl
 all_goals
  simp only[M.aB,M.aO,M.bK,M.bg,M.dD,M.dh,M.bI,M.bD,dU,bQ,uV,lH,Int.reduceBEq,Int.reduceLE,Int.reduceLT,Int.reduceSub,Int.reduceAdd,bP,ah] at h;revert h
  all_goals try simp only[Int.reduceBEq,Int.reduceLE,Int.reduceLT,Int.reduceSub,Int.reduceAdd,bP,ah]
  all_goals(cases ho0:(op==0)<;>cases ht:(t==[])<;>cases hy:(o==[])<;>simp_all<;>intros<;>constructor<;>intros<;>first|omega|exact uq ‹_›|exact zl ‹_›|(rw[aC (n:=op+1) (by omega) (by omega)] at *;omega)|(simp_all<;>omega))
def aFw(op:Int)(t o:aA)(kids:au)(h:M.aB 8 op t o kids=some true):Cnt 8 op o kids.length:=by
 simp only[M.aB,M.aO,M.bK,M.bg,M.dD,M.dh,M.bI,M.bD,dU,bQ,uV,lH,Int.reduceBEq,Int.reduceLE,Int.reduceLT,Int.reduceSub,Int.reduceAdd,bP,ah] at h;revert h;cases hn0:M.jL t with
 |none=>cases op==0<;>simp
 |some b0=>_
 all_goals try simp only[Int.reduceBEq,Int.reduceLE,Int.reduceLT,Int.reduceSub,Int.reduceAdd,bP,ah]
 all_goals(cases ho0:(op==0)<;>cases ht:(t==[])<;>cases hy:(o==[])<;>cases b0<;>simp_all<;>intros<;>constructor<;>intros<;>first|omega|exact uq ‹_›|exact zl ‹_›|(rw[aC (n:=op+1) (by omega) (by omega)] at *;omega)|(simp_all<;>omega))
def ao1(k:Int)(op:Int)(t o:aA)(kids:au)(h:M.aB k op t o kids=some true)(hk:k=9∨k=10):Cnt k op o kids.length:=by
 rcases hk with rfl|rfl
 all_goals
  simp only[M.aB,M.aO,M.bK,M.bg,M.dD,M.dh,M.bI,M.bD,dU,bQ,uV,lH,Int.reduceBEq,Int.reduceLE,Int.reduceLT,Int.reduceSub,Int.reduceAdd,bP,ah] at h;revert h
  all_goals try simp only[Int.reduceBEq,Int.reduceLE,Int.reduceLT,Int.reduceSub,Int.reduceAdd,bP,ah]
  all_goals(cases ho0:(op==51)<;>cases ho1:(op==52)<;>cases ht:(t==[])<;>cases hy:(o==[])<;>simp_all<;>intros<;>constructor<;>intros<;>first|omega|exact uq ‹_›|exact zl ‹_›|(rw[aC (n:=op+1) (by omega) (by omega)] at *;omega)|(simp_all<;>omega))
def avS(op:Int)(t o:aA)(kids:au)(h:M.aB 11 op t o kids=some true):Cnt 11 op o kids.length:=by
 simp only[M.aB,M.aO,M.bK,M.bg,M.dD,M.dh,M.bI,M.bD,dU,bQ,uV,lH,Int.reduceBEq,Int.reduceLE,Int.reduceLT,Int.reduceSub,Int.reduceAdd,bP,ah] at h;revert h
 all_goals try simp only[Int.reduceBEq,Int.reduceLE,Int.reduceLT,Int.reduceSub,Int.reduceAdd,bP,ah]
 all_goals(cases ho0:(op==55)<;>cases ho1:(op==56)<;>cases ho2:(op==61)<;>cases ht:(t==[])<;>cases hy:(o==[])<;>simp_all<;>intros<;>constructor<;>intros<;>first|omega|exact uq ‹_›|exact zl ‹_›|(rw[aC (n:=op+1) (by omega) (by omega)] at *;omega)|(simp_all<;>omega))
def avT(op:Int)(t o:aA)(kids:au)(h:M.aB 12 op t o kids=some true):Cnt 12 op o kids.length:=by
 simp only[M.aB,M.aO,M.bK,M.bg,M.dD,M.dh,M.bI,M.bD,dU,bQ,uV,lH,Int.reduceBEq,Int.reduceLE,Int.reduceLT,Int.reduceSub,Int.reduceAdd,bP,ah] at h;revert h
 all_goals try simp only[Int.reduceBEq,Int.reduceLE,Int.reduceLT,Int.reduceSub,Int.reduceAdd,bP,ah]
 all_goals(cases ho0:(YX op)<;>cases ht:(t==[])<;>cases hy:(o==[])<;>simp_all<;>intros<;>constructor<;>intros<;>first|omega|exact uq ‹_›|exact zl ‹_›|(rw[aC (n:=op+1) (by omega) (by omega)] at *;omega)|(simp_all<;>omega))
def avU(op:Int)(t o:aA)(kids:au)(h:M.aB 15 op t o kids=some true):Cnt 15 op o kids.length:=by
 simp only[M.aB,M.aO,M.bK,M.bg,M.dD,M.dh,M.bI,M.bD,dU,bQ,uV,lH,Int.reduceBEq,Int.reduceLE,Int.reduceLT,Int.reduceSub,Int.reduceAdd,bP,ah] at h;revert h
 all_goals try simp only[Int.reduceBEq,Int.reduceLE,Int.reduceLT,Int.reduceSub,Int.reduceAdd,bP,ah]
 all_goals(cases ho0:(YZ op)<;>cases ht:(t==[])<;>cases hy:(o==[])<;>simp_all<;>intros<;>constructor<;>intros<;>first|omega|exact uq ‹_›|exact zl ‹_›|(rw[aC (n:=op+1) (by omega) (by omega)] at *;omega)|(simp_all<;>omega))
def avV(op:Int)(t o:aA)(kids:au)(h:M.aB 21 op t o kids=some true):Cnt 21 op o kids.length:=by
 simp only[M.aB,M.aO,M.bK,M.bg,M.dD,M.dh,M.bI,M.bD,dU,bQ,uV,lH,Int.reduceBEq,Int.reduceLE,Int.reduceLT,Int.reduceSub,Int.reduceAdd,bP,ah] at h;revert h
 all_goals try simp only[Int.reduceBEq,Int.reduceLE,Int.reduceLT,Int.reduceSub,Int.reduceAdd,bP,ah]
 all_goals(cases ho0:(decide (0<=op))<;>cases ho1:(decide (op<=1))<;>cases ht:(t==[])<;>cases hy:(o==[])<;>cases h1:(o==[62])<;>cases h2:(o==[62,62])<;>cases h3:(o==[124])<;>simp_all<;>intros<;>constructor<;>intros<;>first|omega|exact uq ‹_›|exact zl ‹_›|(rw[aC (n:=op+1) (by omega) (by omega)] at *;omega)|(simp_all<;>omega))
def avW(op:Int)(t o:aA)(kids:au)(h:M.aB 32 op t o kids=some true):Cnt 32 op o kids.length:=by
 simp only[M.aB,M.aO,M.bK,M.bg,M.dD,M.dh,M.bI,M.bD,dU,bQ,uV,lH,Int.reduceBEq,Int.reduceLE,Int.reduceLT,Int.reduceSub,Int.reduceAdd,bP,ah] at h;revert h;cases hn0:M.iF t with
 |none=>cases op==0<;>simp
 |some b0=>_
 cases hn1:M.iF o with
 |none=>cases b0<;>cases op==0<;>simp
 |some b1=>_
 all_goals try simp only[Int.reduceBEq,Int.reduceLE,Int.reduceLT,Int.reduceSub,Int.reduceAdd,bP,ah]
 all_goals(cases ho0:(op==0)<;>cases ht:(t==[])<;>cases hy:(o==[])<;>cases b0<;>cases b1<;>simp_all<;>intros<;>constructor<;>intros<;>first|omega|exact uq ‹_›|exact zl ‹_›|(rw[aC (n:=op+1) (by omega) (by omega)] at *;omega)|(simp_all<;>omega))
def avX(op:Int)(t o:aA)(kids:au)(h:M.aB 34 op t o kids=some true):Cnt 34 op o kids.length:=by
 simp only[M.aB,M.aO,M.bK,M.bg,M.dD,M.dh,M.bI,M.bD,dU,bQ,uV,lH,Int.reduceBEq,Int.reduceLE,Int.reduceLT,Int.reduceSub,Int.reduceAdd,bP,ah] at h;revert h;cases hn0:M.kE 2 t 0 with
 |none=>cases op==0<;>simp
 |some b0=>_
 all_goals try simp only[Int.reduceBEq,Int.reduceLE,Int.reduceLT,Int.reduceSub,Int.reduceAdd,bP,ah]
 all_goals(cases ho0:(op==0)<;>cases ht:(t==[])<;>cases hy:(o==[])<;>cases b0<;>simp_all<;>intros<;>constructor<;>intros<;>first|omega|exact uq ‹_›|exact zl ‹_›|(rw[aC (n:=op+1) (by omega) (by omega)] at *;omega)|(simp_all<;>omega))
def avY(op:Int)(t o:aA)(kids:au)(h:M.aB 42 op t o kids=some true):Cnt 42 op o kids.length:=by have hc:=aeL h;have hr:=hc.rule rfl;constructor<;>intros<;>omega
def avZ(op:Int)(t o:aA)(kids:au)(h:M.aB 43 op t o kids=some true):Cnt 43 op o kids.length:=by have hc:=aeL h;have hr:=hc.range rfl;constructor<;>intros<;>omega
def QA(k:Int)(op:Int)(t o:aA)(kids:au)(j:Nat)(d:Int)(hj:j<kids.length)(hl:kids.length<=400)(hc:Cnt k op o kids.length)(h:M.aH k op t o kids (j:Int) d=some true)(hk:k=1∨k=2∨k=3∨k=4∨k=16∨k=22∨k=25∨k=26∨k=34):yj (cls k op kids.length j) d:=by
 rcases hk with rfl|rfl|rfl|rfl|rfl|rfl|rfl|rfl|rfl
 all_goals
  have hw:i64.wrap ((kids.length:Int) - 1)=(kids.length:Int) - 1:=aC (by omega) (by omega);simp only[M.aH,M.aG,aX,aW,aY,aN,dU,bQ,Int.reduceBEq,Int.reduceLE,Int.reduceLT,Int.reduceSub,Int.reduceAdd,bP,ah] at h
  try rw[hw] at h
  have:=hc.non (by omega);omega
def BI(k:Int)(op:Int)(t o:aA)(kids:au)(j:Nat)(d:Int)(hj:j<kids.length)(hl:kids.length<=400)(hc:Cnt k op o kids.length)(h:M.aH k op t o kids (j:Int) d=some true)(hk:k=5∨k=6∨k=7∨k=8∨k=11∨k=12∨k=13∨k=14∨k=20∨k=21∨k=23∨k=24∨k=27∨k=32∨k=33∨k=40∨k=41∨k=45):yj (cls k op kids.length j) d:=by
 rcases hk with rfl|rfl|rfl|rfl|rfl|rfl|rfl|rfl|rfl|rfl|rfl|rfl|rfl|rfl|rfl|rfl|rfl|rfl
 all_goals
  have hw:i64.wrap ((kids.length:Int) - 1)=(kids.length:Int) - 1:=aC (by omega) (by omega);simp only[M.aH,M.aG,aX,aW,aY,aN,dU,bQ,Int.reduceBEq,Int.reduceLE,Int.reduceLT,Int.reduceSub,Int.reduceAdd,bP,ah] at h
  try rw[hw] at h
  simp[cls,yj,pR,PG,TL,isIt,Bool.cond_eq_ite] at h⊢
  all_goals first|omega|((repeat' split at h)<;>simp_all<;>omega)
def ao2(k:Int)(op:Int)(t o:aA)(kids:au)(j:Nat)(d:Int)(hj:j<kids.length)(hl:kids.length<=400)(hc:Cnt k op o kids.length)(h:M.aH k op t o kids (j:Int) d=some true)(hk:k=9∨k=10):yj (cls k op kids.length j) d:=by
 rcases hk with rfl|rfl
 all_goals
  have hw:i64.wrap ((kids.length:Int) - 1)=(kids.length:Int) - 1:=aC (by omega) (by omega);simp only[M.aH,M.aG,aX,aW,aY,aN,dU,bQ,Int.reduceBEq,Int.reduceLE,Int.reduceLT,Int.reduceSub,Int.reduceAdd,bP,ah] at h
  try rw[hw] at h
  have hn:=hc.one (by omega);obtain rfl:j=0:=by omega
  all_goals(simp[cls,yj,pR,PG,TL,isIt,Bool.cond_eq_ite] at h⊢<;>first|omega|(repeat' split at h)<;>simp_all<;>omega)
def aju(k:Int)(op:Int)(t o:aA)(kids:au)(j:Nat)(d:Int)(hj:j<kids.length)(hl:kids.length<=400)(hc:Cnt k op o kids.length)(h:M.aH k op t o kids (j:Int) d=some true)(hk:k=15∨k=29∨k=30):yj (cls k op kids.length j) d:=by
 rcases hk with rfl|rfl|rfl
 all_goals
  have hw:i64.wrap ((kids.length:Int) - 1)=(kids.length:Int) - 1:=aC (by omega) (by omega);simp only[M.aH,M.aG,aX,aW,aY,aN,dU,bQ,Int.reduceBEq,Int.reduceLE,Int.reduceLT,Int.reduceSub,Int.reduceAdd,bP,ah] at h
  try rw[hw] at h
  have hn:=hc.two (by omega);obtain rfl|rfl:j=0∨j=1:=by omega
  all_goals(simp[cls,yj,pR,PG,TL,isIt,Bool.cond_eq_ite] at h⊢<;>first|omega|(repeat' split at h)<;>simp_all<;>omega)
def av1(op:Int)(t o:aA)(kids:au)(j:Nat)(d:Int)(hj:j<kids.length)(hl:kids.length<=400)(hc:Cnt 28 op o kids.length)(h:M.aH 28 op t o kids (j:Int) d=some true):yj (cls 28 op kids.length j) d:=by
 have hw:i64.wrap ((kids.length:Int) - 1)=(kids.length:Int) - 1:=aC (by omega) (by omega);simp only[M.aH,M.aG,aX,aW,aY,aN,dU,bQ,Int.reduceBEq,Int.reduceLE,Int.reduceLT,Int.reduceSub,Int.reduceAdd,bP,ah] at h
 try rw[hw] at h
 have hn:=hc.cnd (by omega);obtain rfl|rfl|rfl:j=0∨j=1∨j=2:=by omega
 all_goals(simp[cls,yj,pR,PG,TL,isIt,Bool.cond_eq_ite] at h⊢<;>first|omega|(repeat' split at h)<;>simp_all<;>omega)
def av2(op:Int)(t o:aA)(kids:au)(j:Nat)(d:Int)(hj:j<kids.length)(hl:kids.length<=400)(hc:Cnt 31 op o kids.length)(h:M.aH 31 op t o kids (j:Int) d=some true):yj (cls 31 op kids.length j) d:=by
 have hw:i64.wrap ((kids.length:Int) - 1)=(kids.length:Int) - 1:=aC (by omega) (by omega);simp only[M.aH,M.aG,aX,aW,aY,aN,dU,bQ,Int.reduceBEq,Int.reduceLE,Int.reduceLT,Int.reduceSub,Int.reduceAdd,bP,ah] at h
 try rw[hw] at h
 have hn:=hc.four (by omega);obtain rfl|rfl|rfl|rfl:j=0∨j=1∨j=2∨j=3:=by omega
 all_goals(simp[cls,yj,pR,PG,TL,isIt,Bool.cond_eq_ite] at h⊢<;>first|omega|(repeat' split at h)<;>simp_all<;>omega)
def av3(op:Int)(t o:aA)(kids:au)(j:Nat)(d:Int)(hj:j<kids.length)(hl:kids.length<=400)(hc:Cnt 42 op o kids.length)(h:M.aH 42 op t o kids (j:Int) d=some true):yj (cls 42 op kids.length j) d:=by
 have hw:i64.wrap ((kids.length:Int) - 1)=(kids.length:Int) - 1:=aC (by omega) (by omega);simp only[M.aH,M.aG,aX,aW,aY,aN,dU,bQ,Int.reduceBEq,Int.reduceLE,Int.reduceLT,Int.reduceSub,Int.reduceAdd,bP,ah] at h
 try rw[hw] at h
 rcases hc.rule rfl with⟨rfl,h1⟩|⟨rfl,h1⟩|⟨rfl,h1⟩
 ·obtain rfl:j=0:=by omega
  all_goals(simp[cls,yj,pR,PG,TL,isIt,Bool.cond_eq_ite,h1] at h⊢<;>first|omega|(repeat' split at h)<;>simp_all<;>omega)
 ·obtain rfl:j=0:=by omega
  all_goals(simp[cls,yj,pR,PG,TL,isIt,Bool.cond_eq_ite,h1] at h⊢<;>first|omega|(repeat' split at h)<;>simp_all<;>omega)
 ·obtain rfl|rfl:j=0∨j=1:=by omega
  all_goals(simp[cls,yj,pR,PG,TL,isIt,Bool.cond_eq_ite,h1] at h⊢<;>first|omega|(repeat' split at h)<;>simp_all<;>omega)
def av4(op:Int)(t o:aA)(kids:au)(j:Nat)(d:Int)(hj:j<kids.length)(hl:kids.length<=400)(hc:Cnt 43 op o kids.length)(h:M.aH 43 op t o kids (j:Int) d=some true):yj (cls 43 op kids.length j) d:=by
 have hw:i64.wrap ((kids.length:Int) - 1)=(kids.length:Int) - 1:=aC (by omega) (by omega);simp only[M.aH,M.aG,aX,aW,aY,aN,dU,bQ,Int.reduceBEq,Int.reduceLE,Int.reduceLT,Int.reduceSub,Int.reduceAdd,bP,ah] at h
 try rw[hw] at h
 rcases hc.range rfl with⟨rfl,h1⟩|⟨rfl,h1⟩
 ·obtain rfl|rfl:j=0∨j=1:=by omega
  all_goals(simp[cls,yj,pR,PG,TL,isIt,Bool.cond_eq_ite,h1] at h⊢<;>first|omega|(repeat' split at h)<;>simp_all<;>omega)
 ·obtain rfl|rfl|rfl:j=0∨j=1∨j=2:=by omega
  all_goals(simp[cls,yj,pR,PG,TL,isIt,Bool.cond_eq_ite,h1] at h⊢<;>first|omega|(repeat' split at h)<;>simp_all<;>omega)
def av5(op:Int)(t o:aA)(kids:au)(j:Nat)(d:Int)(hj:j<kids.length)(hl:kids.length<=400)(hc:Cnt 44 op o kids.length)(h:M.aH 44 op t o kids (j:Int) d=some true):yj (cls 44 op kids.length j) d:=by
 have hw:i64.wrap ((kids.length:Int) - 1)=(kids.length:Int) - 1:=aC (by omega) (by omega);simp only[M.aH,M.aG,aX,aW,aY,aN,dU,bQ,Int.reduceBEq,Int.reduceLE,Int.reduceLT,Int.reduceSub,Int.reduceAdd,bP,ah] at h
 try rw[hw] at h
 by_cases h1:j+1=kids.length
 ·have e:((j:Int)==(kids.length:Int) - 1)=true:=by rw[beq_iff_eq];omega
  rw[e] at h;simp[cls,yj,h1,Bool.cond_eq_ite] at h⊢
  first|omega|skip
 ·have e:((j:Int)==(kids.length:Int) - 1)=false:=by rw[OV];omega
  rw[e] at h;simp[cls,yj,h1,Bool.cond_eq_ite] at h⊢
  first|omega|skip
def ahU{k op:Int}{t o:aA}{kids:au}(h:M.aB k op t o kids=some true):XV k:=by
 by_cases hk:XV k
 ·exact hk
 ·exfalso;have e1:(decide (k>=1) && decide (k<=16))=false:=by
   cases hq:(decide (k>=1) && decide (k<=16)) with
   |false=>rfl
   |true=>rw[zq,decide_eq_true_eq,decide_eq_true_eq] at hq;exact absurd (Or.inl hq) hk
  have e2:(decide (k>=20) && decide (k<=34))=false:=by
   cases hq:(decide (k>=20) && decide (k<=34)) with
   |false=>rfl
   |true=>rw[zq,decide_eq_true_eq,decide_eq_true_eq] at hq;exact absurd (Or.inr (Or.inl hq)) hk
  have e3:(decide (k>=40) && decide (k<=45))=false:=by
   cases hq:(decide (k>=40) && decide (k<=45)) with
   |false=>rfl
   |true=>rw[zq,decide_eq_true_eq,decide_eq_true_eq] at hq;exact absurd (Or.inr (Or.inr hq)) hk
  simp only[M.aB,M.aO,dU,e1,e2,e3,ah,cu] at h;cases hm:M.bK k op t o kids with
  |none=>rw[hm] at h;cases h
  |some r=>rw[hm,ah] at h;cases h
def av6{k op:Int}{t o:aA}{kids:au}(h:M.aB k op t o kids=some true):Cnt k op o kids.length:=by
 have hk:k=1∨k=2∨k=3∨k=4∨k=5∨k=6∨k=7∨k=8∨k=9∨k=10∨k=11∨k=12∨k=13∨k=14∨k=15∨k=16∨k=20∨k=21∨k=22∨k=23∨k=24∨k=25∨k=26∨k=27∨k=28∨k=29∨k=30∨k=31∨k=32∨k=33∨k=34∨k=40∨k=41∨k=42∨k=43∨k=44∨k=45:=by have:=ahU h;unfold XV at this;omega
 rcases hk with rfl|rfl|rfl|rfl|rfl|rfl|rfl|rfl|rfl|rfl|rfl|rfl|rfl|rfl|rfl|rfl|rfl|rfl|rfl|rfl|rfl|rfl|rfl|rfl|rfl|rfl|rfl|rfl|rfl|rfl|rfl|rfl|rfl|rfl|rfl|rfl|rfl
 ·exact X4 _ _ _ _ _ h (by omega)
 ·exact aFt _ _ _ _ h
 ·exact aFu _ _ _ _ h
 ·exact aFv _ _ _ _ h
 ·exact X4 _ _ _ _ _ h (by omega)
 ·exact DW _ _ _ _ _ h (by omega)
 ·exact X4 _ _ _ _ _ h (by omega)
 ·exact aFw _ _ _ _ h
 ·exact ao1 _ _ _ _ _ h (by omega)
 ·exact ao1 _ _ _ _ _ h (by omega)
 ·exact avS _ _ _ _ h
 ·exact avT _ _ _ _ h
 ·exact X4 _ _ _ _ _ h (by omega)
 ·exact DW _ _ _ _ _ h (by omega)
 ·exact avU _ _ _ _ h
 ·exact DW _ _ _ _ _ h (by omega)
 ·exact DW _ _ _ _ _ h (by omega)
 ·exact avV _ _ _ _ h
 ·exact DW _ _ _ _ _ h (by omega)
 ·exact DW _ _ _ _ _ h (by omega)
 ·exact DW _ _ _ _ _ h (by omega)
 ·exact DW _ _ _ _ _ h (by omega)
 ·exact DW _ _ _ _ _ h (by omega)
 ·exact X4 _ _ _ _ _ h (by omega)
 ·exact DW _ _ _ _ _ h (by omega)
 ·exact DW _ _ _ _ _ h (by omega)
 ·exact DW _ _ _ _ _ h (by omega)
 ·exact DW _ _ _ _ _ h (by omega)
 ·exact avW _ _ _ _ h
 ·exact DW _ _ _ _ _ h (by omega)
 ·exact avX _ _ _ _ h
 ·exact DW _ _ _ _ _ h (by omega)
 ·exact DW _ _ _ _ _ h (by omega)
 ·exact avY _ _ _ _ h
 ·exact avZ _ _ _ _ h
 ·exact X4 _ _ _ _ _ h (by omega)
 ·exact DW _ _ _ _ _ h (by omega)
def av7{k op:Int}{t o:aA}{kids:au}{j:Nat}{d:Int}(hk:XV k)(hj:j<kids.length)(hl:kids.length<=400)(hc:Cnt k op o kids.length)(h:M.aH k op t o kids (j:Int) d=some true):yj (cls k op kids.length j) d:=by
 have hk:k=1∨k=2∨k=3∨k=4∨k=5∨k=6∨k=7∨k=8∨k=9∨k=10∨k=11∨k=12∨k=13∨k=14∨k=15∨k=16∨k=20∨k=21∨k=22∨k=23∨k=24∨k=25∨k=26∨k=27∨k=28∨k=29∨k=30∨k=31∨k=32∨k=33∨k=34∨k=40∨k=41∨k=42∨k=43∨k=44∨k=45:=by unfold XV at hk;omega
 rcases hk with rfl|rfl|rfl|rfl|rfl|rfl|rfl|rfl|rfl|rfl|rfl|rfl|rfl|rfl|rfl|rfl|rfl|rfl|rfl|rfl|rfl|rfl|rfl|rfl|rfl|rfl|rfl|rfl|rfl|rfl|rfl|rfl|rfl|rfl|rfl|rfl|rfl
 ·exact QA _ _ _ _ _ _ _ hj hl hc h (by omega)
 ·exact QA _ _ _ _ _ _ _ hj hl hc h (by omega)
 ·exact QA _ _ _ _ _ _ _ hj hl hc h (by omega)
 ·exact QA _ _ _ _ _ _ _ hj hl hc h (by omega)
 ·exact BI _ _ _ _ _ _ _ hj hl hc h (by omega)
 ·exact BI _ _ _ _ _ _ _ hj hl hc h (by omega)
 ·exact BI _ _ _ _ _ _ _ hj hl hc h (by omega)
 ·exact BI _ _ _ _ _ _ _ hj hl hc h (by omega)
 ·exact ao2 _ _ _ _ _ _ _ hj hl hc h (by omega)
 ·exact ao2 _ _ _ _ _ _ _ hj hl hc h (by omega)
 ·exact BI _ _ _ _ _ _ _ hj hl hc h (by omega)
 ·exact BI _ _ _ _ _ _ _ hj hl hc h (by omega)
 ·exact BI _ _ _ _ _ _ _ hj hl hc h (by omega)
 ·exact BI _ _ _ _ _ _ _ hj hl hc h (by omega)
 ·exact aju _ _ _ _ _ _ _ hj hl hc h (by omega)
 ·exact QA _ _ _ _ _ _ _ hj hl hc h (by omega)
 ·exact BI _ _ _ _ _ _ _ hj hl hc h (by omega)
 ·exact BI _ _ _ _ _ _ _ hj hl hc h (by omega)
 ·exact QA _ _ _ _ _ _ _ hj hl hc h (by omega)
 ·exact BI _ _ _ _ _ _ _ hj hl hc h (by omega)
 ·exact BI _ _ _ _ _ _ _ hj hl hc h (by omega)
 ·exact QA _ _ _ _ _ _ _ hj hl hc h (by omega)
 ·exact QA _ _ _ _ _ _ _ hj hl hc h (by omega)
 ·exact BI _ _ _ _ _ _ _ hj hl hc h (by omega)
 ·exact av1 _ _ _ _ _ _ hj hl hc h
 ·exact aju _ _ _ _ _ _ _ hj hl hc h (by omega)
 ·exact aju _ _ _ _ _ _ _ hj hl hc h (by omega)
 ·exact av2 _ _ _ _ _ _ hj hl hc h
 ·exact BI _ _ _ _ _ _ _ hj hl hc h (by omega)
 ·exact BI _ _ _ _ _ _ _ hj hl hc h (by omega)
 ·exact QA _ _ _ _ _ _ _ hj hl hc h (by omega)
 ·exact BI _ _ _ _ _ _ _ hj hl hc h (by omega)
 ·exact BI _ _ _ _ _ _ _ hj hl hc h (by omega)
 ·exact av3 _ _ _ _ _ _ hj hl hc h
 ·exact av4 _ _ _ _ _ _ hj hl hc h
 ·exact av5 _ _ _ _ _ _ hj hl hc h
 ·exact BI _ _ _ _ _ _ _ hj hl hc h (by omega)
def WS{α:Type}{p:Nat->α->Bool}:∀{l:List α} {i j:Nat} {x:α},OM p l i=true->l[j]? =some x->p (i+j) x=true
 |[],_,j,_,_,h=>by simp at h
 |y::l,i,0,x,h,e=>by rw[OM,zq] at h;cases e;exact h.1
 |y::l,i,j+1,x,h,e=>by
  rw[OM,zq] at h;rw[List.getElem?_cons_succ] at e;have:=WS h.2 e
  rwa [show i+1+j=i+(j+1) by omega] at this
def ao3{k op:Int}{n:Nat}:∀{ks:List Tn} {j:Nat},(∀i t,ks[i]? =some t->yj (cls k op n (j+i)) t.kind∧Az t)->oks k op n ks j
 |[],_,_=>by rw[oks];trivial
 |t::ts,j,h=>by
  rw[oks];have h0:=h 0 t rfl;refine⟨h0.1,h0.2,ao3 λi u hu=> ?_⟩;have:=h (i+1) u (by rw[List.getElem?_cons_succ];exact hu)
  rwa [show j+(i+1)=j+1+i by omega] at this
def aq2{l:List Nd}(hall:OM (np l) l 0=true)(hsm:∀n,n∈l->Small n)(hkl:∀n,n∈l->n.kids.length<=400)(t:Tn):∀b,Lies l b t->Az t:=by
 refine Tn.ind (P:=λt=>∀b,Lies l b t->Az t) ?_ t;intro k op x y ks ih b h;have hr:=h.root;have hm:=Gy hr;have hn:=WS hall hr;unfold np at hn;rw[zq] at hn;have hf:=(abC (hsm _ hm) (hkl _ hm)).1;rw[hn.1] at hf;have hc:=av6 hf;rw[aU,gU] at hc;have hkn:=ahU hf;rw[Az];refine⟨hkn,hc,ao3 λi u hu=>⟨?_,ih u (Gy hu) _ (Lies.OO h hu)⟩⟩;have he:=aeP (b:=b) hu;have hlt:=(G9.1 hu).1;have hk:=WS hn.2 he;have hroot:=Lies.root' (Lies.OO h hu);unfold kp at hk;rw[QS] at hk;have hnd:(TM l (b+sizes (ks.take i)+sizes u.kids)).kind=u.kind:=by rw[TM,hroot]
 rw[hnd] at hk;have hko:=(ajq (hsm _ hm) (hkl _ hm) hn.1 (0+i) (by rw[gU];omega) u.kind).1;rw[hk] at hko;have:=av7 (j:=0+i) hkn (by rw[aU,gU];omega) (by rw[aU];exact hkl _ hm) (by rw[aU,gU];exact hc) hko;rw[aU,gU] at this;exact this
def ajv{t:Tn}(h:Jy (t.flat 0)=true)(hsm:∀n,n∈t.flat 0->Small n):Az t:=by unfold Jy at h;rw[zq,zq] at h;obtain⟨r,hv⟩:=abx h.1;exact aq2 h.2.2 hsm hv.WQ t 0 (Lies.whole t)
def abO(k n:Int)(x:aA)(c:Nat):Bool:=
 bif(!(k==4) && !(n==0))||(!(k==1) && !(x==[])) then false else
 bif k==1 then !(hasB 10 x) && Nat.beq c 0 else bif k==2||k==3 then Nat.beq c 0 else bif k==4 then(decide (0<=n) && decide (n<=40)) && Nat.beq c 1 else
 bif k==5 then Nat.beq c 1 else k==6
mutual
def VB:Tn->Bool
 | .mk k n x _ ks=>BJ ks && abO k n x ks.length
def BJ:List Tn->Bool
 |[]=>true
 |t::ts=>(VB t) && BJ ts
end
mutual
def KR:Tn->Option (aA)
 | .mk k _ x _ ks=>bif k==1 then some x else bif k==2 then some [32] else bif k==3 then none else Jz ks
def Jz:List Tn->Option (aA)
 |[]=>some []
 |t::ts=>match(KR t) with
  |none=>none
  |some a=>match Jz ts with
   |none=>none
   |some b=>some (a++b)
end
mutual
def bh:Tn->Nat×Bool
 | .mk k _ x _ ks=>bif k==2||k==3 then(0,true) else((bif k==1 then x.length else 0)+(bhs ks).1,(bhs ks).2)
def bhs:List Tn->Nat×Bool
 |[]=>(0,false)
 |t::ts=>bif(bh t).2 then(bh t) else((bh t).1+(bhs ts).1,(bhs ts).2)
end
abbrev Pc:=Tn×Int×Bool
def aQn(w col:Int)(t:Tn)(st:List Pc):Bool:=match(KR t) with
 |some s=>decide ((s.length:Int)+(bhs (st.map (·.1))).1<=w - col)
 |none=>false
def brk(out:aA)(i:Int):aA:=out++(10::List.replicate i.toNat 32)
def lay(w:Int):Nat->List Pc->aA->Int->aA
 |0,_,out,_=>out
 |_+1,[],out,_=>out
 |n+1,(.mk k m x y ks,i,f)::st,out,col=>
  bif k==1 then lay w n st (out++x) (col+x.length) else
  bif k==2 && f then lay w n st (out++[32]) (col+1) else
  bif k==2||k==3 then lay w n st (brk out i) i else
  bif k==4 then lay w n (ks.map (λt=>(t,i+m,f))++st) out col else
  bif k==5 then lay w n (ks.map (λt=>(t,i,f||aQn w col (.mk k m x y ks) st))++st) out col else
  lay w n (ks.map (λt=>(t,i,f))++st) out col
def Vo{a b:Int×Int}(c:Bool)(ha:(1<=a.1∧a.1<=14)∧1<=a.2∧a.2<=14)(hb:(1<=b.1∧b.1<=14)∧1<=b.2∧b.2<=14):(1<=(bif c then a else b).1∧(bif c then a else b).1<=14)∧1<=(bif c then a else b).2∧(bif c then a else b).2<=14:=by cases c<;>assumption
def ahV(op:Int):(1<=(sides op).1∧(sides op).1<=14)∧1<=(sides op).2∧(sides op).2<=14:=by unfold sides;exact Vo _ (by decide) (Vo _ (by decide) (Vo _ (by decide) (Vo _ (by decide) (Vo _ (by decide) (Vo _ (by decide) (Vo _ (by decide) (by decide)))))))
def aeR(k op:Int)(j:Nat):1<=Qv k op j∧Qv k op j<=14:=by have h:=ahV op;unfold Qv;exact EZ _ (EZ _ (by decide) (by decide)) (EZ _ (EZ _ (by decide) (by decide)) (EZ _ (by decide) (EZ _ (by decide) (EZ _ (EZ _ h.1 h.2) (by decide)))))
def qo{k op:Int}{n j:Nat}{p:Ps}(hp:jX p=true)(hj:j<n)(hl:lvl k op≠0):jX (bZ k op n j p)=true:=by
 have h1:Nat.blt j n=true:=by rw[Nat.blt_eq];exact hj
 have h2:(lvl k op==0)=false:=by simpa using hl
 unfold bZ;rw[hp,h1,h2];simp only[Bool.not_true,Bool.or_false,cu];cases(lvl k op==15||(k==13 && Nat.blt 1 n)) with
 |true=>rfl
 |false=>
  have hr:=aeR k op j;simp only[cu,jX];rw[zdt hr.1,zdt (show Qv k op j<=15 by omega)]
  by_cases h6:k=6
  ·subst h6;rfl
  ·have:(k==6)=false:=by simpa using h6
   rw[this];rfl
def Sl{k op:Int}{n:Nat}{p q:Ps}(h:∀j,j<n->bZ k op n j p=bZ k op n j q):∀(ts:List Tn) (j:Nat),j+ts.length=n->gW k op n p ts j=gW k op n q ts j
 |[],_,_=>by rw[gW,gW]
 |t::ts,j,hj=>by rw[ng] at hj;rw[gW,gW,h j (by omega),Sl h ts (j+1) (by omega)]
def Y5{k op:Int}{n:Nat}{p q:Ps}(h:∀j,j<n->bZ k op n j p=bZ k op n j q):∀(ts:List Tn) (j:Nat),j+ts.length=n->kS k op n p ts j=kS k op n q ts j
 |[],_,_=>by rw[kS,kS]
 |t::ts,j,hj=>by rw[ng] at hj;rw[kS,kS,h j (by omega),Y5 h ts (j+1) (by omega)]
def DX{k op:Int}{n j:Nat}{p:Ps}(hp:jX p=true)(hj:j<n)(hl:lvl k op=15):bZ k op n j p=.top:=by
 have h1:Nat.blt j n=true:=by rw[Nat.blt_eq];exact hj
 unfold bZ;rw[hp,h1,hl];rfl
def QB{k op:Int}(h:13<=lvl k op)(he:1<=k∧k<=15):lvl k op=15∨k=6∨k=9∨k=10:=by
 have hk:k=1∨k=2∨k=3∨k=4∨k=5∨k=6∨k=7∨k=8∨k=9∨k=10∨k=11∨k=12∨k=13∨k=14∨k=15:=by omega
 rcases hk with rfl|rfl|rfl|rfl|rfl|rfl|rfl|rfl|rfl|rfl|rfl|rfl|rfl|rfl|rfl
 all_goals first
  |(left;rfl)
  |(right;simp;done)
  |(exfalso;have h2:=(abL op).2;have h3:lvl 12 op=vG op:=rfl;omega)
  |(exfalso;revert h;simp[lvl];done)
def aeS{k op:Int}(h:k=1∨k=5∨k=6):13<=lvl k op∧(1<=k∧k<=15):=by rcases h with rfl|rfl|rfl<;>simp[lvl]
def Y6{k op:Int}{a b c:Bool}{i j:Bool}(hl:lvl k op≠0):fits k op ⟨14,true,a,b,false⟩=fits k op ⟨14,true,i,j,false⟩:=by
 have e:∀a b,fits k op ⟨14,true,a,b,false⟩=(k==9||decide (14<=lvl k op)):=by
  intro a b;have h2:(lvl k op==0)=false:=by simpa using hl
  unfold fits;rw[h2,show jX ⟨14,true,a,b,false⟩=true from rfl];simp only[Bool.not_true,Bool.or_false,cu,Bool.false_and,Bool.true_and]
  by_cases h13:k=13
  ·subst h13;have:lvl 13 op=5:=rfl;rw[this];cases a<;>cases b<;>rfl
  ·have e13:(k==13)=false:=by simpa using h13
   rw[e13,Bool.and_false,cu]
   by_cases h12:k=12∧op=62
   ·obtain⟨rfl,rfl⟩:=h12;cases b<;>rfl
   ·have e12:(k==12 && op==62)=false:=by rw[Bool.and_eq_false_iff,OV,OV];omega
    rw[e12,Bool.and_false,cu]
 rw[e,e]
def ajw(t:Tn):(Az t)->13<=lvl t.kind t.op->(Qw t)->∀p q,jX p=true->jX q=true->rM t p=rM t q:=by
 refine Tn.ind (P:=λt=>(Az t)->13<=lvl t.kind t.op->(Qw t)->∀p q,jX p=true->jX q=true->rM t p=rM t q) ?_ t;intro k op x y ks ih hok hl he p q hp hq;simp only[Tn.kind,Tn.op] at hl;simp only[Qw,Tn.kind] at he;rw[rM,rM];congr 1;rcases QB hl he with h|h
 ·exact Sl (λj hj=>by rw[DX hp hj h,DX hq hj h]) ks 0 (by omega)
 ·have hn:ks.length=1:=(I4 hok).one (by omega);obtain⟨u,rfl⟩:=ZF.1 hn;obtain⟨hue,huo⟩:=Sj hok he (i:=0) (t:=u) rfl;obtain⟨huc,_⟩:=OQ hok (i:=0) (t:=u) rfl;have hlu:1<=lvl u.kind u.op∧lvl u.kind u.op<=15:=by cases u;exact KE hue (I4 huo)
  have hlk:lvl k op≠0:=by omega
  have kp:=qo (n:=[u].length) (j:=0) hp (by simp) hlk;have kq:=qo (n:=[u].length) (j:=0) hq (by simp) hlk;rw[gW,gW,gW,gW];congr 1;rcases h with rfl|h
  ·have e1:∀r:Ps,jX r=true->bZ 6 op [u].length 0 r=⟨14,true,r.oV,r.oW,false⟩:=by intro r hr;unfold bZ;rw[hr];rfl
   rw[e1 p hp] at kp⊢;rw[e1 q hq] at kq⊢;have ht:ni 6 0=false:=rfl;rw[ht,Bool.false_or,Bool.false_or,Y6 (c:=false) (i:=q.oV) (j:=q.oW) (by omega)];cases hf:fits u.kind u.op ⟨14,true,q.oV,q.oW,false⟩ with
   |false=>rfl
   |true=>
    have av8:13<=lvl u.kind u.op:=by
     unfold fits at hf;revert hf;cases(!(jX ⟨14,true,q.oV,q.oW,false⟩)||lvl u.kind u.op==0)<;>cases(q.oV && u.kind==13)<;>cases(q.oW &&(u.kind==12 && u.op==62))<;>simp;intro hf;rcases hf with h9|h14
     ·rw[h9];exact(show(13:Int)<=13 by omega)
     ·omega
    rw[aT,aT];exact ih u (by simp) huo av8 hue _ _ kp kq
  ·have ht:ni k 0=true:=by rcases h with rfl|rfl<;>rfl
   rw[ht,Bool.true_or,aT,Bool.true_or,aT];have hc6:cls k op [u].length 0=6:=by unfold cls;rw[if_pos (by omega)]
   rw[hc6] at huc;exact ih u (by simp) huo (aeS huc).1 hue _ _ kp kq
def ajx(t:Tn):(Az t)->13<=lvl t.kind t.op->(Qw t)->∀p q,jX p=true->jX q=true->kY t p=kY t q:=by
 refine Tn.ind (P:=λt=>(Az t)->13<=lvl t.kind t.op->(Qw t)->∀p q,jX p=true->jX q=true->kY t p=kY t q) ?_ t;intro k op x y ks ih hok hl he p q hp hq;simp only[Tn.kind,Tn.op] at hl;simp only[Qw,Tn.kind] at he;have hT:gW k op ks.length p ks 0=gW k op ks.length q ks 0∨k=6∨k=9∨k=10:=by
  rcases QB hl he with h|h
  ·exact .inl (Sl (λj hj=>by rw[DX hp hj h,DX hq hj h]) ks 0 (by omega))
  ·exact .inr h
 rw[kY,kY];have hg:∀g g' L,k≠11->NU k op ks.length x g L=NU k op ks.length x g' L:=by
  intro g g' L h11;have:(k==11)=false:=by simpa using h11
  unfold NU;rw[this];rfl
 have h11:k≠11:=by
  rcases QB hl he with h|h
  ·rintro rfl;exact absurd h (by change¬(11:Int)=15;decide)
  ·omega
 rw[hg _ (abJ op (gW k op ks.length q ks 0)) _ h11];congr 1;rcases QB hl he with h|h
 ·exact Y5 (λj hj=>by rw[DX hp hj h,DX hq hj h]) ks 0 (by omega)
 ·have hn:ks.length=1:=(I4 hok).one (by omega);obtain⟨u,rfl⟩:=ZF.1 hn;obtain⟨hue,huo⟩:=Sj hok he (i:=0) (t:=u) rfl;obtain⟨huc,_⟩:=OQ hok (i:=0) (t:=u) rfl;have hlu:1<=lvl u.kind u.op∧lvl u.kind u.op<=15:=by cases u;exact KE hue (I4 huo)
  have hlk:lvl k op≠0:=by omega
  have kp:=qo (n:=[u].length) (j:=0) hp (by simp) hlk;have kq:=qo (n:=[u].length) (j:=0) hq (by simp) hlk;rw[kS,kS,kS,kS];congr 1;rcases h with rfl|h
  ·have e1:∀r:Ps,jX r=true->bZ 6 op [u].length 0 r=⟨14,true,r.oV,r.oW,false⟩:=by intro r hr;unfold bZ;rw[hr];rfl
   rw[e1 p hp] at kp⊢;rw[e1 q hq] at kq⊢;have ht:ni 6 0=false:=rfl;rw[ht,Bool.false_or,Bool.false_or,Y6 (c:=false) (i:=q.oV) (j:=q.oW) (by omega)];cases hf:fits u.kind u.op ⟨14,true,q.oV,q.oW,false⟩ with
   |false=>rfl
   |true=>
    have av8:13<=lvl u.kind u.op:=by
     unfold fits at hf;revert hf;cases(!(jX ⟨14,true,q.oV,q.oW,false⟩)||lvl u.kind u.op==0)<;>cases(q.oV && u.kind==13)<;>cases(q.oW &&(u.kind==12 && u.op==62))<;>simp;intro hf;rcases hf with h9|h14
     ·rw[h9];exact(show(13:Int)<=13 by omega)
     ·omega
    rw[aT,aT];exact ih u (by simp) huo av8 hue _ _ kp kq
  ·have ht:ni k 0=true:=by rcases h with rfl|rfl<;>rfl
   rw[ht,Bool.true_or,aT,Bool.true_or,aT];have hc6:cls k op [u].length 0=6:=by unfold cls;rw[if_pos (by omega)]
   rw[hc6] at huc;exact ih u (by simp) huo (aeS huc).1 hue _ _ kp kq
end Go.Proofs.YtbgadfelmhoheaaGreatDoor
