import Derived.Test.YtflhkdjglihbmaaGreatDoorZDepth
set_option linter.defProp false
set_option linter.unusedVariables false
set_option linter.unusedSimpArgs false
open Go.IntKind (i64)
namespace Go.Proofs.YtflhkdjglihbmaaGreatDoor
open Go Go.Vm
def Wn{α:Type}(p:Nat->α->Bool):List α->Nat->Bool
 |[],_=>true
 |x::l,i=>p i x && Wn p l (i+1)
def abG{α:Type}(l:List α)(p:Nat->α->Bool){b:Int->Option (Int⊕(Unit⊕Int))}
  (hb:∀(i:Nat) x,l[i]? =some x->b (i:Int)=some (bif p i x then .inl ((i:Int)+1) else .inr (.inl ()))) (he:b (l.length:Int)=some (.inr (.inr (l.length:Int)))):
  fV b 0=some (bif Wn p l 0 then .inr (l.length:Int) else .inl ()):=by
 have key:∀(t:List α) (i:Nat),l.drop i=t->i<=l.length->fV b (i:Int)=some (bif Wn p t i then .inr (l.length:Int) else .inl ()):=by
  intro t;induction t with
  |nil=>
   intro i hd hi;have:i=l.length:=by have:=congrArg List.length hd;simp at this;omega
   subst this;exact aV he
  |cons x t ih=>
   intro i hd hi;have hx:l[i]? =some x:=by
    have:(l.drop i)[0]? =some x:=by rw[hd];rfl
    simpa using this
   have hlt:i<l.length:=(QV.1 hx).1;have hd':l.drop (i+1)=t:=by rw[<-List.drop_drop,hd];rfl
   have hs:=hb i x hx;rw[Wn];cases hw:p i x with
   |true=>rw[hw,aH] at hs;rw[bY hs,show(i:Int)+1=((i+1:Nat):Int) by omega,ih (i+1) hd' hlt,Bool.true_and]
   |false=>rw[hw,bC] at hs;rw[aV hs];rfl
 exact key l 0 rfl (Nat.zero_le _)
noncomputable def fOk(n:Nd):Bool:=(M.aG n.kind n.op n.text n.other (encI n.kids)).getD false
noncomputable def kOk(n:Nd)(j:Int)(d:Int):Bool:=(M.aW n.kind n.op n.text n.other (encI n.kids) j d).getD false
structure Small(n:Nd):Prop where
 text:n.text.length<=1048576
 other:n.other.length<=1048576
def apa{n:Nd}(hs:Small n)(hk:n.kids.length<=400):M.aG n.kind n.op n.text n.other (encI n.kids)=some (fOk n)/\M.jA n.kind n.op n.text n.other (encI n.kids)=some (fOk n):=by obtain⟨b,h1,h2⟩:=ar5 n.kind n.op n.text n.other (encI n.kids) hs.text hs.other (by rw[dV];exact hk);rw[fOk,h1];exact⟨rfl,h2⟩
def auk{n:Nd}(hs:Small n)(hk:n.kids.length<=400)(hf:fOk n=true)(j:Nat)(hj:j<n.kids.length)(d:Int):
  M.aW n.kind n.op n.text n.other (encI n.kids) (j:Int) d=some (kOk n j d)/\M.gU n.kind n.op n.text n.other (encI n.kids) (j:Int) d=some (kOk n j d):=by
 have hc:=ao8 (k:=n.kind) (op:=n.op) (t:=n.text) (o:=n.other) (kids:=encI n.kids) (by rw[(apa hs hk).1,hf]);obtain⟨b,h1,h2⟩:=aIa n.kind n.op n.text n.other (encI n.kids) (j:Int) d ak (by rw[dV];omega) (by rw[dV];exact hk) hc;rw[kOk,h1];exact⟨rfl,h2⟩
def avW:∀(l:List Int),(∀x,x∈l->1<=x)->(l.length:Int)<=abE l
 |[],_=>by simp[abE]
 |x::l,h=>by
  have:=avW l λy hy=>h y (zmm _ hy)
  have:=h x zmf;simp only[GX,abE];omega
section
variable {l:List Nd} {r:List Int} {o:Bool}
def Val.afU(h:Val l r){i:Nat}{n:Nd}(hn:l[i]? =some n):n.kids.length<=400:=by have hil:=(QV.1 hn).1;have h1:=h.sum hn;have h2:=avW (n.kids.map (sz r)) (λx hx=>by obtain⟨k,hk,rfl⟩:=List.mem_map.1 hx;exact(h.aAl (h.kids hn k hk).1).1);rw[zaW] at h2;have h3:=(h.aAl (k:=(i:Int)) ak).2;have:=h.le;omega
def Val.akS(h:Val l r):∀n,n∈l->n.kids.length<=400:=λn hn=>by obtain⟨i,hi⟩:=List.mem_iff_getElem?.1 hn;exact h.afU hi
noncomputable def kp(l:List Nd)(n:Nd)(j:Nat)(k:Int):Bool:=kOk n j (ZW l k.toNat).kind
def akT(h:Val l r)(hsm:∀n,n∈l->Small n){i:Nat}{n:Nd}(hn:l[i]? =some n)(hf:fOk n=true)(v10:au)(v11 v12:Int):
  M.Ko (dQ o l) (i:Int) 0=some (bif Wn (kp l n) n.kids 0 then .inr (n.kids.length:Int) else .inl ())/\
  M.KF (dQ o l) v10 v11 v12 (encI n.kids) (n.kids.length:Int) n.kind n.op n.text n.other (encI n.kids) 0=some (bif Wn (kp l n) n.kids 0 then .inr (n.kids.length:Int) else .inl ()):=by
 have hkl:=h.afU hn;have hs:=hsm n (UK hn);have step:∀(j:Nat) k,n.kids[j]? =some k->∃(q:Nat) (m:Nd),k=(q:Int)/\l[q]? =some m/\(ZW l k.toNat).kind=m.kind:=by
  intro j k hj;have hkr:=h.kids hn k (UK hj);have hil:=(QV.1 hn).1;obtain⟨q,hq⟩:∃q:Nat,k=q:=⟨k.toNat,ak⟩
  obtain⟨m,hm⟩:∃m,l[q]? =some m:=⟨l[q]'ak,by simp⟩
  refine⟨q,m,hq,hm, ?_⟩;rw[hq,ztn,ZW,hm]
 constructor
 ·rw[M.Ko];refine abG n.kids (kp l n) (λj k hj=> ?_) ?_
  ·obtain⟨q,m,hq,hm,he⟩:=step j k hj;have hjl:=(QV.1 hj).1;have hok:=(auk hs hkl hf j hjl m.kind).1;rw[kp,he];subst hq;simp only[yJ,M.Rz,M.Gg,cO,qW,hn,hm,MI,ah,XK,YF,YG,YH,VN,dV,zO,hj,YV,hok];rw[zdt ak,aH,aJ ak ak];cases kOk n j m.kind<;>rfl
  ·simp only[yJ,M.Rz,M.Gg,cO,qW,hn,MI,ah,VN,dV];rw[xK ak,bC]
 ·rw[M.KF];refine abG n.kids (kp l n) (λj k hj=> ?_) ?_
  ·obtain⟨q,m,hq,hm,he⟩:=step j k hj;have hjl:=(QV.1 hj).1;have hok:=(auk hs hkl hf j hjl m.kind).2;rw[kp,he];subst hq;simp only[M.RJ,M.GL,cO,qW,hm,MI,ah,XK,zO,hj,YV,hok];rw[zdt ak,aH,aJ ak ak];cases kOk n j m.kind<;>rfl
  ·simp only[M.RJ,M.GL];rw[xK ak,bC]
noncomputable def np(l:List Nd)(_:Nat)(n:Nd):Bool:=fOk n && Wn (kp l n) n.kids 0
def ah9(h:Val l r)(hsm:∀n,n∈l->Small n):
  M.Kq (dQ o l) 0=some (bif Wn (np l) l 0 then .inr (l.length:Int) else .inl ())/\
  M.KG (dQ o l) (dQ o l) (l.length:Int) 0=some (bif Wn (np l) l 0 then .inr (l.length:Int) else .inl ()):=by
 have hle:=h.le;constructor
 ·rw[M.Kq];refine abG l (np l) (λi n hi=> ?_) ?_
  ·have hil:=(QV.1 hi).1;have hf:=(apa (hsm n (UK hi)) (h.afU hi)).1;simp only[yJ,M.RD,M.Gi,jd,cO,qW,hi,MI,ah,XK,YF,YG,YH,VN,hf,np];rw[zdt ak,aH,aJ ak ak];cases hff:fOk n with
   |false=>rfl
   |true=>have:=(akT (o:=o) h hsm hi hff [] 0 0).1;rw[zaU,bC,this,ah];cases Wn (kp l n) n.kids 0<;>rfl
  ·simp only[yJ,M.RD,M.Gi,jd];rw[xK ak,bC]
 ·rw[M.KG];refine abG l (np l) (λi n hi=> ?_) ?_
  ·have hil:=(QV.1 hi).1;have hf:=(apa (hsm n (UK hi)) (h.afU hi)).2;simp only[yJ,M.RN,M.GN,cO,qW,hi,MI,ah,XK,YF,YG,YH,VN,hf,np,dV];rw[zdt ak,aH,aJ ak ak];cases hff:fOk n with
   |false=>rfl
   |true=>have:=(akT (o:=o) h hsm hi hff (dQ o l) (l.length:Int) (i:Int)).2;rw[zaU,bC,this,ah];cases Wn (kp l n) n.kids 0<;>rfl
  ·simp only[yJ,M.RN,M.GN];rw[xK ak,bC]
end
noncomputable def KL(l:List Nd):Bool:=Jg l &&(decide (depth l<=40) && Wn (np l) l 0)
section
variable (l:List Nd) (o:Bool) (hl:l.length<=1048576) (hk:∀n,n∈l->n.kids.length<=1048576) (hsm:∀n,n∈l->Small n)
include hl hk hsm
theorem abH:M.Bj (dQ o l)=some (KL l):=by
 simp only[M.Bj,M.Td,ZF l o hl hk,aiL l o hl hk,ah,KL];cases hs:Jg l with
 |false=>rfl
 |true=>
  obtain⟨r,h⟩:=ao9 hs;rw[zaU,bC,(ah9 (o:=o) h hsm).1,ah,Bool.true_and]
  by_cases hd:depth l<=40
  ·rw[xK (show¬depth l>40 by omega),bC,zdt hd,Bool.true_and];cases Wn (np l) l 0<;>rfl
  ·rw[zdt (show depth l>40 by omega),aH,xK hd];rfl
theorem akU:M.Hl (dQ o l)=some (KL l):=by
 simp only[M.Hl,M.TS,aiK l o hl hk,ah,KL,jd];cases hs:Jg l with
 |false=>rfl
 |true=>
  obtain⟨r,h⟩:=ao9 hs;have h1:=h.pos;have h2:=h.le;obtain⟨n,hn⟩:∃n,l[l.length - 1]? =some n:=⟨l[l.length - 1]'ak,by simp⟩
  have ht:=anM (o:=o) h h.akS l.length (l.length - 1) n ak hn;have hd:=asc h h.akS l.length (l.length - 1) n n.kind n.op n.text n.other ak ak hn;rw[zaU,bC,(ah9 (o:=o) h hsm).2,ah,Bool.true_and];simp only[M.J8,M.TR,jd];rw[aJ ak ak,show(l.length:Int) - 1=((l.length - 1:Nat):Int) by omega,M.akJ ht,ah,ah];simp only;rw[M.Wi hd,ah,depth,if_pos hs];cases Wn (np l) l 0<;>simp[kD,letE]
theorem aia(ht:KL l=true):∃n,l.getLast? =some n/\idx (dQ o l) (i64.wrap ((l.length:Int) - 1))=some (YU o n):=by
 unfold KL at ht;rw[BK] at ht;have hp:=anK ht.1;have hn:l≠[]:=by rintro rfl;simp at hp
 obtain⟨n,hn⟩:∃n,l.getLast? =some n:=⟨_,List.getLast?_eq_some_getLast hn⟩
 have hn':l[l.length - 1]? =some n:=by rw[<-List.getLast?_eq_getElem?];exact hn
 refine⟨n,hn, ?_⟩;rw[aJ ak ak,show(l.length:Int) - 1=((l.length - 1:Nat):Int) by omega,cO,qW,hn'];rfl
end
@[simp] theorem aJp(l:List Int):Nh (encI l)=true:=by
 induction l with
 |nil=>rfl
 |cons x l ih=>simp only[encI,zmc] at ih|-;simp[Nh,gI,D.pure,ih]
@[simp] theorem aJq(l:List Int):[[D.sl true 1 (encI l)]].all gI=true:=by simp[gI,D.pure]
def QL(o:Bool)(a b:List Nd):dQ o (a++b)=dQ o a++dQ o b:=by simp[dQ]
def aul(w:Bool):∀t:Tn,t.row w=[.int .i64 t.kind,.int .i64 t.op,.str t.text,.str t.other,.sl w 5 (dO w t.kids)]
 | .mk k o x y ks=>rfl
def AV(w:Bool)(a b:List Tn):dO w (a++b)=dO w a++dO w b:=by simp[X7]
def dJ(w:Bool)(a:List Tn):(dO w a).length=a.length:=by simp[X7]
def tu{α:Type}{l:List α}{j:Nat}{t:α}(h:l[j]? =some t):l.take (j+1)=l.take j++[t]:=by rw[List.take_add_one,h];rfl
def ase{α:Type}{l:List α}{j:Nat}{t:α}(h:l[j]? =some t):l=l.take j++t::l.drop (j+1):=by obtain⟨hj,rfl⟩:=QV.1 h;rw[<-List.drop_eq_getElem_cons hj,List.take_append_drop]
def OH{ks:List Tn}{j:Nat}{t:Tn}(h:ks[j]? =some t):sizes (ks.take j)+t.size<=sizes ks:=by have:=congrArg sizes (ase h);rw[vP,sizes] at this;omega
section
variable {l:List Nd} {b:Nat} {k op:Int} {x y:aC} {ks:List Tn}
def Lies.ahe(h:Lies l b (.mk k op x y ks)){j:Nat}{t:Tn}(hj:ks[j]? =some t):Lies l (b+sizes (ks.take j)) t:=by have e:=ase hj;rw[e] at h;exact h.kid
def ai5{j:Nat}{t:Tn}(hj:ks[j]? =some t):(ends ks b)[j]? =some ((b+sizes (ks.take j)+sizes t.kids:Nat):Int):=by have hlt:=(QV.1 hj).1;have hs:=t.agP;rw[ay8 hlt,tu hj,vP,sizes,sizes];congr 1;omega
def Lies.root'{t:Tn}(h:Lies l b t):l[b+sizes t.kids]? =some ⟨t.kind,t.op,t.text,t.other,ends t.kids b⟩:=by cases t;exact h.root
def ahf{j:Nat}{t:Tn}(hj:ks[j]? =some t):ends (ks.take (j+1)) b=ends (ks.take j) b++[((b+sizes (ks.take j)+t.size:Nat):Int) - 1]:=by rw[tu hj,aar,ends,ends];congr 2<;>omega
def aeX{j:Nat}{t:Tn}(hj:ks[j]? =some t):lG (ks.take (j+1)) b=lG (ks.take j) b++t.flat (b+sizes (ks.take j)):=by rw[tu hj,YW,lG,lG,List.append_nil]
def ends_range:∀(ks:List Tn) (b:Nat),∀e,e∈ends ks b->(b:Int)<=e/\e<b+sizes ks
 |[],b,e,h=>by simp[ends] at h
 |t::ts,b,e,h=>by
  have hp:=t.size_pos;rw[ends] at h;have hs:(sizes (t::ts):Int)=t.size+sizes ts:=by rw[sizes];omega
  rcases List.mem_cons.1 h with rfl|h
  ·omega
  ·have:=ends_range ts _ e h;omega
end
mutual
def Vw:∀(t:Tn) (b:Nat),∀n,n∈t.flat b->n.kids.length<=t.size/\∀e,e∈n.kids->(0:Int)<=e/\e<b+t.size
 | .mk k o x y ks,b,n,h=>by
  rw[Tn.flat] at h;rw[Tn.size];rcases List.mem_append.1 h with h|h
  ·have:=akV ks b n h;exact⟨ak,λe he=>by have:=this.2 e he;omega⟩
  ·simp only[List.mem_singleton] at h;subst h;refine⟨by simp only[jE];have:=DK ks;omega,λe he=> ?_⟩;have:=ends_range ks b e he;omega
def akV:∀(ks:List Tn) (b:Nat),∀n,n∈lG ks b->n.kids.length<=sizes ks/\∀e,e∈n.kids->(0:Int)<=e/\e<b+sizes ks
 |[],b,n,h=>by simp[lG] at h
 |t::ts,b,n,h=>by
  rw[lG] at h;rw[sizes];rcases List.mem_append.1 h with h|h
  ·have:=Vw t b n h;exact⟨ak,λe he=>by have:=this.2 e he;omega⟩
  ·have:=akV ts _ n h;exact⟨ak,λe he=>by have:=this.2 e he;omega⟩
end
def aIb(t:Tn):∀(f:Nat) (w:Bool) (p:List Nd),t.size<=f->p.length+t.size<=1048576->
  M.kT f t.kind t.op t.text t.other (dO w t.kids) (dQ true p)=some (dQ true (p++t.flat p.length)):=by
 refine Tn.ind (P:=λt=>∀(f:Nat) (w:Bool) (p:List Nd),t.size<=f->p.length+t.size<=1048576->M.kT f t.kind t.op t.text t.other (dO w t.kids) (dQ true p)=some (dQ true (p++t.flat p.length))) ?_ t;intro k op x y ks ih f w p hf hp;cases f with
 |zero=>rw[Tn.size] at hf;omega
 |succ f=>
  rw[Tn.size] at hf hp;have hkl:=DK ks;simp only[yJ,M.kT,M.IZ,Tn.kids,Tn.kind,Tn.op,Tn.text,Tn.other,dJ];have hrec:∀j t,ks[j]? =some t->M.kT f t.kind t.op t.text t.other (dO w t.kids) (dQ true (p++lG (ks.take j) p.length))=some (dQ true (p++lG (ks.take (j+1)) p.length)):=by
   intro j t hj;have hst:=OH hj;have hfl:(p++lG (ks.take j) p.length).length=p.length+sizes (ks.take j):=by rw[Ai,tH]
   have:=ih t (UK hj) f w (p++lG (ks.take j) p.length) ak (by rw[hfl];omega);rw[this,hfl,aeX hj,WC]
  have hloop:=uJ (b:=M.yt (M.kT f))
   (t:=if ks=[] then .inl (dO w ks,(ks.length:Int),0,dQ true p,k,op,x,y) else .inr (dO w ks,(ks.length:Int),(ks.length:Int),dQ true (p++lG ks p.length),k,op,x,y,encI (ends ks p.length)))
   (λj=>if j=0 then .inl (dO w ks,(ks.length:Int),0,dQ true p,k,op,x,y) else .inr (dO w ks,(ks.length:Int),(j:Int),dQ true (p++lG (ks.take j) p.length),k,op,x,y,encI (ends (ks.take j) p.length))) ks.length
   (by
    intro j hj;obtain⟨t,ht⟩:∃t,ks[j]? =some t:=⟨ks[j],by simp⟩
    have hr:=hrec j t ht;have hst:=OH ht;have hp1:=t.size_pos;have hg:(dO w ks)[j]? =some (t.row w):=by rw[X7];simp[ht]
    have hc0:jD .i64 (t.row w) 0=some t.kind:=by cases t;rfl
    have hc1:jD .i64 (t.row w) 1=some t.op:=by cases t;rfl
    have hc2:cStr (t.row w) 2=some t.text:=by cases t;rfl
    have hc3:cStr (t.row w) 3=some t.other:=by cases t;rfl
    have hc4:cSl 5 (t.row w) 4=some (dO w t.kids):=by cases t;rfl
    have hfl:(dQ true (p++lG (ks.take (j+1)) p.length)).length=p.length+sizes (ks.take j)+t.size:=by rw[jd,Ai,tH,tu ht,vP,sizes,sizes];omega
    rw[if_neg (show¬j+1=0 by omega),ahf ht]
    by_cases h0:j=0
    ·subst h0;rw[if_pos rfl];have hi:idx (dO w ks) 0=some (t.row w):=by have:=cO (dO w ks) 0;rw[ND] at this;rw[this,hg]
     have hr0:M.kT f t.kind t.op t.text t.other (dO w t.kids) (dQ true p)=some (dQ true (p++lG (ks.take (0+1)) p.length)):=by rw[<-hr];simp[lG]
     simp only[yJ,M.yt,M.uI,hi,ah,hc0,hc1,hc2,hc3,hc4,hr0,hfl];rw[zdt ak,aH,aJ ak ak,aJ ak ak];rfl
    ·rw[if_neg h0];simp only[yJ,M.yt,M.uI,cO,hg,ah,hc0,hc1,hc2,hc3,hc4,hr,hfl,dV,jE,zlt,Jj];rw[zdt ak,aH,bI ak,aH,bI ak,aH,aJ ak ak,aJ ak ak];simp[encI])
   (by
    by_cases h0:ks.length=0
    ·have he:ks=[]:=List.length_eq_zero_iff.1 h0;rw[if_pos h0,if_pos he];simp only[yJ,M.yt,M.uI];rw[xK ak,bC]
    ·have he:¬ks=[]:=λe=>h0 (by rw[e];rfl)
     rw[if_neg h0,if_neg he,List.take_length];simp only[yJ,M.yt,M.uI];rw[xK ak,bC]) 0 (Nat.zero_le _)
  rw[if_pos rfl] at hloop;rw[M.L6,hloop,ah]
  by_cases he:ks=[]
  ·rw[if_pos he];subst he;simp only[kD,jd,Jj];rw[bI ak,aH,bI ak,aH,QL];rfl
  ·rw[if_neg he];simp only[kD,letE,jd,Ai,tH,Jj,Rw,aH];rw[bI ak,aH,bI ak,aH,Tn.flat,<-WC];simp only[QL];rfl
def aDP{t:Tn}{w:Bool}(h:t.size<=1048576):M.qB t.kind t.op t.text t.other (dO w t.kids)=some (dQ true (t.flat 0)):=by have:=M.ag9 (aIb t t.size w [] (zaV _) (by simpa using h));simp only[M.qB,M.L8];have e:dQ true ([]:List Nd)=[]:=rfl;rw[e] at this;rw[this,ah];simp
def wK:List Nd->Nat
 |[]=>0
 |n::l=>4+n.kids.length+wK l
def aeY:∀l:List Nd,Nh (dQ true l)=true
 |[]=>rfl
 |n::l=>by have:dQ true (n::l)=YU true n::dQ true l:=rfl;rw[this,Nh,aeY l];simp[YU,gI,D.pure]
def anN(l:List Nd):[[D.sl true 5 (dQ true l)]].all gI=true:=by simp[gI,D.pure,aeY]
structure Ps where
 level:Int
 Fz:Bool
 QM:Bool
 QN:Bool
 FC:Bool
 deriving DecidableEq,Inhabited
def Ps.top:Ps:=⟨1,false,false,false,false⟩
def Ps.zero:Ps:=⟨0,false,false,false,false⟩
def tZ(op:Int):Int:=bif op==44 then 3 else bif op==45 then 4 else bif op==67||op==46 then 6 else
 bif op==63||(op==48||(op==47||(op==50||(op==62||op==49)))) then 7 else bif op==99 then 8 else bif op==55||op==56 then 9 else
 bif op==57||(op==58||op==59) then 10 else bif op==60 then 12 else 0
def lvl(k op:Int):Int:=bif k==15 then 1 else bif k==14 then 2 else bif k==13 then 5 else bif k==12 then tZ op else bif k==11 then 11 else
 bif k==9||k==10 then 13 else bif k==6 then 14 else bif k==1||(k==2||(k==3||(k==4||(k==5||(k==7||k==8))))) then 15 else 0
def xJ(p:Ps):Bool:=(decide (1<=p.level) && decide (p.level<=15)) &&(!p.Fz||p.level==14)
def fits(k op:Int)(p:Ps):Bool:=bif !(xJ p)||lvl k op==0 then false else bif p.QM && k==13 then false else bif p.QN &&(k==12 && op==62) then false else
 bif p.FC &&(k==11||(k==9||k==4)) then false else(p.Fz && k==9)||decide (p.level<=lvl k op)
def sides(op:Int):Int×Int:=bif tZ op==3 then(3,4) else bif tZ op==4 then(4,5) else bif tZ op==6 then(7,7) else bif tZ op==7 then(8,8) else
 bif tZ op==8 then(8,9) else bif tZ op==9 then(9,10) else bif tZ op==10 then(10,11) else(13,11)
def aeZ(k op:Int)(j:Nat):Int:=bif k==15 then(bif Nat.beq j 0 then 14 else 1) else bif k==14 then(bif Nat.beq j 0 then 3 else 2) else bif k==13 then 5 else bif k==11 then 11 else
 bif k==12 then(bif Nat.beq j 0 then(sides op).1 else(sides op).2) else 14
def fD(k op:Int)(n j:Nat)(p:Ps):Ps:=bif !(xJ p)||(!(Nat.blt j n)||lvl k op==0) then .zero else bif lvl k op==15||(k==13 && Nat.blt 1 n) then .top else
 ⟨aeZ k op j,k==6,p.QM,p.QN,bif k==11||(k==9||(k==10||k==6)) then false else(Nat.beq j 0 && p.FC)||(Nat.beq j 1 &&(k==12 && op==99))⟩
def zC(k:Int)(j:Nat):Bool:=Nat.beq j 0 &&(k==9||(k==10||k==15))
def tok(k:Int):Tk:=⟨k,spell k,0⟩
def UE:Bool->List (List Tk)->List Tk
 |_,[]=>[]
 |b,x::l=>(bif b then x else tok 36::x)++UE false l
def MC{α:Type}(L:List (List α))(j:Nat):List α:=(L[j]?).getD []
def Zc(k op:Int)(n:Nat)(x:aC)(L:List (List Tk)):List Tk:=
 bif k==1 then[⟨6,x,0⟩] else bif k==2 then[⟨3,x,0⟩] else bif k==3 then[⟨4,x,0⟩] else bif k==4 then[⟨5,x,0⟩] else
 bif k==5 then⟨6,x,0⟩::tok 34::(UE true L++[tok 35]) else bif k==7 then⟨7,x,0⟩::tok 32::(UE true L++[tok 33]) else bif k==8 then⟨8,x,0⟩::tok 32::(UE true L++[tok 33]) else
 bif k==9||k==11 then tok op::MC L 0 else bif k==6 then tok 68::MC L 0 else bif k==10 then MC L 0++[tok op] else
 bif k==13 then(bif Nat.blt 1 n then tok 32::(UE true L++[tok 33]) else MC L 0)++[tok 24,⟨6,x,0⟩] else
 bif k==14 then MC L 0++(tok 65::(MC L 1++(tok 66::MC L 2))) else MC L 0++((bif op==99 then[] else[tok op])++MC L 1)
mutual
def Df:Tn->Ps->List Tk
 | .mk k op x _ ks,p=>Zc k op ks.length x (rJ k op ks.length p ks 0)
def rJ(k op:Int)(n:Nat)(p:Ps):List Tn->Nat->List (List Tk)
 |[],_=>[]
 |t::ts,j=>(bif zC k j||fits t.kind t.op (fD k op n j p) then Df t (fD k op n j p) else tok 32::(Df t .top++[tok 33]))::rJ k op n p ts (j+1)
end
def akW(t:Tn)(p:Ps):List Tk:=bif fits t.kind t.op p then Df t p else tok 32::(Df t .top++[tok 33])
def QO(s:aC):Tn:=.mk 1 0 s [] []
def ZG:Tn:=.mk 2 0 [] [] []
def afV(d:Tn):Tn:=.mk 4 4 [] [] [d]
def aum(d:Tn):Tn:=.mk 5 0 [] [] [d]
def QS(l:List Tn):Tn:=.mk 6 0 [] [] l
def Wy:Bool->List Tn->List Tn
 |_,[]=>[]
 |b,x::l=>(bif b then[x] else[QO [44],ZG,x])++Wy false l
def afW(L:List Tn):Tn:=aum (afV (QS (Wy true L)))
def QT(L:List Tn)(j:Nat):Tn:=(L[j]?).getD (QO [])
def anO(s:aC):List (aC)->Nat->Nat
 |[],m=>m
 |g::l,m=>anO s l (bif Nat.blt m g.length && g.isPrefixOf s then g.length else m)
def lastB(s:aC):Int:=match s.getLast? with|some c=>(c.toNat:Int)|none=> -1
def aun(s:aC):Int:=match s with|c::_=>(c.toNat:Int)|[]=> -1
def Ur(a b:Tk):Bool:=
 bif a.text==[]||(b.text==[]||(a.kind==2||(a.kind==1||b.kind==1))) then false else
 bif isW (lastB a.text) && isW (aun b.text) then true else
 bif a.kind==3 &&(isW (aun b.text)||aun b.text==46) then true else
 bif a.kind==6 && b.kind==32 then true else
 bif !(decide (30<=a.kind) && decide (a.kind<=68)) then false else Nat.blt a.text.length (anO (a.text++b.text) UD 0)
def ahg(k op:Int)(n:Nat)(x:aC)(gap:Bool)(L:List Tn):Tn:=
 bif k==1||(k==2||(k==3||k==4)) then QO x else bif k==5 then QS [QO (x++[91]),afW L,QO [93]] else
 bif k==7||k==8 then QS [QO (x++[40]),afW L,QO [41]] else bif k==9 then QS [QO (spell op),QT L 0] else bif k==10 then QS [QT L 0,QO (spell op)] else
 bif k==6 then QS [QO [36],QT L 0] else bif k==11 then QS [QO (bif gap then spell op++[32] else spell op),QT L 0] else
 bif k==14 then QS [QT L 0,QO [32,63,32],QT L 1,QO [32,58,32],QT L 2] else
 bif k==13 then(bif Nat.blt 1 n then QS [QO [40],afW L,QO ([41,32,105,110,32]++x)] else QS [QT L 0,QO ([32,105,110,32]++x)]) else
 bif k==12 && op==99 then QS [QT L 0,QO [32],QT L 1] else
 bif k==12 &&(op==45||op==44) then aum (afV (QS [QT L 0,QO (32::spell op),ZG,QT L 1])) else
 QS [QT L 0,QO ((32::spell op)++[32]),QT L 1]
def asf(op:Int)(L:List (List Tk)):Bool:=match L with
 |(b::_)::_=>Ur (tok op) b
 |_=>false
mutual
def FK:Tn->Ps->Tn
 | .mk k op x _ ks,p=>ahg k op ks.length x (asf op (rJ k op ks.length p ks 0)) (wU k op ks.length p ks 0)
def wU(k op:Int)(n:Nat)(p:Ps):List Tn->Nat->List Tn
 |[],_=>[]
 |t::ts,j=>(bif zC k j||fits t.kind t.op (fD k op n j p) then FK t (fD k op n j p) else QS [QO [40],FK t .top,QO [41]])::wU k op n p ts (j+1)
end
def Yu(t:Tn)(p:Ps):Tn:=bif fits t.kind t.op p then FK t p else QS [QO [40],FK t .top,QO [41]]
def akX(p:Ps)(L:List Tn):Tn:=afW (L.map λt=>Yu t p)
structure Cnt(k op:Int)(y:aC)(n:Nat):Prop where
 one:k=6\/k=9\/k=10\/k=11\/k=20\/k=32\/k=40\/k=41->n=1
 two:k=12\/k=15\/k=29\/k=30->n=2
 some_:k=5\/k=13\/k=44->1<=n
 three:k=14->n=3
 four:k=31->n=4
 cnd:k=28->n=2\/n=3
 prn:k=21->(op=0\/op=1)/\(y≠[]->1<=n)
 wrd:k=23\/k=24->n<=1
 non:k=1\/k=2\/k=3\/k=4\/k=16\/k=22\/k=25\/k=26\/k=34->n=0
 rule:k=42->(op=1/\n=1)\/(op=2/\n=1)\/(op=3/\n=2)
 range:k=43->(op=1/\n=2)\/(op=3/\n=3)
 few:k≠33->k≠45->n<=7
 bin:k=12->tZ op≠0/\op≠61
 asg:k=15->op=54\/(38<=op/\op<=43)
 stp:k=9\/k=10->op=51\/op=52
 una:k=11->op=55\/op=56\/op=61
def cls(k op:Int)(n j:Nat):Nat:=
 if k=9\/k=10\/(k=15/\j=0) then 6 else if k=28\/k=29 then(if j=0 then 0 else 1) else if k=30 then(if j=0 then 1 else 0) else
 if k=31 then(if j<3 then 3 else 1) else if k=32\/k=40\/k=41 then 1 else if k=33 then 2 else if k=42 then(if op=2\/(op=3/\j+1=n) then 1 else 0) else
 if k=43 then(if j=2 then 1 else 0) else if k=44 then(if j+1=n then 1 else 4) else if k=45 then 5 else 0
def Ah(c:Nat)(d:Int):Prop:=match c with
 |0=>1<=d/\d<=15
 |1=>d=33
 |2=>20<=d/\d<=34
 |3=>d=16\/(1<=d/\d<=15)
 |4=>d=1
 |5=>(40<=d/\d<=44)\/d=34
 |_=>d=1\/d=5\/d=6
def ahh(k:Int):Prop:=(1<=k/\k<=16)\/(20<=k/\k<=34)\/(40<=k/\k<=45)
mutual
def Uw:Tn->Prop
 | .mk k op x y ks=>ahh k/\Cnt k op y ks.length/\oks k op ks.length ks 0
def oks(k op:Int)(n:Nat):List Tn->Nat->Prop
 |[],_=>True
 |t::ts,j=>Ah (cls k op n j) t.kind/\(Uw t)/\oks k op n ts (j+1)
end
def avX{k op:Int}{n:Nat}:∀{ks:List Tn} {j i:Nat} {t:Tn},oks k op n ks j->ks[i]? =some t->Ah (cls k op n (j+i)) t.kind/\(Uw t)
 |[],_,i,_,_,h=>by simp at h
 |u::ts,j,0,t,h,e=>by rw[oks] at h;cases e;exact⟨h.1,h.2.1⟩
 |u::ts,j,i+1,t,h,e=>by rw[oks] at h;rw[List.getElem?_cons_succ] at e;have:=avX h.2.2 e;rw[show j+1+i=j+(i+1) by omega] at this;exact this
def akY{k op:Int}{x y:aC}{ks:List Tn}(h:(Uw (Tn.mk k op x y ks))){i:Nat}{t:Tn}(e:ks[i]? =some t):Ah (cls k op ks.length i) t.kind/\(Uw t):=by
 rw[Uw] at h;have:=avX h.2.2 e
 rwa [Nat.zero_add] at this
def ae0{k op:Int}{x y:aC}{ks:List Tn}(h:(Uw (Tn.mk k op x y ks))):Cnt k op y ks.length:=by rw[Uw] at h;exact h.2.1
def isE(t:Tn):Prop:=1<=t.kind/\t.kind<=15
def akZ{k op:Int}{x y:aC}{ks:List Tn}(h:(Uw (Tn.mk k op x y ks)))(he:1<=k/\k<=15){i:Nat}{t:Tn}(e:ks[i]? =some t):(isE t)/\(Uw t):=by
 obtain⟨h1,h2⟩:=akY h e;refine⟨?_,h2⟩;unfold isE;have:cls k op ks.length i=6\/cls k op ks.length i=0:=by
  unfold cls;split
  ·exact .inl rfl
  ·repeat(rw[if_neg ak])
   exact .inr rfl
 rcases this with h|h<;>rw[h] at h1<;>simp only[Ah] at h1<;>omega
def MR{a b lo hi:Int}(c:Bool)(ha:lo<=a/\a<=hi)(hb:lo<=b/\b<=hi):lo<=(bif c then a else b)/\(bif c then a else b)<=hi:=by cases c<;>assumption
def ak0(op:Int):0<=tZ op/\tZ op<=12:=by unfold tZ;exact MR _ ⟨by decide,by decide⟩ (MR _ ⟨by decide,by decide⟩ (MR _ ⟨by decide,by decide⟩ (MR _ ⟨by decide,by decide⟩ (MR _ ⟨by decide,by decide⟩ (MR _ ⟨by decide,by decide⟩ (MR _ ⟨by decide,by decide⟩ (MR _ ⟨by decide,by decide⟩ ⟨by decide,by decide⟩)))))))
def afX{k op:Int}{y:aC}{n:Nat}(he:1<=k/\k<=15)(hc:Cnt k op y n):1<=lvl k op/\lvl k op<=15:=by
 obtain⟨h1,h2⟩:=he;have hk:k=1\/k=2\/k=3\/k=4\/k=5\/k=6\/k=7\/k=8\/k=9\/k=10\/k=11\/k=13\/k=14\/k=15\/k=12:=ak;rcases hk with rfl|rfl|rfl|rfl|rfl|rfl|rfl|rfl|rfl|rfl|rfl|rfl|rfl|rfl|rfl
 case inr.inr.inr.inr.inr.inr.inr.inr.inr.inr.inr.inr.inr.inr=>have hb:=(hc.bin rfl).1;have:=ak0 op;change 1<=tZ op/\tZ op<=15;omega
 all_goals simp[lvl]
inductive PR(α:Type) where
 |ok (a:α) (i:Nat) (nt:List (aC))
 |bad (i:Nat)
 |out
def PR.bind{α β:Type}(x:PR α)(f:α->Nat->List (aC)->PR β):PR β:=match x with
 | .ok a i nt=>f a i nt
 | .bad i=> .bad i
 | .out=> .out
abbrev fM:=List (aC)
def dX(l:List Tk)(i:Nat):Int:=match l[i]? with|some t=>t.kind|none=>0
def MS(l:List Tk)(i:Nat):aC:=match l[i]? with|some t=>t.text|none=>[]
def qL(l:List Tk)(k:Int)(i:Nat)(nt:fM):PR Unit:=bif dX l i==k then .ok () (i+1) nt else .bad i
def nameP(l:List Tk)(i:Nat)(nt:fM):PR (aC):=bif dX l i==6 then .ok (MS l i) (i+1) nt else .bad i
def nlR:List Tk->Nat->fM->Nat×fM
 |[],i,nt=>(i,nt)
 |t::r,i,nt=>bif t.kind==1 then nlR r (i+1) nt else bif t.kind==2 then nlR r (i+1) (nt++[t.text]) else(i,nt)
def nl(l:List Tk)(i:Nat)(nt:fM):Nat×fM:=nlR (l.drop i) i nt
def WA:List Tk->Nat->fM->Nat×fM
 |[],i,nt=>(i,nt)
 |t::r,i,nt=>bif t.kind==1||t.kind==37 then WA r (i+1) nt else bif t.kind==2 then WA r (i+1) (nt++[t.text]) else(i,nt)
def sep(l:List Tk)(i:Nat)(nt:fM):Nat×fM:=WA (l.drop i) i nt
def ak1(k:Int):Bool:=k==32||(k==34||k==30)
def ak2(k:Int):Bool:=k==33||(k==35||k==31)
def ahead:List Tk->Int->Bool
 |[],_=>false
 |t::r,d=>bif ak1 t.kind then ahead r (d+1) else bif ak2 t.kind then(bif decide (d - 1<=0) then false else ahead r (d - 1)) else
   bif t.kind==36 && d==1 then true else bif decide (d<=0) then false else ahead r d
def isStep(k:Int):Bool:=k==51||k==52
def aAo(k:Int):Bool:=k==3||(k==4||(k==6||(k==7||(k==8||(k==32||k==68)))))
abbrev Xp:=Tn×Bool
def tgt(x:Xp):Bool:= !x.2 && Pj x.1.kind
def adY(k:Int)(l:List Tk)(i:Nat)(nt:fM):PR Xp:=.ok (.mk k 0 (MS l i) [] [],false) (i+1) nt
def UF(lv:Nat)(b:Bool)(k:Int):Bool:=bif Nat.beq lv 8 then aAo k else tZ k==(lv:Int) && !(b && k==62)
mutual
def ex(l:List Tk):Nat->Nat->Bool->Bool->Nat->fM->PR Xp
 |0,_,_,_,_,_=> .out
 |n+1,lv,a,b,i,nt=>match lv with
  |1=>(ex l n 2 a b i nt).bind λx i nt=>bif tgt x && ZE (dX l i) then(ex l n 1 a b (i+1) nt).bind λy j nt=> .ok (.mk 15 (dX l i) [] [] [x.1,y.1],false) j nt else .ok x i nt
  |2=>(ex l n 3 a b i nt).bind λx i nt=>bif dX l i==65 then(ex l n 2 a b (i+1) nt).bind λy i nt=>(qL l 66 i nt).bind λ_ i nt=>(ex l n 2 a b i nt).bind λz i nt=>.ok (.mk 14 0 [] [] [x.1,y.1,z.1],false) i nt else .ok x i nt
  |3=>(ex l n 4 a b i nt).bind λx i nt=>chP l n 3 a b x i nt
  |4=>(ex l n 5 a b i nt).bind λx i nt=>chP l n 4 a b x i nt
  |5=>bif(dX l i==32 && !a) && ahead (l.drop i) 0 then
    (UG l n 33 (i+1) nt).bind λL i nt=>(qL l 24 i nt).bind λ_ i nt=>(nameP l i nt).bind λs i nt=>inP l n a (.mk 13 0 s [] L,false) i nt
   else(ex l n 6 a b i nt).bind λx i nt=>inP l n a x i nt
  |6=>(ex l n 7 a b i nt).bind λx i nt=>bif dX l i==67||dX l i==46 then(ex l n 7 a b (i+1) nt).bind λy j nt=> .ok (.mk 12 (dX l i) [] [] [x.1,y.1],false) j nt else .ok x i nt
  |7=>(ex l n 8 a b i nt).bind λx i nt=>bif UF 7 b (dX l i) then(ex l n 8 a b (i+1) nt).bind λy j nt=> .ok (.mk 12 (dX l i) [] [] [x.1,y.1],false) j nt else .ok x i nt
  |8=>(ex l n 9 a b i nt).bind λx i nt=>chP l n 8 a b x i nt
  |9=>(ex l n 10 a b i nt).bind λx i nt=>chP l n 9 a b x i nt
  |10=>(ex l n 11 a b i nt).bind λx i nt=>chP l n 10 a b x i nt
  |11=>bif dX l i==55||(dX l i==56||dX l i==61) then(ex l n 11 a b (i+1) nt).bind λx j nt=> .ok (.mk 11 (dX l i) [] [] [x.1],false) j nt
   else ex l n 12 a b i nt
  |12=>(ex l n 13 a b i nt).bind λx i nt=>bif dX l i==60 then(ex l n 11 a b (i+1) nt).bind λy j nt=> .ok (.mk 12 60 [] [] [x.1,y.1],false) j nt else .ok x i nt
  |13=>bif isStep (dX l i) then XB l n i nt else(ex l n 14 a b i nt).bind λx i nt=>bif tgt x && isStep (dX l i) then .ok (.mk 10 (dX l i) [] [] [x.1],false) (i+1) nt else .ok x i nt
  |14=>bif dX l i==68 then
    (bif isStep (dX l (i+1)) then XB l n (i+1) nt else ex l n 14 a b (i+1) nt).bind λx i nt=> .ok (.mk 6 0 [] [] [x.1],false) i nt
   else ex l n 15 a b i nt
  |_=>bif dX l i==3 then adY 2 l i nt else bif dX l i==4 then adY 3 l i nt else bif dX l i==5 then adY 4 l i nt else
   bif dX l i==6 then
    (bif dX l (i+1)==34 then(U1 l n false false [] (i+2) nt).bind λL j nt=>(qL l 35 j nt).bind λ_ j nt=> .ok (.mk 5 0 (MS l i) [] L,false) j nt
     else adY 1 l i nt) else
   bif dX l i==7||dX l i==8 then
    (bif dX l i==8 &&(MS l i==[108,101,110,103,116,104] && !(dX l (i+1)==32)) then adY 8 l i nt else
     (qL l 32 (i+1) nt).bind λ_ j nt=>(UG l n 33 j nt).bind λL j nt=> .ok (.mk (dX l i) 0 (MS l i) [] L,false) j nt) else
   bif dX l i==32 then(ex l n 1 false false (i+1) nt).bind λx i nt=>(qL l 33 i nt).bind λ_ i nt=> .ok (x.1,true) i nt else .bad i
def chP(l:List Tk):Nat->Nat->Bool->Bool->Xp->Nat->fM->PR Xp
 |0,_,_,_,_,_,_=> .out
 |n+1,lv,a,b,x,i,nt=>bif UF lv (b && Nat.beq lv 7) (dX l i) then
   (let op:=bif Nat.beq lv 8 then 99 else dX l i
    let q:=bif Nat.beq lv 8 then(i,nt) else bif Nat.ble lv 4 then nl l (i+1) nt else(i+1,nt)
    (ex l n (lv+1) a b q.1 q.2).bind λy i nt=>chP l n lv a b (.mk 12 op [] [] [x.1,y.1],false) i nt)
  else .ok x i nt
def inP(l:List Tk):Nat->Bool->Xp->Nat->fM->PR Xp
 |0,_,_,_,_=> .out
 |n+1,a,x,i,nt=>bif dX l i==24 && !a then(nameP l (i+1) nt).bind λs i nt=>inP l n a (.mk 13 0 s [] [x.1],false) i nt else .ok x i nt
def XB(l:List Tk):Nat->Nat->fM->PR Xp
 |0,_,_=> .out
 |n+1,i,nt=>bif dX l (i+1)==68||dX l (i+1)==6 then(ex l n 14 false false (i+1) nt).bind λx j nt=> .ok (.mk 9 (dX l i) [] [] [x.1],false) j nt else .bad (i+1)
def UG(l:List Tk):Nat->Int->Nat->fM->PR (List Tn)
 |0,_,_,_=> .out
 |n+1,e,i,nt=>bif dX l i==e then .ok [] (i+1) nt else(U1 l n false false [] i nt).bind λL i nt=>(qL l e i nt).bind λ_ i nt=> .ok L i nt
def U1(l:List Tk):Nat->Bool->Bool->List Tn->Nat->fM->PR (List Tn)
 |0,_,_,_,_,_=> .out
 |n+1,a,b,L,i,nt=>(ex l n 1 a b i nt).bind λx i nt=>bif dX l i==36 then(bif Nat.beq (L.length+1) 6 then .bad i else U1 l n a b (L++[x.1]) (nl l (i+1) nt).1 (nl l (i+1) nt).2) else .ok (L++[x.1]) i nt
end
def U2(k:Int):Bool:=k==0||(k==1||(k==2||(k==37||k==31)))
def Jh(k:Int):Bool:=k==62||(k==53||k==64)
def Yv(nt:fM):List Tn:=nt.map λs=> .mk 34 0 s [] []
def endP{α:Type}(l:List Tk)(x:α)(i:Nat)(nt:fM):PR α:=bif U2 (dX l i) then .ok x i nt else .bad i
def Xi(l:List Tk)(n i:Nat)(nt:fM):PR Tn:=(qL l 32 i nt).bind λ_ i nt=>(ex l n 1 false false i nt).bind λx i nt=>(qL l 33 i nt).bind λ_ i nt=> .ok x.1 i nt
def MV(l:List Tk)(n:Nat)(e:Int)(a:Bool)(i:Nat)(nt:fM):PR Tn:=bif dX l i==e then .ok (.mk 16 0 [] [] []) i nt else(ex l n 1 a false i nt).bind λx i nt=> .ok x.1 i nt
def ahi(l:List Tk)(n i:Nat)(nt:fM):PR Tn:=
 (bif dX l i==26|| !(U2 (dX l (i+1))||Jh (dX l (i+1))) then U1 l n false true [] (i+1) nt else .ok [] (i+1) nt).bind λL j nt=>
  bif Jh (dX l j) then(ex l n 9 false false (j+1) nt).bind λx k nt=> .ok (.mk 21 (dX l i - 25) [] (MS l j) (L++[x.1])) k nt
  else .ok (.mk 21 (dX l i - 25) [] [] L) j nt
def ZH(l:List Tk)(n:Nat)(k:Int)(i:Nat)(nt:fM):PR Tn:=
 bif U2 (dX l (i+1)) then .ok (.mk k 0 [] [] []) (i+1) nt else(ex l n 1 false false (i+1) nt).bind λx i nt=> .ok (.mk k 0 [] [] [x.1]) i nt
def ak3(l:List Tk)(n i:Nat)(nt:fM):PR Tn:=(nameP l (i+1) nt).bind λs i nt=>bif dX l i==34 then(U1 l n false false [] (i+1) nt).bind λL i nt=>(qL l 35 i nt).bind λ_ i nt=> .ok (.mk 27 0 s [] L) i nt else .ok (.mk 27 0 s [] []) i nt
def ak4(l:List Tk)(n i:Nat)(nt:fM):PR Tn:=
 bif dX l i==25||dX l i==26 then ahi l n i nt else bif dX l i==20 then .ok (.mk 22 0 [] [] []) (i+1) nt else bif dX l i==18 then .ok (.mk 25 0 [] [] []) (i+1) nt else
 bif dX l i==19 then .ok (.mk 26 0 [] [] []) (i+1) nt else bif dX l i==21 then ZH l n 23 i nt else bif dX l i==22 then ZH l n 24 i nt else
 bif dX l i==23 then ak3 l n i nt else(ex l n 1 false false i nt).bind λx i nt=> .ok (.mk 20 0 [] [] [x.1]) i nt
mutual
def stP(l:List Tk):Nat->Nat->fM->PR Tn
 |0,_,_=> .out
 |n+1,i,nt=>
  bif dX l i==30 then MW l n i nt else
  bif dX l i==13 then(Xi l n (i+1) nt).bind λx i nt=>(ER l n i nt).bind λy i nt=>
   (let q:=sep l i nt
    bif dX l q.1==14 then(ER l n (q.1+1) q.2).bind λz i nt=> .ok (.mk 28 0 [] [] [x,y,z]) i nt else .ok (.mk 28 0 [] [] [x,y]) i nt) else
  bif dX l i==15 then(Xi l n (i+1) nt).bind λx i nt=>(ER l n i nt).bind λy i nt=> .ok (.mk 29 0 [] [] [x,y]) i nt else
  bif dX l i==17 then(ER l n (i+1) nt).bind λx i nt=>(qL l 15 (sep l i nt).1 (sep l i nt).2).bind λ_ i nt=>(Xi l n i nt).bind λy i nt=>endP l (.mk 30 0 [] [] [x,y]) i nt else
  bif dX l i==16 then(qL l 32 (i+1) nt).bind λ_ i nt=>
   (bif dX l i==6 && dX l (i+1)==24 then(nameP l (i+2) nt).bind λs j nt=>(qL l 33 j nt).bind λ_ j nt=>(ER l n j nt).bind λy j nt=> .ok (.mk 32 0 (MS l i) s [y]) j nt
    else(MV l n 37 true i nt).bind λx i nt=>(qL l 37 i nt).bind λ_ i nt=>(MV l n 37 false (nl l i nt).1 (nl l i nt).2).bind λy i nt=>
    (qL l 37 i nt).bind λ_ i nt=>(MV l n 33 false (nl l i nt).1 (nl l i nt).2).bind λz i nt=>(qL l 33 i nt).bind λ_ i nt=>
    (ER l n i nt).bind λw i nt=> .ok (.mk 31 0 [] [] [x,y,z,w]) i nt) else
  (ak4 l n i nt).bind λx i nt=>endP l x i nt
def MW(l:List Tk):Nat->Nat->fM->PR Tn
 |0,_,_=> .out
 |n+1,i,nt=>(qL l 30 i nt).bind λ_ i nt=>(XC l n [] i nt).bind λL i nt=> .ok (.mk 33 0 [] [] L) i nt
def XC(l:List Tk):Nat->List Tn->Nat->fM->PR (List Tn)
 |0,_,_,_=> .out
 |n+1,L,i,nt=>
  (let q:=sep l i nt
   bif dX l q.1==31 then .ok (L++Yv q.2) (q.1+1) [] else bif dX l q.1==0 then .bad q.1 else
   (stP l n q.1 []).bind λs i nt=>XC l n ((L++Yv q.2)++[s]) i nt)
def ER(l:List Tk):Nat->Nat->fM->PR Tn
 |0,_,_=> .out
 |n+1,i,nt=>
  (let q:=nl l i nt
   bif dX l q.1==30 then MW l n q.1 q.2 else bif dX l q.1==37 then .ok (.mk 33 0 [] [] (Yv q.2)) (q.1+1) [] else
   (stP l n q.1 []).bind λs i nt=> .ok (.mk 33 0 [] [] (Yv q.2++[s])) i nt)
end
def Ho(l:List Tk):Nat->List Tn->Nat->fM->PR (List Tn)
 |0,_,_,_=> .out
 |n+1,L,i,nt=>(nameP l i nt).bind λs i nt=>bif dX l i==36 then(bif Nat.beq (L.length+1) 6 then .bad i else Ho l n (L++[.mk 1 0 s [] []]) (nl l (i+1) nt).1 (nl l (i+1) nt).2) else .ok (L++[.mk 1 0 s [] []]) i nt
def ak5(l:List Tk)(n i:Nat)(nt:fM):PR Tn:=
 bif dX l i==6||dX l i==7 then
  (qL l 32 (i+1) nt).bind λ_ j nt=>(bif dX l j==33 then .ok [] j nt else Ho l n [] j nt).bind λL j nt=>(qL l 33 j nt).bind λ_ j nt=>(MW l n (nl l j nt).1 (nl l j nt).2).bind λb j nt=> .ok (.mk 44 0 (MS l i) [] (L++[b])) j nt
 else .bad i
def Xj(l:List Tk)(n i:Nat)(nt:fM):PR Tn:=
 bif dX l i==10 then(MW l n (i+1) nt).bind λb i nt=> .ok (.mk 40 0 [] [] [b]) i nt else
 bif dX l i==11 then(MW l n (i+1) nt).bind λb i nt=> .ok (.mk 41 0 [] [] [b]) i nt else
 bif dX l i==12 then ak5 l n (i+1) nt else
 bif dX l i==30 then(MW l n i nt).bind λb i nt=> .ok (.mk 42 2 [] [] [b]) i nt else
 (ex l n 1 false false i nt).bind λx i nt=>(bif dX l i==36 then(ex l n 1 false false (nl l (i+1) nt).1 (nl l (i+1) nt).2).bind λy i nt=> .ok (43,[x.1,y.1]) i nt else .ok (42,[x.1]) i nt:PR (Int×List Tn)).bind λq i nt=>bif dX l i==30 then(MW l n i nt).bind λb i nt=> .ok (.mk q.1 3 [] [] (q.2++[b])) i nt else endP l (.mk q.1 1 [] [] q.2) i nt
def O8(l:List Tk):Nat->List Tn->Nat->fM->PR (List Tn)
 |0,_,_,_=> .out
 |n+1,L,i,nt=>
  (let q:=sep l i nt
   bif dX l q.1==0 then .ok (L++Yv q.2) q.1 [] else bif dX l q.1==31 then .bad q.1 else
   (Xj l n q.1 []).bind λs i nt=>O8 l n ((L++Yv q.2)++[s]) i nt)
def PR.sat{α:Type}(P:α->Nat->fM->Prop)(x:PR α):Prop:=match x with
 | .ok a i nt=>P a i nt
 |_=>True
def PR.tot{α:Type}(P:α->Nat->fM->Prop)(x:PR α):Prop:=match x with
 | .ok a i nt=>P a i nt
 | .bad _=>True
 | .out=>False
section
variable {α β:Type} {P Q:α->Nat->fM->Prop} {R:β->Nat->fM->Prop} {x y:PR α} {f:α->Nat->fM->PR β} {c:Bool}
def gu:(x.bind f).tot R↔x.tot λa i nt=>(f a i nt).tot R:=by cases x<;>exact Iff.rfl
def bU(h:x.tot P)(k:∀a i nt,P a i nt->Q a i nt):x.tot Q:=by
 cases x with
 |ok a i nt=>exact k a i nt h
 |bad _=>trivial
 |out=>exact h
def fJ:(bif c then x else y).tot P↔(c=true->x.tot P)/\(c=false->y.tot P):=by cases c<;>simp
end
variable {l:List Tk}
def iD{i:Nat}(h:dX l i≠0):i<l.length:=by
 unfold dX at h;cases hq:l[i]? with
 |none=>rw[hq] at h;exact absurd rfl h
 |some t=>exact(QV.1 hq).1
def ES{P:Unit->Nat->fM->Prop}{k:Int}{i:Nat}{nt:fM}:(qL l k i nt).tot P↔(dX l i=k->P () (i+1) nt):=by unfold qL;rw[fJ];simp[PR.tot]
def abI{P:aC->Nat->fM->Prop}{i:Nat}{nt:fM}:(nameP l i nt).tot P↔(dX l i=6->P (MS l i) (i+1) nt):=by unfold nameP;rw[fJ];simp[PR.tot]
def apb:∀(r:List Tk) (i:Nat) (nt:fM),i<=(nlR r i nt).1
 |[],i,nt=>by rw[nlR];exact zaV _
 |t::r,i,nt=>by
  rw[nlR];cases t.kind==1<;>cases t.kind==2<;>simp only[aH,bC]
  ·exact zaV _
  ·have:=apb r (i+1) (nt++[t.text]);omega
  ·have:=apb r (i+1) nt;omega
  ·have:=apb r (i+1) nt;omega
def aib(i:Nat)(nt:fM):i<=(nl l i nt).1:=apb _ _ _
def ai6:∀(r:List Tk) (i:Nat) (nt:fM),i<=(WA r i nt).1
 |[],i,nt=>by rw[WA];exact zaV _
 |t::r,i,nt=>by
  rw[WA];cases(t.kind==1||t.kind==37)<;>cases t.kind==2<;>simp only[aH,bC]
  ·exact zaV _
  ·have:=ai6 r (i+1) (nt++[t.text]);omega
  ·have:=ai6 r (i+1) nt;omega
  ·have:=ai6 r (i+1) nt;omega
def apc(i:Nat)(nt:fM):i<=(sep l i nt).1:=ai6 _ _ _
structure Ends(l:List Tk)(n:Nat):Prop where
 ex:∀lv a b i nt,1<=lv->lv<=15->40 * (l.length - i)+(2 * (16 - lv)+2)<=n->(ex l n lv a b i nt).tot λ_ j _=>i<j
 ch:∀lv a b x i nt,3<=lv->lv<=10->40 * (l.length - i)+(2 * (16 - lv)+1)<=n->(chP l n lv a b x i nt).tot λ_ j _=>i<=j
 inp:∀a x i nt,40 * (l.length - i)+1<=n->(inP l n a x i nt).tot λ_ j _=>i<=j
 pre:∀i nt,i<l.length->40 * (l.length - i)+1<=n->(XB l n i nt).tot λ_ j _=>i<j
 lst:∀e i nt,e≠0->40 * (l.length - i)+36<=n->(UG l n e i nt).tot λ_ j _=>i<j
 it:∀a b L i nt,40 * (l.length - i)+35<=n->(U1 l n a b L i nt).tot λ_ j _=>i<j
def auo{k:Int}(h:ZE k=true):k≠0:=by rintro rfl;exact absurd h (by decide)
def Xk{k:Int}(h:isStep k=true):k≠0:=by rintro rfl;exact absurd h (by decide)
def afY{lv:Nat}{b:Bool}{k:Int}(h3:3<=lv)(h:UF lv b k=true):k≠0:=by
 rintro rfl;unfold UF at h;cases hb:Nat.beq lv 8 with
 |true=>rw[hb,aH] at h;exact absurd h (by decide)
 |false=>
  rw[hb,bC,BK] at h;have h1:(0:Int)=(lv:Int):=by simpa[tZ] using h.1
  omega
section
variable {n:Nat} (h:Ends l n)
include h
theorem aDQ(lv:Nat)(a b:Bool)(i:Nat)(nt:fM)(h1:1<=lv)(h2:lv<=15)(hn:40 * (l.length - i)+(2 * (16 - lv)+2)<=n+1):(ex l (n+1) lv a b i nt).tot λ_ j _=>i<j:=by
 have hlt:∀{j:Nat} {k:Int},(dX l j==k)=true->k≠0->j<l.length:=λe hk=>iD (by rw[beq_iff_eq] at e;rw[e];exact hk)
 have hc:lv=1\/lv=2\/lv=3\/lv=4\/lv=5\/lv=6\/lv=7\/lv=8\/lv=9\/lv=10\/lv=11\/lv=12\/lv=13\/lv=14\/lv=15:=ak;rcases hc with rfl|rfl|rfl|rfl|rfl|rfl|rfl|rfl|rfl|rfl|rfl|rfl|rfl|rfl|rfl<;>simp only[ex,gu]
 ·refine bU (h.ex 2 a b i nt ak ak ak) λx j m hj=> ?_
  rw[fJ];refine⟨λhc=> ?_,λ_=>hj⟩;rw[BK] at hc;have:=iD (auo hc.2);rw[gu];exact bU (h.ex 1 a b (j+1) m ak ak ak) λy j' m' hj'=>(show i<j' by omega)
 ·refine bU (h.ex 3 a b i nt ak ak ak) λx j m hj=> ?_
  rw[fJ];refine⟨λhc=> ?_,λ_=>hj⟩;have:=hlt hc (by decide);simp only[gu,ES];refine bU (h.ex 2 a b (j+1) m ak ak ak) λy j2 m2 hj2=>λhk=> ?_
  exact bU (h.ex 2 a b (j2+1) m2 ak ak ak) λz j3 m3 hj3=>(show i<j3 by omega)
 ·refine bU (h.ex 4 a b i nt ak ak ak) λx j m hj=> ?_
  exact bU (h.ch 3 a b x j m ak ak ak) λy j' m' hj'=>(show i<j' by omega)
 ·refine bU (h.ex 5 a b i nt ak ak ak) λx j m hj=> ?_
  exact bU (h.ch 4 a b x j m ak ak ak) λy j' m' hj'=>(show i<j' by omega)
 ·rw[fJ];refine⟨λhc=> ?_,λ_=> ?_⟩
  ·rw[BK,BK] at hc;have:=hlt hc.1.1 (by decide);simp only[gu,ES,abI];refine bU (h.lst 33 (i+1) nt (by decide) ak) λL j m hj=>λh24 h6=> ?_
   have:=iD (l:=l) (i:=j) (by rw[h24];decide);exact bU (h.inp a _ (j+1+1) m ak) λy j' m' hj'=>(show i<j' by omega)
  ·rw[gu];refine bU (h.ex 6 a b i nt ak ak ak) λx j m hj=> ?_
   exact bU (h.inp a x j m ak) λy j' m' hj'=>(show i<j' by omega)
 ·refine bU (h.ex 7 a b i nt ak ak ak) λx j m hj=> ?_
  rw[fJ];refine⟨λhc=> ?_,λ_=>hj⟩;have:j<l.length:=by rw[Bool.or_eq_true] at hc;rcases hc with hc|hc<;>exact hlt hc (by decide)
  rw[gu];exact bU (h.ex 7 a b (j+1) m ak ak ak) λy j' m' hj'=>(show i<j' by omega)
 ·refine bU (h.ex 8 a b i nt ak ak ak) λx j m hj=> ?_
  rw[fJ];refine⟨λhc=> ?_,λ_=>hj⟩;have:=iD (afY ak hc);rw[gu];exact bU (h.ex 8 a b (j+1) m ak ak ak) λy j' m' hj'=>(show i<j' by omega)
 ·refine bU (h.ex 9 a b i nt ak ak ak) λx j m hj=> ?_
  exact bU (h.ch 8 a b x j m ak ak ak) λy j' m' hj'=>(show i<j' by omega)
 ·refine bU (h.ex 10 a b i nt ak ak ak) λx j m hj=> ?_
  exact bU (h.ch 9 a b x j m ak ak ak) λy j' m' hj'=>(show i<j' by omega)
 ·refine bU (h.ex 11 a b i nt ak ak ak) λx j m hj=> ?_
  exact bU (h.ch 10 a b x j m ak ak ak) λy j' m' hj'=>(show i<j' by omega)
 ·rw[fJ];refine⟨λhc=> ?_,λ_=>h.ex 12 a b i nt ak ak ak⟩;have:i<l.length:=by simp only[Bool.or_eq_true] at hc;rcases hc with hc|hc|hc<;>exact hlt hc (by decide)
  rw[gu];exact bU (h.ex 11 a b (i+1) nt ak ak ak) λy j' m' hj'=>(show i<j' by omega)
 ·refine bU (h.ex 13 a b i nt ak ak ak) λx j m hj=> ?_
  rw[fJ];refine⟨λhc=> ?_,λ_=>hj⟩;have:=hlt hc (by decide);rw[gu];exact bU (h.ex 11 a b (j+1) m ak ak ak) λy j' m' hj'=>(show i<j' by omega)
 ·rw[fJ];refine⟨λhc=> ?_,λ_=> ?_⟩
  ·have:=iD (Xk hc);exact h.pre i nt this ak
  ·rw[gu];refine bU (h.ex 14 a b i nt ak ak ak) λx j m hj=> ?_
   rw[fJ];exact⟨λ_=>(show i<j+1 by omega),λ_=>hj⟩
 ·rw[fJ];refine⟨λhc=> ?_,λ_=>h.ex 15 a b i nt ak ak ak⟩;have:=hlt hc (by decide);rw[gu,fJ];refine⟨λhs=> ?_,λ_=> ?_⟩
  ·have:=iD (Xk hs);exact bU (h.pre (i+1) nt this ak) λx j m hj=>(show i<j by omega)
  ·exact bU (h.ex 14 a b (i+1) nt ak ak ak) λx j m hj=>(show i<j by omega)
 ·have abJ:∀k,(adY k l i nt).tot λ_ j _=>i<j:=λk=>(show i<i+1 by omega)
  rw[fJ];refine⟨λ_=>abJ 2,λ_=> ?_⟩;rw[fJ];refine⟨λ_=>abJ 3,λ_=> ?_⟩;rw[fJ];refine⟨λ_=>abJ 4,λ_=> ?_⟩;rw[fJ];refine⟨λhc=> ?_,λ_=> ?_⟩
  ·rw[fJ];refine⟨λhd=> ?_,λ_=>abJ 1⟩;have:=hlt hd (by decide);simp only[gu,ES];exact bU (h.it false false [] (i+2) nt ak) λL j m hj=>λ_=>(show i<j+1 by omega)
  rw[fJ];refine⟨λhc=> ?_,λ_=> ?_⟩
  ·have:i<l.length:=by rw[Bool.or_eq_true] at hc;rcases hc with hc|hc<;>exact hlt hc (by decide)
   rw[fJ];refine⟨λ_=>abJ 8,λ_=> ?_⟩;simp only[gu,ES];intro h32;have:=iD (l:=l) (i:=i+1) (by rw[h32];decide);exact bU (h.lst 33 (i+1+1) nt (by decide) ak) λL j m hj=>(show i<j by omega)
  rw[fJ];refine⟨λhc=> ?_,λ_=>trivial⟩;have:=hlt hc (by decide);simp only[gu,ES];exact bU (h.ex 1 false false (i+1) nt ak ak ak) λx j m hj=>λ_=>(show i<j+1 by omega)
theorem aDR(lv:Nat)(a b:Bool)(x:Xp)(i:Nat)(nt:fM)(h3:3<=lv)(h10:lv<=10)(hn:40 * (l.length - i)+(2 * (16 - lv)+1)<=n+1):(chP l (n+1) lv a b x i nt).tot λ_ j _=>i<=j:=by
 rw[chP,fJ];refine⟨λhc=> ?_,λ_=>zaV i⟩;have hlt:=iD (afY h3 hc);simp only;cases h8:Nat.beq lv 8 with
 |true=>
  have:=I5 h8;subst this;simp only[aH,gu];refine bU (h.ex 9 a b i nt ak ak ak) λy j m hj=> ?_
  exact bU (h.ch 8 a b _ j m ak ak ak) λy j' m' hj'=>(show i<=j' by omega)
 |false=>
  simp only[bC];cases h4:Nat.ble lv 4 with
  |true=>
   simp only[aH,gu];have hg:=aib (l:=l) (i+1) nt;refine bU (h.ex (lv+1) a b _ _ ak ak ak) λy j m hj=> ?_
   exact bU (h.ch lv a b _ j m ak ak ak) λy j' m' hj'=>(show i<=j' by omega)
  |false=>
   simp only[bC,gu];refine bU (h.ex (lv+1) a b (i+1) nt ak ak ak) λy j m hj=> ?_
   exact bU (h.ch lv a b _ j m ak ak ak) λy j' m' hj'=>(show i<=j' by omega)
theorem aAp(a:Bool)(x:Xp)(i:Nat)(nt:fM)(hn:40 * (l.length - i)+1<=n+1):(inP l (n+1) a x i nt).tot λ_ j _=>i<=j:=by rw[inP,fJ];refine⟨λhc=> ?_,λ_=>zaV i⟩;rw[BK] at hc;have:i<l.length:=iD (by have:=hc.1;rw[beq_iff_eq] at this;rw[this];decide);rw[gu,abI];intro h6;exact bU (h.inp a _ (i+1+1) nt ak) λy j' m' hj'=>(show i<=j' by omega)
theorem aAq(i:Nat)(nt:fM)(hi:i<l.length)(hn:40 * (l.length - i)+1<=n+1):(XB l (n+1) i nt).tot λ_ j _=>i<j:=by rw[XB,fJ];refine⟨λhc=> ?_,λ_=>trivial⟩;rw[gu];exact bU (h.ex 14 false false (i+1) nt ak ak ak) λy j' m' hj'=>(show i<j' by omega)
theorem aAr(e:Int)(i:Nat)(nt:fM)(he:e≠0)(hn:40 * (l.length - i)+36<=n+1):(UG l (n+1) e i nt).tot λ_ j _=>i<j:=by rw[UG,fJ];refine⟨λhc=>(show i<i+1 by omega),λ_=> ?_⟩;simp only[gu,ES];exact bU (h.it false false [] i nt ak) λL j m hj=>λ_=>(show i<j+1 by omega)
theorem aDS(a b:Bool)(L:List Tn)(i:Nat)(nt:fM)(hn:40 * (l.length - i)+35<=n+1):(U1 l (n+1) a b L i nt).tot λ_ j _=>i<j:=by
 rw[U1,gu];refine bU (h.ex 1 a b i nt ak ak ak) λx j m hj=> ?_
 rw[fJ];refine⟨λhc=> ?_,λ_=>hj⟩;have:j<l.length:=iD (by rw[beq_iff_eq] at hc;rw[hc];decide);rw[fJ];refine⟨λ_=>trivial,λ_=> ?_⟩;have hg:=aib (l:=l) (j+1) m;exact bU (h.it a b _ _ _ ak) λy j' m' hj'=>(show i<j' by omega)
end
def adZ(l:List Tk):∀n,Ends l n
 |0=>⟨λlv a b i nt h1 h2 hn=>by omega,λlv a b x i nt h1 h2 hn=>by omega,λa x i nt hn=>by omega,λi nt h hn=>by omega,λe i nt he hn=>by omega,λa b L i nt hn=>by omega⟩
 |n+1=>have h:=adZ l n
  ⟨aDQ h,aDR h,aAp h,aAq h,aAr h,aDS h⟩
variable {l:List Tk}
def fK{i:Nat}{k:Int}(e:(dX l i==k)=true)(hk:k≠0):i<l.length:=iD (by rw[beq_iff_eq] at e;rw[e];exact hk)
def ak6{k:Int}(h:Jh k=true):k≠0:=by rintro rfl;exact absurd h (by decide)
def ak7{n i:Nat}{nt:fM}(hn:40 * (l.length - i)+34<=n):(Xi l n i nt).tot λ_ j _=>i<j:=by simp only[Xi,gu,ES];intro h;exact bU ((adZ l n).ex 1 false false (i+1) nt ak ak ak) λx j m hj=>λ_=>(show i<j+1 by omega)
def ahj{n i:Nat}{nt:fM}{e:Int}{a:Bool}(hn:40 * (l.length - i)+34<=n):(MV l n e a i nt).tot λ_ j _=>i<=j:=by rw[MV,fJ];refine⟨λ_=>zaV i,λ_=> ?_⟩;rw[gu];exact bU ((adZ l n).ex 1 a false i nt ak ak ak) λx j m hj=>(show i<=j by omega)
def ash{n i:Nat}{k:Int}{nt:fM}(hn:40 * (l.length - i)+34<=n):(ZH l n k i nt).tot λ_ j _=>i<j:=by rw[ZH,fJ];refine⟨λ_=>Nat.lt_succ_self i,λ_=> ?_⟩;rw[gu];exact bU ((adZ l n).ex 1 false false (i+1) nt ak ak ak) λx j m hj=>(show i<j by omega)
def aDT{n i:Nat}{nt:fM}(hn:40 * (l.length - i)+40<=n):(ak3 l n i nt).tot λ_ j _=>i<j:=by rw[ak3,gu,abI];intro h;rw[fJ];refine⟨λhc=> ?_,λ_=>(show i<i+1+1 by omega)⟩;simp only[gu,ES];exact bU ((adZ l n).it false false [] (i+1+1+1) nt ak) λx j m hj=>λ_=>(show i<j+1 by omega)
def aDU{n i:Nat}{nt:fM}(hn:40 * (l.length - i)+40<=n):(ahi l n i nt).tot λ_ j _=>i<j:=by
 rw[ahi,gu];have h1:(bif dX l i==26|| !(U2 (dX l (i+1))||Jh (dX l (i+1))) then U1 l n false true [] (i+1) nt else .ok [] (i+1) nt:PR (List Tn)).tot λ_ j _=>i<j:=by rw[fJ];exact⟨λ_=>bU ((adZ l n).it false true [] (i+1) nt ak) λx j m hj=>(show i<j by omega),λ_=>Nat.lt_succ_self i⟩
 refine bU h1 λL j m hj=> ?_
 rw[fJ];refine⟨λhc=> ?_,λ_=>hj⟩;rw[gu];exact bU ((adZ l n).ex 9 false false (j+1) m ak ak ak) λx j' m hj'=>(show i<j' by omega)
def aDV{n i:Nat}{nt:fM}(hn:40 * (l.length - i)+40<=n):(ak4 l n i nt).tot λ_ j _=>i<j:=by rw[ak4,fJ];refine⟨λ_=>aDU hn,λ_=> ?_⟩;rw[fJ];refine⟨λ_=>Nat.lt_succ_self i,λ_=> ?_⟩;rw[fJ];refine⟨λ_=>Nat.lt_succ_self i,λ_=> ?_⟩;rw[fJ];refine⟨λ_=>Nat.lt_succ_self i,λ_=> ?_⟩;rw[fJ];refine⟨λ_=>ash ak,λ_=> ?_⟩;rw[fJ];refine⟨λ_=>ash ak,λ_=> ?_⟩;rw[fJ];refine⟨λ_=>aDT ak,λ_=> ?_⟩;rw[gu];exact bU ((adZ l n).ex 1 false false i nt ak ak ak) λx j m hj=>hj
def apd{α:Type}{x:α}{i j:Nat}{nt:fM}(h:i<j):(endP l x j nt).tot λ_ j _=>i<j:=by rw[endP,fJ];exact⟨λ_=>h,λ_=>trivial⟩
structure aFT(l:List Tk)(n:Nat):Prop where
 st:∀i nt,60 * (l.length - i)+50<=n->(stP l n i nt).tot λ_ j _=>i<j
 blk:∀i nt,60 * (l.length - i)+42<=n->(MW l n i nt).tot λ_ j _=>i<j
 lines:∀L i nt,60 * (l.length - i)+52<=n->(XC l n L i nt).tot λ_ j _=>i<j
 body:∀i nt,60 * (l.length - i)+52<=n->(ER l n i nt).tot λ_ j _=>i<j
section
variable {n:Nat} (h:aFT l n)
include h
theorem aDW(i:Nat)(nt:fM)(hn:60 * (l.length - i)+50<=n+1):(stP l (n+1) i nt).tot λ_ j _=>i<j:=by
 rw[stP,fJ];refine⟨λ_=>h.blk i nt ak,λ_=> ?_⟩;rw[fJ];refine⟨λhc=> ?_,λ_=> ?_⟩
 ·have:=fK hc (by decide);simp only[gu];refine bU (ak7 ak) λx j m hj=> ?_
  refine bU (h.body j m ak) λy j2 m2 hj2=> ?_
  rw[fJ];refine⟨λhc=> ?_,λ_=>(show i<j2 by omega)⟩;have hs:=apc (l:=l) j2 m2;rw[gu];exact bU (h.body _ _ ak) λz j3 m3 hj3=>(show i<j3 by omega)
 rw[fJ];refine⟨λhc=> ?_,λ_=> ?_⟩
 ·have:=fK hc (by decide);simp only[gu];refine bU (ak7 ak) λx j m hj=> ?_
  exact bU (h.body j m ak) λy j2 m2 hj2=>(show i<j2 by omega)
 rw[fJ];refine⟨λhc=> ?_,λ_=> ?_⟩
 ·have:=fK hc (by decide);simp only[gu,ES];refine bU (h.body (i+1) nt ak) λx j m hj=>λhk=> ?_
  have hs:=apc (l:=l) j m;refine bU (ak7 ak) λy j2 m2 hj2=> ?_
  exact apd ak
 rw[fJ];refine⟨λhc=> ?_,λ_=> ?_⟩
 ·have:=fK hc (by decide);simp only[gu,ES];intro h32;rw[fJ];refine⟨λhd=> ?_,λ_=> ?_⟩
  ·simp only[gu,ES,abI];intro h6 h33;exact bU (h.body _ nt ak) λy j2 m2 hj2=>(show i<j2 by omega)
  ·simp only[gu,ES];refine bU (ahj ak) λx j m hj=>λhk=> ?_
   have g1:=aib (l:=l) (j+1) m;refine bU (ahj ak) λy j2 m2 hj2=>λhk2=> ?_
   have g2:=aib (l:=l) (j2+1) m2;refine bU (ahj ak) λz j3 m3 hj3=>λhk3=> ?_
   exact bU (h.body _ _ ak) λw j4 m4 hj4=>(show i<j4 by omega)
 rw[gu];exact bU (aDV ak) λx j m hj=>apd hj
theorem aAs(i:Nat)(nt:fM)(hn:60 * (l.length - i)+42<=n+1):(MW l (n+1) i nt).tot λ_ j _=>i<j:=by simp only[MW,gu,ES];intro hk;have:=iD (l:=l) (i:=i) (by rw[hk];decide);exact bU (h.lines [] (i+1) nt ak) λL j m hj=>(show i<j by omega)
theorem aup(L:List Tn)(i:Nat)(nt:fM)(hn:60 * (l.length - i)+52<=n+1):(XC l (n+1) L i nt).tot λ_ j _=>i<j:=by
 have hs:=apc (l:=l) i nt;rw[XC,fJ];refine⟨λhc=>(show i<(sep l i nt).1+1 by omega),λ_=> ?_⟩;rw[fJ];refine⟨λ_=>trivial,λhc=> ?_⟩;have hlt:(sep l i nt).1<l.length:=iD (by simpa using hc);rw[gu];refine bU (h.st _ _ ak) λs j m hj=> ?_
 exact bU (h.lines _ j m ak) λL j2 m2 hj2=>(show i<j2 by omega)
theorem axI(i:Nat)(nt:fM)(hn:60 * (l.length - i)+52<=n+1):(ER l (n+1) i nt).tot λ_ j _=>i<j:=by have hs:=aib (l:=l) i nt;rw[ER,fJ];refine⟨λhc=>bU (h.blk _ _ ak) λs j m hj=>(show i<j by omega),λ_=> ?_⟩;rw[fJ];refine⟨λ_=>(show i<(nl l i nt).1+1 by omega),λ_=> ?_⟩;rw[gu];exact bU (h.st _ _ ak) λs j m hj=>(show i<j by omega)
end
def avY(l:List Tk):∀n,aFT l n
 |0=>⟨λi nt hn=>by omega,λi nt hn=>by omega,λL i nt hn=>by omega,λi nt hn=>by omega⟩
 |n+1=>have h:=avY l n
  ⟨aDW h,aAs h,aup h,axI h⟩
def asi:∀(n:Nat) (L:List Tn) (i:Nat) (nt:fM),l.length - i+1<=n->(Ho l n L i nt).tot λ_ j _=>i<j
 |0,_,_,_,hn=>by omega
 |n+1,L,i,nt,hn=>by rw[Ho,gu,abI];intro h6;have:=iD (l:=l) (i:=i) (by rw[h6];decide);rw[fJ];refine⟨λhc=> ?_,λ_=>Nat.lt_succ_self i⟩;rw[fJ];refine⟨λ_=>trivial,λ_=> ?_⟩;have hs:=aib (l:=l) (i+1+1) nt;exact bU (asi n _ _ _ ak) λs j m hj=>(show i<j by omega)
def aDX{n i:Nat}{nt:fM}(hn:60 * (l.length - i)+50<=n):(ak5 l n i nt).tot λ_ j _=>i<j:=by
 rw[ak5,fJ];refine⟨λhc=> ?_,λ_=>trivial⟩;simp only[gu,ES];intro h32;have h1:(bif dX l (i+1+1)==33 then .ok [] (i+1+1) nt else Ho l n [] (i+1+1) nt:PR (List Tn)).tot λ_ j _=>i<j:=by rw[fJ];exact⟨λ_=>(show i<i+1+1 by omega),λ_=>bU (asi n [] _ nt ak) λx j m hj=>(show i<j by omega)⟩
 refine bU h1 λL j m hj=>λh33=> ?_
 have hs:=aib (l:=l) (j+1) m;exact bU ((avY l n).blk _ _ ak) λx j m hj=>(show i<j by omega)
def aAt{n i:Nat}{nt:fM}(hn:60 * (l.length - i)+50<=n):(Xj l n i nt).tot λ_ j _=>i<j:=by
 have hb:∀(i:Nat) (nt:fM) (k o:Int),60 * (l.length - i)+50<=n->((MW l n i nt).bind λb i nt=>PR.ok (Tn.mk k o [] [] [b]) i nt).tot λ_ j _=>i<j:=by intro i nt k o hn;rw[gu];exact bU ((avY l n).blk i nt ak) λx j m hj=>hj
 rw[Xj,fJ];refine⟨λhc=>bU (hb (i+1) nt 40 0 ak) λx j m hj=>(show i<j by omega),λ_=> ?_⟩;rw[fJ];refine⟨λhc=>bU (hb (i+1) nt 41 0 ak) λx j m hj=>(show i<j by omega),λ_=> ?_⟩;rw[fJ];refine⟨λhc=>bU (aDX ak) λx j m hj=>(show i<j by omega),λ_=> ?_⟩;rw[fJ];refine⟨λhc=>hb i nt 42 2 ak,λ_=> ?_⟩;rw[gu];refine bU ((adZ l n).ex 1 false false i nt ak ak ak) λx j m hj=> ?_
 rw[gu];have h1:(bif dX l j==36 then(ex l n 1 false false (nl l (j+1) m).1 (nl l (j+1) m).2).bind λy i nt=> .ok (43,[x.1,y.1]) i nt else .ok (42,[x.1]) j m:PR (Int×List Tn)).tot λ_ j _=>i<j:=by rw[fJ];refine⟨λhc=> ?_,λ_=>hj⟩;have hs:=aib (l:=l) (j+1) m;rw[gu];exact bU ((adZ l n).ex 1 false false _ _ ak ak ak) λy j2 m2 hj2=>(show i<j2 by omega)
 refine bU h1 λq j2 m2 hj2=> ?_
 rw[fJ];refine⟨λhc=> ?_,λ_=>apd hj2⟩;rw[gu];exact bU ((avY l n).blk j2 m2 ak) λy j3 m3 hj3=>(show i<j3 by omega)
def asj:∀(n:Nat) (L:List Tn) (i:Nat) (nt:fM),60 * (l.length - i)+52<=n->(O8 l n L i nt).tot λ_ j _=>i<=j
 |0,_,_,_,hn=>by omega
 |n+1,L,i,nt,hn=>by
  have hs:=apc (l:=l) i nt;rw[O8,fJ];refine⟨λ_=>hs,λhc=> ?_⟩;have hlt:(sep l i nt).1<l.length:=iD (by simpa using hc);rw[fJ];refine⟨λ_=>trivial,λ_=> ?_⟩;rw[gu];refine bU (aAt ak) λs j m hj=> ?_
  exact bU (asj n _ j m ak) λL j2 m2 hj2=>(show i<=j2 by omega)
section
variable {α β:Type} {P Q:α->Nat->fM->Prop} {R:β->Nat->fM->Prop} {x y:PR α} {f:α->Nat->fM->PR β} {c:Bool}
def fC:(x.bind f).sat R↔x.sat λa i nt=>(f a i nt).sat R:=by cases x<;>exact Iff.rfl
def bK(h:x.sat P)(k:∀a i nt,P a i nt->Q a i nt):x.sat Q:=by
 cases x with
 |ok a i nt=>exact k a i nt h
 |bad _=>trivial
 |out=>trivial
def eX:(bif c then x else y).sat P↔(c=true->x.sat P)/\(c=false->y.sat P):=by cases c<;>simp
def rF{a:α}{i:Nat}{nt:fM}(h:x.sat P)(e:x=.ok a i nt):P a i nt:=by rw[e] at h;exact h
end
variable {l:List Tk}
def Dh{P:Unit->Nat->fM->Prop}{k:Int}{i:Nat}{nt:fM}:(qL l k i nt).sat P↔(dX l i=k->P () (i+1) nt):=by unfold qL;rw[eX];simp[PR.sat]
def Yw{P:aC->Nat->fM->Prop}{i:Nat}{nt:fM}:(nameP l i nt).sat P↔(dX l i=6->P (MS l i) (i+1) nt):=by unfold nameP;rw[eX];simp[PR.sat]
abbrev FN(l:List Tk)(i n0 j n:Nat):Prop:=i<=j/\j<=l.length/\n+i<=n0+j
abbrev FE(l:List Tk)(i n0 s j n:Nat):Prop:=i<j/\j<=l.length/\n+i<=n0+j/\s+2 * i+1<=2 * j
def ape:∀(r:List Tk) (i:Nat) (nt:fM),i<=(nlR r i nt).1/\(nlR r i nt).1<=i+r.length/\(nlR r i nt).2.length+i<=nt.length+(nlR r i nt).1
 |[],i,nt=>by rw[nlR];exact⟨zaV _,zaV _,zaV _⟩
 |t::r,i,nt=>by
  rw[nlR,GX];cases t.kind==1<;>cases t.kind==2<;>simp only[aH,bC]
  ·omega
  ·have:=ape r (i+1) (nt++[t.text]);rw[Ai,Jj] at this;omega
  ·have:=ape r (i+1) nt;omega
  ·have:=ape r (i+1) nt;omega
def O9{i:Nat}{nt:fM}(h:i<=l.length):FN l i nt.length (nl l i nt).1 (nl l i nt).2.length:=by have:=ape (l.drop i) i nt;rw[List.length_drop] at this;unfold nl;omega
def ai7:∀(r:List Tk) (i:Nat) (nt:fM),i<=(WA r i nt).1/\(WA r i nt).1<=i+r.length/\(WA r i nt).2.length+i<=nt.length+(WA r i nt).1
 |[],i,nt=>by rw[WA];exact⟨zaV _,zaV _,zaV _⟩
 |t::r,i,nt=>by
  rw[WA,GX];cases(t.kind==1||t.kind==37)<;>cases t.kind==2<;>simp only[aH,bC]
  ·omega
  ·have:=ai7 r (i+1) (nt++[t.text]);rw[Ai,Jj] at this;omega
  ·have:=ai7 r (i+1) nt;omega
  ·have:=ai7 r (i+1) nt;omega
def abK{i:Nat}{nt:fM}(h:i<=l.length):FN l i nt.length (sep l i nt).1 (sep l i nt).2.length:=by have:=ai7 (l.drop i) i nt;rw[List.length_drop] at this;unfold sep;omega
structure aSD(l:List Tk)(n:Nat):Prop where
 ex:∀lv a b i nt,1<=lv->lv<=15->i<=l.length->(ex l n lv a b i nt).sat λx j m=>FE l i nt.length x.1.size j m.length
 ch:∀lv a b x i nt,3<=lv->lv<=10->i<=l.length->(chP l n lv a b x i nt).sat λy j m=>FN l i nt.length j m.length/\y.1.size+2 * i<=x.1.size+2 * j
 inp:∀a x i nt,i<=l.length->(inP l n a x i nt).sat λy j m=>FN l i nt.length j m.length/\y.1.size+2 * i<=x.1.size+2 * j
 pre:∀i nt,i<l.length->(XB l n i nt).sat λx j m=>FE l i nt.length x.1.size j m.length
 lst:∀e i nt,e≠0->i<=l.length->(UG l n e i nt).sat λL j m=>FE l i nt.length (sizes L) j m.length
 it:∀a b L i nt,i<=l.length->(U1 l n a b L i nt).sat λL' j m=>i<j/\FN l i nt.length j m.length/\sizes L'+2 * i+1<=sizes L+2 * j
def ZI(k o:Int)(x y:aC)(t:Tn):(Tn.mk k o x y [t]).size=t.size+1:=by simp only[Tn.size,sizes,Nat.add_zero]
def size2(k o:Int)(x y:aC)(t u:Tn):(Tn.mk k o x y [t,u]).size=t.size+u.size+1:=by simp only[Tn.size,sizes,Nat.add_zero]
def size3(k o:Int)(x y:aC)(t u v:Tn):(Tn.mk k o x y [t,u,v]).size=t.size+u.size+v.size+1:=by simp only[Tn.size,sizes,Nat.add_zero];omega
def aSE(k o:Int)(x y:aC)(t u v w:Tn):(Tn.mk k o x y [t,u,v,w]).size=t.size+u.size+v.size+w.size+1:=by simp only[Tn.size,sizes];omega
def ZJ(k o:Int)(x y:aC)(L:List Tn):(Tn.mk k o x y L).size=sizes L+1:=by rw[Tn.size]
def aic(k o:Int)(x y:aC):(Tn.mk k o x y []).size=1:=by rw[Tn.size,sizes]
def sizes1(L:List Tn)(t:Tn):sizes (L++[t])=sizes L+t.size:=by rw[vP,sizes,sizes];omega
section
variable {n:Nat} (h:aSD l n)
include h
theorem aDY(lv:Nat)(a b:Bool)(i:Nat)(nt:fM)(h1:1<=lv)(h2:lv<=15)(hi:i<=l.length):(ex l (n+1) lv a b i nt).sat λx j m=>FE l i nt.length x.1.size j m.length:=by
 have hlt:∀{j:Nat} {k:Int},(dX l j==k)=true->k≠0->j<l.length:=λe hk=>iD (by rw[beq_iff_eq] at e;rw[e];exact hk)
 have hc:lv=1\/lv=2\/lv=3\/lv=4\/lv=5\/lv=6\/lv=7\/lv=8\/lv=9\/lv=10\/lv=11\/lv=12\/lv=13\/lv=14\/lv=15:=ak;rcases hc with rfl|rfl|rfl|rfl|rfl|rfl|rfl|rfl|rfl|rfl|rfl|rfl|rfl|rfl|rfl<;>simp only[ex,fC]
 ·refine bK (h.ex 2 a b i nt ak ak hi) λx j m hj=> ?_
  rw[eX];refine⟨λhc=> ?_,λ_=>hj⟩;rw[BK] at hc;have:=iD (auo hc.2);rw[fC];exact bK (h.ex 1 a b (j+1) m ak ak ak) λy j' m' hj'=>by show FE l i nt.length (Tn.size _) j' m'.length;rw[size2];omega
 ·refine bK (h.ex 3 a b i nt ak ak hi) λx j m hj=> ?_
  rw[eX];refine⟨λhc=> ?_,λ_=>hj⟩;have:=hlt hc (by decide);simp only[fC,Dh];refine bK (h.ex 2 a b (j+1) m ak ak ak) λy j2 m2 hj2=>λhk=> ?_
  have:=iD (l:=l) (i:=j2) (by rw[hk];decide);exact bK (h.ex 2 a b (j2+1) m2 ak ak ak) λz j3 m3 hj3=>by show FE l i nt.length (Tn.size _) j3 m3.length;rw[size3];omega
 ·refine bK (h.ex 4 a b i nt ak ak hi) λx j m hj=> ?_
  exact bK (h.ch 3 a b x j m ak ak ak) λy j' m' hj'=>by omega
 ·refine bK (h.ex 5 a b i nt ak ak hi) λx j m hj=> ?_
  exact bK (h.ch 4 a b x j m ak ak ak) λy j' m' hj'=>by omega
 ·rw[eX];refine⟨λhc=> ?_,λ_=> ?_⟩
  ·rw[BK,BK] at hc;have:=hlt hc.1.1 (by decide);simp only[fC,Dh,Yw];refine bK (h.lst 33 (i+1) nt (by decide) ak) λL j m hj=>λh24 h6=> ?_
   have:=iD (l:=l) (i:=j) (by rw[h24];decide);have:=iD (l:=l) (i:=j+1) (by rw[h6];decide);exact bK (h.inp a _ (j+1+1) m ak) λy j' m' hj'=>by rw[ZJ] at hj';omega
  ·rw[fC];refine bK (h.ex 6 a b i nt ak ak hi) λx j m hj=> ?_
   exact bK (h.inp a x j m ak) λy j' m' hj'=>by omega
 ·refine bK (h.ex 7 a b i nt ak ak hi) λx j m hj=> ?_
  rw[eX];refine⟨λhc=> ?_,λ_=>hj⟩;have:j<l.length:=by rw[Bool.or_eq_true] at hc;rcases hc with hc|hc<;>exact hlt hc (by decide)
  rw[fC];exact bK (h.ex 7 a b (j+1) m ak ak ak) λy j' m' hj'=>by show FE l i nt.length (Tn.size _) j' m'.length;rw[size2];omega
 ·refine bK (h.ex 8 a b i nt ak ak hi) λx j m hj=> ?_
  rw[eX];refine⟨λhc=> ?_,λ_=>hj⟩;have:=iD (afY ak hc);rw[fC];exact bK (h.ex 8 a b (j+1) m ak ak ak) λy j' m' hj'=>by show FE l i nt.length (Tn.size _) j' m'.length;rw[size2];omega
 ·refine bK (h.ex 9 a b i nt ak ak hi) λx j m hj=> ?_
  exact bK (h.ch 8 a b x j m ak ak ak) λy j' m' hj'=>by omega
 ·refine bK (h.ex 10 a b i nt ak ak hi) λx j m hj=> ?_
  exact bK (h.ch 9 a b x j m ak ak ak) λy j' m' hj'=>by omega
 ·refine bK (h.ex 11 a b i nt ak ak hi) λx j m hj=> ?_
  exact bK (h.ch 10 a b x j m ak ak ak) λy j' m' hj'=>by omega
 ·rw[eX];refine⟨λhc=> ?_,λ_=>h.ex 12 a b i nt ak ak hi⟩;have:i<l.length:=by simp only[Bool.or_eq_true] at hc;rcases hc with hc|hc|hc<;>exact hlt hc (by decide)
  rw[fC];exact bK (h.ex 11 a b (i+1) nt ak ak ak) λy j' m' hj'=>by show FE l i nt.length (Tn.size _) j' m'.length;rw[ZI];omega
 ·refine bK (h.ex 13 a b i nt ak ak hi) λx j m hj=> ?_
  rw[eX];refine⟨λhc=> ?_,λ_=>hj⟩;have:=hlt hc (by decide);rw[fC];exact bK (h.ex 11 a b (j+1) m ak ak ak) λy j' m' hj'=>by show FE l i nt.length (Tn.size _) j' m'.length;rw[size2];omega
 ·rw[eX];refine⟨λhc=> ?_,λ_=> ?_⟩
  ·have:=iD (Xk hc);exact h.pre i nt this
  ·rw[fC];refine bK (h.ex 14 a b i nt ak ak hi) λx j m hj=> ?_
   rw[eX];refine⟨λhs=> ?_,λ_=>hj⟩;rw[BK] at hs;have:=iD (Xk hs.2);show FE l i nt.length (Tn.size _) (j+1) m.length;rw[ZI];omega
 ·rw[eX];refine⟨λhc=> ?_,λ_=>h.ex 15 a b i nt ak ak hi⟩;have:=hlt hc (by decide);rw[fC,eX];refine⟨λhs=> ?_,λ_=> ?_⟩
  ·have:=iD (Xk hs);exact bK (h.pre (i+1) nt this) λx j m hj=>by show FE l i nt.length (Tn.size _) j m.length;rw[ZI];omega
  ·exact bK (h.ex 14 a b (i+1) nt ak ak ak) λx j m hj=>by show FE l i nt.length (Tn.size _) j m.length;rw[ZI];omega
 ·have abJ:∀k,i<l.length->(adY k l i nt).sat λx j m=>FE l i nt.length x.1.size j m.length:=λk hl=>by show FE l i nt.length (Tn.size _) (i+1) nt.length;rw[aic];omega
  rw[eX];refine⟨λhc=>abJ 2 (hlt hc (by decide)),λ_=> ?_⟩;rw[eX];refine⟨λhc=>abJ 3 (hlt hc (by decide)),λ_=> ?_⟩;rw[eX];refine⟨λhc=>abJ 4 (hlt hc (by decide)),λ_=> ?_⟩;rw[eX];refine⟨λhc=> ?_,λ_=> ?_⟩
  ·have h0:=hlt hc (by decide);rw[eX];refine⟨λhd=> ?_,λ_=>abJ 1 h0⟩;have:=hlt hd (by decide);simp only[fC,Dh];exact bK (h.it false false [] (i+2) nt ak) λL j m hj=>λhk=>by have:=iD (l:=l) (i:=j) (by rw[hk];decide);show FE l i nt.length (Tn.size _) (j+1) m.length;rw[ZJ];have e:sizes ([]:List Tn)=0:=rfl;omega
  rw[eX];refine⟨λhc=> ?_,λ_=> ?_⟩
  ·have:i<l.length:=by rw[Bool.or_eq_true] at hc;rcases hc with hc|hc<;>exact hlt hc (by decide)
   rw[eX];refine⟨λ_=>abJ 8 this,λ_=> ?_⟩;simp only[fC,Dh];intro h32;have:=iD (l:=l) (i:=i+1) (by rw[h32];decide);exact bK (h.lst 33 (i+1+1) nt (by decide) ak) λL j m hj=>by show FE l i nt.length (Tn.size _) j m.length;rw[ZJ];omega
  rw[eX];refine⟨λhc=> ?_,λ_=>trivial⟩;have:=hlt hc (by decide);simp only[fC,Dh];exact bK (h.ex 1 false false (i+1) nt ak ak ak) λx j m hj=>λhk=>by have:=iD (l:=l) (i:=j) (by rw[hk];decide);show FE l i nt.length x.1.size (j+1) m.length;omega
theorem aDZ(lv:Nat)(a b:Bool)(x:Xp)(i:Nat)(nt:fM)(h3:3<=lv)(h10:lv<=10)(hi:i<=l.length):(chP l (n+1) lv a b x i nt).sat λy j m=>FN l i nt.length j m.length/\y.1.size+2 * i<=x.1.size+2 * j:=by
 rw[chP,eX];refine⟨λhc=> ?_,λ_=>(show FN l i nt.length i nt.length/\x.1.size+2 * i<=x.1.size+2 * i by omega)⟩;have hlt:=iD (afY h3 hc);simp only;cases h8:Nat.beq lv 8 with
 |true=>
  have:=I5 h8;subst this;simp only[aH,fC];refine bK (h.ex 9 a b i nt ak ak ak) λy j m hj=> ?_
  exact bK (h.ch 8 a b _ j m ak ak ak) λy j' m' hj'=>by rw[size2] at hj';omega
 |false=>
  simp only[bC];cases h4:Nat.ble lv 4 with
  |true=>
   simp only[aH,fC];have hg:=O9 (l:=l) (i:=i+1) (nt:=nt) ak;refine bK (h.ex (lv+1) a b _ _ ak ak ak) λy j m hj=> ?_
   exact bK (h.ch lv a b _ j m ak ak ak) λy j' m' hj'=>by rw[size2] at hj';omega
  |false=>
   simp only[bC,fC];refine bK (h.ex (lv+1) a b (i+1) nt ak ak ak) λy j m hj=> ?_
   exact bK (h.ch lv a b _ j m ak ak ak) λy j' m' hj'=>by rw[size2] at hj';omega
theorem aAu(a:Bool)(x:Xp)(i:Nat)(nt:fM)(hi:i<=l.length):(inP l (n+1) a x i nt).sat λy j m=>FN l i nt.length j m.length/\y.1.size+2 * i<=x.1.size+2 * j:=by rw[inP,eX];refine⟨λhc=> ?_,λ_=>(show FN l i nt.length i nt.length/\x.1.size+2 * i<=x.1.size+2 * i by omega)⟩;rw[fC,Yw];intro h6;have:=iD (l:=l) (i:=i+1) (by rw[h6];decide);exact bK (h.inp a _ (i+1+1) nt ak) λy j' m' hj'=>by rw[ZI] at hj';omega
theorem aAv(i:Nat)(nt:fM)(hi:i<l.length):(XB l (n+1) i nt).sat λx j m=>FE l i nt.length x.1.size j m.length:=by rw[XB,eX];refine⟨λhc=> ?_,λ_=>trivial⟩;rw[fC];exact bK (h.ex 14 false false (i+1) nt ak ak ak) λy j' m' hj'=>by show FE l i nt.length (Tn.size _) j' m'.length;rw[ZI];omega
theorem aAw(e:Int)(i:Nat)(nt:fM)(he:e≠0)(hi:i<=l.length):(UG l (n+1) e i nt).sat λL j m=>FE l i nt.length (sizes L) j m.length:=by
 have e0:sizes ([]:List Tn)=0:=rfl;rw[UG,eX];refine⟨λhc=> ?_,λ_=> ?_⟩
 ·have:=iD (l:=l) (i:=i) (by rw[beq_iff_eq] at hc;rw[hc];exact he);show FE l i nt.length (sizes []) (i+1) nt.length;omega
 simp only[fC,Dh];exact bK (h.it false false [] i nt hi) λL j m hj=>λhk=>by have:=iD (l:=l) (i:=j) (by rw[hk];exact he);show FE l i nt.length (sizes L) (j+1) m.length;omega
theorem aD0(a b:Bool)(L:List Tn)(i:Nat)(nt:fM)(hi:i<=l.length):(U1 l (n+1) a b L i nt).sat λL' j m=>i<j/\FN l i nt.length j m.length/\sizes L'+2 * i+1<=sizes L+2 * j:=by
 rw[U1,fC];refine bK (h.ex 1 a b i nt ak ak hi) λx j m hj=> ?_
 rw[eX];refine⟨λhc=> ?_,λ_=> ?_⟩
 ·have:j<l.length:=iD (by rw[beq_iff_eq] at hc;rw[hc];decide);rw[eX];refine⟨λ_=>trivial,λ_=> ?_⟩;have hg:=O9 (l:=l) (i:=j+1) (nt:=m) ak;exact bK (h.it a b _ _ _ ak) λy j' m' hj'=>by rw[sizes1] at hj';omega
 ·show i<j/\FN l i nt.length j m.length/\sizes (L++[x.1])+2 * i+1<=sizes L+2 * j;rw[sizes1];omega
end
def sats(l:List Tk):∀n,aSD l n
 |0=>⟨λ_ _ _ _ _ _ _ _=>by rw[ex];trivial,λ_ _ _ _ _ _ _ _ _=>by rw[chP];trivial,λ_ _ _ _ _=>by rw[inP];trivial,λ_ _ _=>by rw[XB];trivial,λ_ _ _ _ _=>by rw[UG];trivial,λ_ _ _ _ _ _=>by rw[U1];trivial⟩
 |n+1=>have h:=sats l n
  ⟨aDY h,aDZ h,aAu h,aAv h,aAw h,aD0 h⟩
variable {l:List Tk}
abbrev FB(l:List Tk)(i n0 s j n:Nat):Prop:=i<j/\j<=l.length/\n+i<=n0+j/\s+n+6 * i+5<=n0+6 * j
abbrev FS(l:List Tk)(i n0 s j n:Nat):Prop:=i<j/\j<=l.length/\n+i<=n0+j/\s+n+6 * i+3<=n0+6 * j
def sizes0:sizes ([]:List Tn)=0:=rfl
def Dq(nt:fM):(Yv nt).length=nt.length:=by rw[Yv,zaW]
def Zd:∀nt:fM,sizes (Yv nt)=nt.length
 |[]=>rfl
 |s::r=>by rw[show Yv (s::r)=Tn.mk 34 0 s [] []::Yv r from rfl,sizes,aic,Zd r,GX];omega
def JM{n lv i:Nat}{a b:Bool}{nt:fM}(h1:1<=lv)(h2:lv<=15)(hi:i<=l.length):(ex l n lv a b i nt).sat λx j m=>FE l i nt.length x.1.size j m.length:=(sats l n).ex lv a b i nt h1 h2 hi
def anP{n i:Nat}{a b:Bool}{nt:fM}(hi:i<=l.length):(U1 l n a b [] i nt).sat λL j m=>FE l i nt.length (sizes L) j m.length:=
 bK ((sats l n).it a b [] i nt hi) λL j m hj=>by rw[sizes0] at hj;omega
def ab4{n i:Nat}{nt:fM}(hi:i<=l.length):(Xi l n i nt).sat λx j m=>FE l i nt.length x.size j m.length:=by simp only[Xi,fC,Dh];intro hk;have:=iD (l:=l) (i:=i) (by rw[hk];decide);exact bK (JM ak ak ak) λx j m hj=>λhk=>by have:=iD (l:=l) (i:=j) (by rw[hk];decide);show FE l i nt.length x.1.size (j+1) m.length;omega
def Yx{n i:Nat}{nt:fM}{e:Int}{a:Bool}(hi:i<=l.length):(MV l n e a i nt).sat λx j m=>FN l i nt.length j m.length/\x.size+2 * i<=2 * j+1:=by
 rw[MV,eX];refine⟨λ_=> ?_,λ_=> ?_⟩
 ·show FN l i nt.length i nt.length/\(Tn.size _)+2 * i<=2 * i+1;rw[aic];omega
 rw[fC];exact bK (JM ak ak hi) λx j m hj=>by show FN l i nt.length j m.length/\x.1.size+2 * i<=2 * j+1;omega
def avZ{n i:Nat}{k:Int}{nt:fM}(hi:i<l.length):(ZH l n k i nt).sat λx j m=>FS l i nt.length x.size j m.length:=by
 rw[ZH,eX];refine⟨λ_=> ?_,λ_=> ?_⟩
 ·show FS l i nt.length (Tn.size _) (i+1) nt.length;rw[aic];omega
 rw[fC];exact bK (JM ak ak ak) λx j m hj=>by show FS l i nt.length (Tn.size _) j m.length;rw[ZI];omega
def aIc{n i:Nat}{nt:fM}:(ak3 l n i nt).sat λx j m=>FS l i nt.length x.size j m.length:=by
 rw[ak3,fC,Yw];intro h;have:=iD (l:=l) (i:=i+1) (by rw[h];decide);rw[eX];refine⟨λhc=> ?_,λ_=> ?_⟩
 ·have:=fK hc (by decide);simp only[fC,Dh];exact bK (anP ak) λx j m hj=>λhk=>by have:=iD (l:=l) (i:=j) (by rw[hk];decide);show FS l i nt.length (Tn.size _) (j+1) m.length;rw[ZJ];omega
 ·show FS l i nt.length (Tn.size _) (i+1+1) nt.length;rw[aic];omega
def aId{n i:Nat}{nt:fM}(hi:i<l.length):(ahi l n i nt).sat λx j m=>FS l i nt.length x.size j m.length:=by
 rw[ahi,fC];have h1:(bif dX l i==26|| !(U2 (dX l (i+1))||Jh (dX l (i+1))) then U1 l n false true [] (i+1) nt else .ok [] (i+1) nt:PR (List Tn)).sat λL j m=>FN l (i+1) nt.length j m.length/\sizes L+2 * (i+1)<=2 * j:=by rw[eX];refine⟨λ_=>bK (anP ak) λx j m hj=>by omega,λ_=> ?_⟩;show FN l (i+1) nt.length (i+1) nt.length/\sizes []+2 * (i+1)<=2 * (i+1);rw[sizes0];omega
 refine bK h1 λL j m hj=> ?_
 rw[eX];refine⟨λhc=> ?_,λ_=> ?_⟩
 ·have:=iD (ak6 hc);rw[fC];exact bK (JM ak ak ak) λx j' m' hj'=>by show FS l i nt.length (Tn.size _) j' m'.length;rw[ZJ,sizes1];omega
 ·show FS l i nt.length (Tn.size _) j m.length;rw[ZJ];omega
def aAx{n i:Nat}{nt:fM}(hi:i<=l.length):(ak4 l n i nt).sat λx j m=>FS l i nt.length x.size j m.length:=by
 have hw:∀k,i<l.length->(PR.ok (Tn.mk k 0 [] [] []) (i+1) nt).sat λx j m=>FS l i nt.length x.size j m.length:=λk hl=>by show FS l i nt.length (Tn.size _) (i+1) nt.length;rw[aic];omega
 rw[ak4,eX];refine⟨λhc=> ?_,λ_=> ?_⟩
 ·have:i<l.length:=by rw[Bool.or_eq_true] at hc;rcases hc with hc|hc<;>exact fK hc (by decide)
  exact aId this
 rw[eX];refine⟨λhc=>hw 22 (fK hc (by decide)),λ_=> ?_⟩;rw[eX];refine⟨λhc=>hw 25 (fK hc (by decide)),λ_=> ?_⟩;rw[eX];refine⟨λhc=>hw 26 (fK hc (by decide)),λ_=> ?_⟩;rw[eX];refine⟨λhc=>avZ (fK hc (by decide)),λ_=> ?_⟩;rw[eX];refine⟨λhc=>avZ (fK hc (by decide)),λ_=> ?_⟩;rw[eX];refine⟨λ_=>aIc,λ_=> ?_⟩;rw[fC];exact bK (JM ak ak hi) λx j m hj=>by show FS l i nt.length (Tn.size _) j m.length;rw[ZI];omega
def auq{α:Type}{P:α->Nat->fM->Prop}{x:α}{j:Nat}{nt:fM}(h:P x j nt):(endP l x j nt).sat P:=by rw[endP,eX];exact⟨λ_=>h,λ_=>trivial⟩
structure aFU(l:List Tk)(n:Nat):Prop where
 st:∀i nt,i<=l.length->(stP l n i nt).sat λx j m=>FS l i nt.length x.size j m.length
 blk:∀i nt,i<=l.length->(MW l n i nt).sat λx j m=>FB l i nt.length x.size j m.length
 lines:∀L i nt,i<=l.length->(XC l n L i nt).sat λL' j m=>i<j/\FN l i nt.length j m.length/\sizes L'+m.length+6 * i<=sizes L+nt.length+6 * j
 body:∀i nt,i<=l.length->(ER l n i nt).sat λx j m=>i<j/\FN l i nt.length j m.length/\x.size+m.length+6 * i+1<=nt.length+6 * j
section
variable {n:Nat} (h:aFU l n)
include h
theorem aD1(i:Nat)(nt:fM)(hi:i<=l.length):(stP l (n+1) i nt).sat λx j m=>FS l i nt.length x.size j m.length:=by
 rw[stP,eX];refine⟨λ_=>bK (h.blk i nt hi) λx j m hj=>by omega,λ_=> ?_⟩;rw[eX];refine⟨λhc=> ?_,λ_=> ?_⟩
 ·have:=fK hc (by decide);simp only[fC];refine bK (ab4 ak) λx j m hj=> ?_
  refine bK (h.body j m ak) λy j2 m2 hj2=> ?_
  rw[eX];have hs:=abK (l:=l) (i:=j2) (nt:=m2) ak;refine⟨λhc=> ?_,λ_=> ?_⟩
  ·have:=fK hc (by decide);rw[fC];exact bK (h.body _ _ ak) λz j3 m3 hj3=>by show FS l i nt.length (Tn.size _) j3 m3.length;rw[size3];omega
  ·show FS l i nt.length (Tn.size _) j2 m2.length;rw[size2];omega
 rw[eX];refine⟨λhc=> ?_,λ_=> ?_⟩
 ·have:=fK hc (by decide);simp only[fC];refine bK (ab4 ak) λx j m hj=> ?_
  exact bK (h.body j m ak) λy j2 m2 hj2=>by show FS l i nt.length (Tn.size _) j2 m2.length;rw[size2];omega
 rw[eX];refine⟨λhc=> ?_,λ_=> ?_⟩
 ·have:=fK hc (by decide);simp only[fC,Dh];refine bK (h.body (i+1) nt ak) λx j m hj=>λhk=> ?_
  have hs:=abK (l:=l) (i:=j) (nt:=m) ak;have:=iD (l:=l) (i:=(sep l j m).1) (by rw[hk];decide);refine bK (ab4 ak) λy j2 m2 hj2=> ?_
  refine auq (?_:FS l i nt.length (Tn.size _) j2 m2.length);rw[size2];omega
 rw[eX];refine⟨λhc=> ?_,λ_=> ?_⟩
 ·have:=fK hc (by decide);simp only[fC,Dh];intro h32;have:=iD (l:=l) (i:=i+1) (by rw[h32];decide);rw[eX];refine⟨λhd=> ?_,λ_=> ?_⟩
  ·simp only[fC,Dh,Yw];intro h6 h33;have:=iD (l:=l) (i:=i+1+1+2+1) (by rw[h33];decide);exact bK (h.body _ nt ak) λy j2 m2 hj2=>by show FS l i nt.length (Tn.size _) j2 m2.length;rw[ZI];omega
  ·simp only[fC,Dh];refine bK (Yx ak) λx j m hj=>λhk=> ?_
   have:=iD (l:=l) (i:=j) (by rw[hk];decide);have g1:=O9 (l:=l) (i:=j+1) (nt:=m) ak;refine bK (Yx ak) λy j2 m2 hj2=>λhk2=> ?_
   have:=iD (l:=l) (i:=j2) (by rw[hk2];decide);have g2:=O9 (l:=l) (i:=j2+1) (nt:=m2) ak;refine bK (Yx ak) λz j3 m3 hj3=>λhk3=> ?_
   have:=iD (l:=l) (i:=j3) (by rw[hk3];decide);exact bK (h.body _ _ ak) λw j4 m4 hj4=>by show FS l i nt.length (Tn.size _) j4 m4.length;rw[aSE];omega
 rw[fC];exact bK (aAx hi) λx j m hj=>auq hj
theorem aAy(i:Nat)(nt:fM)(hi:i<=l.length):(MW l (n+1) i nt).sat λx j m=>FB l i nt.length x.size j m.length:=by simp only[MW,fC,Dh];intro hk;have:=iD (l:=l) (i:=i) (by rw[hk];decide);exact bK (h.lines [] (i+1) nt ak) λL j m hj=>by rw[sizes0] at hj;show FB l i nt.length (Tn.size _) j m.length;rw[ZJ];omega
theorem aur(L:List Tn)(i:Nat)(nt:fM)(hi:i<=l.length):(XC l (n+1) L i nt).sat λL' j m=>i<j/\FN l i nt.length j m.length/\sizes L'+m.length+6 * i<=sizes L+nt.length+6 * j:=by
 have hs:=abK (l:=l) (i:=i) (nt:=nt) hi;rw[XC,eX];refine⟨λhc=> ?_,λ_=> ?_⟩
 ·have:=fK hc (by decide);show i<(sep l i nt).1+1/\FN l i nt.length ((sep l i nt).1+1) ([]:fM).length/\sizes (L++Yv (sep l i nt).2)+([]:fM).length+6 * i<=sizes L+nt.length+6 * ((sep l i nt).1+1);rw[vP,Zd,OT];omega
 rw[eX];refine⟨λ_=>trivial,λhc=> ?_⟩;have hlt:(sep l i nt).1<l.length:=iD (by simpa using hc);rw[fC];refine bK (h.st _ _ ak) λs j m hj=> ?_
 rw[OT] at hj;exact bK (h.lines _ j m ak) λL' j2 m2 hj2=>by rw[sizes1,vP,Zd] at hj2;omega
theorem axJ(i:Nat)(nt:fM)(hi:i<=l.length):(ER l (n+1) i nt).sat λx j m=>i<j/\FN l i nt.length j m.length/\x.size+m.length+6 * i+1<=nt.length+6 * j:=by
 have hs:=O9 (l:=l) (i:=i) (nt:=nt) hi;rw[ER,eX];refine⟨λhc=>bK (h.blk _ _ ak) λs j m hj=>by omega,λ_=> ?_⟩;rw[eX];refine⟨λhc=> ?_,λ_=> ?_⟩
 ·have:=fK hc (by decide);show i<(nl l i nt).1+1/\FN l i nt.length ((nl l i nt).1+1) ([]:fM).length/\(Tn.size _)+([]:fM).length+6 * i+1<=nt.length+6 * ((nl l i nt).1+1);rw[ZJ,Zd,OT];omega
 rw[fC];exact bK (h.st _ _ ak) λs j m hj=>by rw[OT] at hj;show i<j/\FN l i nt.length j m.length/\(Tn.size _)+m.length+6 * i+1<=nt.length+6 * j;rw[ZJ,sizes1,Zd];omega
end
def afZ(l:List Tk):∀n,aFU l n
 |0=>⟨λ_ _ _=>by rw[stP];trivial,λ_ _ _=>by rw[MW];trivial,λ_ _ _ _=>by rw[XC];trivial,λ_ _ _=>by rw[ER];trivial⟩
 |n+1=>have h:=afZ l n
  ⟨aD1 h,aAy h,aur h,axJ h⟩
def apf:∀(n:Nat) (L:List Tn) (i:Nat) (nt:fM),i<=l.length->(Ho l n L i nt).sat λL' j m=>i<j/\FN l i nt.length j m.length/\sizes L'+m.length+6 * i<=sizes L+nt.length+6 * j
 |0,_,_,_,_=>trivial
 |n+1,L,i,nt,hi=>by
  rw[Ho,fC,Yw];intro h6;have:=iD (l:=l) (i:=i) (by rw[h6];decide);rw[eX];refine⟨λhc=> ?_,λ_=> ?_⟩
  ·have:=fK hc (by decide);rw[eX];refine⟨λ_=>trivial,λ_=> ?_⟩;have hs:=O9 (l:=l) (i:=i+1+1) (nt:=nt) ak;exact bK (apf n _ _ _ ak) λs j m hj=>by rw[sizes1,aic] at hj;omega
  ·show i<i+1/\FN l i nt.length (i+1) nt.length/\sizes (L++[Tn.mk 1 0 (MS l i) [] []])+nt.length+6 * i<=sizes L+nt.length+6 * (i+1);rw[sizes1,aic];omega
def aIe{n i:Nat}{nt:fM}(hi:i<=l.length):(ak5 l n i nt).sat λx j m=>FS l i nt.length x.size j m.length:=by
 rw[ak5,eX];refine⟨λhc=> ?_,λ_=>trivial⟩;simp only[fC,Dh];intro h32;have:=iD (l:=l) (i:=i+1) (by rw[h32];decide);have h1:(bif dX l (i+1+1)==33 then .ok [] (i+1+1) nt else Ho l n [] (i+1+1) nt:PR (List Tn)).sat λL j m=>FN l (i+2) nt.length j m.length/\sizes L+m.length+6 * (i+2)<=nt.length+6 * j:=by rw[eX];refine⟨λ_=> ?_,λ_=>bK (apf n [] _ nt ak) λx j m hj=>by rw[sizes0] at hj;omega⟩;show FN l (i+2) nt.length (i+1+1) nt.length/\sizes []+nt.length+6 * (i+2)<=nt.length+6 * (i+1+1);rw[sizes0];omega
 refine bK h1 λL j m hj=>λh33=> ?_
 have:=iD (l:=l) (i:=j) (by rw[h33];decide);have hs:=O9 (l:=l) (i:=j+1) (nt:=m) ak;exact bK ((afZ l n).blk _ _ ak) λx j' m' hj'=>by show FS l i nt.length (Tn.size _) j' m'.length;rw[ZJ,sizes1];omega
def av1{n i:Nat}{nt:fM}(hi:i<=l.length):(Xj l n i nt).sat λx j m=>FS l i nt.length x.size j m.length:=by
 rw[Xj,eX];refine⟨λhc=> ?_,λ_=> ?_⟩
 ·have:=fK hc (by decide);rw[fC];exact bK ((afZ l n).blk (i+1) nt ak) λx j m hj=>by show FS l i nt.length (Tn.size _) j m.length;rw[ZI];omega
 rw[eX];refine⟨λhc=> ?_,λ_=> ?_⟩
 ·have:=fK hc (by decide);rw[fC];exact bK ((afZ l n).blk (i+1) nt ak) λx j m hj=>by show FS l i nt.length (Tn.size _) j m.length;rw[ZI];omega
 rw[eX];refine⟨λhc=> ?_,λ_=> ?_⟩
 ·have:=fK hc (by decide);exact bK (aIe ak) λx j m hj=>by omega
 rw[eX];refine⟨λhc=> ?_,λ_=> ?_⟩
 ·rw[fC];exact bK ((afZ l n).blk i nt hi) λx j m hj=>by show FS l i nt.length (Tn.size _) j m.length;rw[ZI];omega
 rw[fC];refine bK (JM ak ak hi) λx j m hj=> ?_
 rw[fC];have h1:(bif dX l j==36 then(ex l n 1 false false (nl l (j+1) m).1 (nl l (j+1) m).2).bind λy i nt=> .ok (43,[x.1,y.1]) i nt else .ok (42,[x.1]) j m:PR (Int×List Tn)).sat λq j m=>FE l i nt.length (sizes q.2) j m.length:=by
  rw[eX];refine⟨λhc=> ?_,λ_=> ?_⟩
  ·have:=fK hc (by decide);have hs:=O9 (l:=l) (i:=j+1) (nt:=m) ak;rw[fC];exact bK (JM ak ak ak) λy j2 m2 hj2=>by show FE l i nt.length (sizes [x.1,y.1]) j2 m2.length;simp only[sizes];omega
  ·show FE l i nt.length (sizes [x.1]) j m.length;simp only[sizes];omega
 refine bK h1 λq j2 m2 hj2=> ?_
 rw[eX];refine⟨λhc=> ?_,λ_=> ?_⟩
 ·rw[fC];exact bK ((afZ l n).blk j2 m2 ak) λy j3 m3 hj3=>by show FS l i nt.length (Tn.size _) j3 m3.length;rw[ZJ,sizes1];omega
 ·refine auq (?_:FS l i nt.length (Tn.size _) j2 m2.length);rw[ZJ];omega
def av2:∀(n:Nat) (L:List Tn) (i:Nat) (nt:fM),i<=l.length->(O8 l n L i nt).sat λL' j m=>FN l i nt.length j m.length/\m=[]/\sizes L'+6 * i<=sizes L+nt.length+6 * j
 |0,_,_,_,_=>trivial
 |n+1,L,i,nt,hi=>by
  have hs:=abK (l:=l) (i:=i) (nt:=nt) hi;rw[O8,eX];refine⟨λ_=> ?_,λhc=> ?_⟩
  ·show FN l i nt.length (sep l i nt).1 ([]:fM).length/\([]:fM)=[]/\sizes (L++Yv (sep l i nt).2)+6 * i<=sizes L+nt.length+6 * (sep l i nt).1;rw[vP,Zd,OT];refine⟨ak,rfl,ak⟩
  have hlt:(sep l i nt).1<l.length:=iD (by simpa using hc);rw[eX];refine⟨λ_=>trivial,λ_=> ?_⟩;rw[fC];refine bK (av1 ak) λs j m hj=> ?_
  rw[OT] at hj;exact bK (av2 n _ j m ak) λL' j2 m2 hj2=>by rw[sizes1,vP,Zd] at hj2;exact⟨ak,hj2.2.1,ak⟩
def ae1{a b:Int×Int}(c:Bool)(ha:(1<=a.1/\a.1<=14)/\1<=a.2/\a.2<=14)(hb:(1<=b.1/\b.1<=14)/\1<=b.2/\b.2<=14):(1<=(bif c then a else b).1/\(bif c then a else b).1<=14)/\1<=(bif c then a else b).2/\(bif c then a else b).2<=14:=by cases c<;>assumption
def asl(op:Int):(1<=(sides op).1/\(sides op).1<=14)/\1<=(sides op).2/\(sides op).2<=14:=by unfold sides;exact ae1 _ (by decide) (ae1 _ (by decide) (ae1 _ (by decide) (ae1 _ (by decide) (ae1 _ (by decide) (ae1 _ (by decide) (ae1 _ (by decide) (by decide)))))))
def apg(k op:Int)(j:Nat):1<=aeZ k op j/\aeZ k op j<=14:=by have h:=asl op;unfold aeZ;exact MR _ (MR _ (by decide) (by decide)) (MR _ (MR _ (by decide) (by decide)) (MR _ (by decide) (MR _ (by decide) (MR _ (MR _ h.1 h.2) (by decide)))))
def DI{k op:Int}{n j:Nat}{p:Ps}(hp:xJ p=true)(hj:j<n)(hl:lvl k op≠0):xJ (fD k op n j p)=true:=by
 have h1:Nat.blt j n=true:=by rw[Nat.blt_eq];exact hj
 have h2:(lvl k op==0)=false:=by simpa using hl
 unfold fD;rw[hp,h1,h2];simp only[zaU,Bool.or_false,bC];cases(lvl k op==15||(k==13 && Nat.blt 1 n)) with
 |true=>rfl
 |false=>
  have hr:=apg k op j;simp only[bC,xJ];rw[zdt hr.1,zdt (show aeZ k op j<=15 by omega)]
  by_cases h6:k=6
  ·subst h6;rfl
  ·have:(k==6)=false:=by simpa using h6
   rw[this];rfl
def abL{k op:Int}{n:Nat}{p q:Ps}(h:∀j,j<n->fD k op n j p=fD k op n j q):∀(ts:List Tn) (j:Nat),j+ts.length=n->rJ k op n p ts j=rJ k op n q ts j
 |[],_,_=>by rw[rJ,rJ]
 |t::ts,j,hj=>by rw[GX] at hj;rw[rJ,rJ,h j ak,abL h ts (j+1) ak]
def aie{k op:Int}{n:Nat}{p q:Ps}(h:∀j,j<n->fD k op n j p=fD k op n j q):∀(ts:List Tn) (j:Nat),j+ts.length=n->wU k op n p ts j=wU k op n q ts j
 |[],_,_=>by rw[wU,wU]
 |t::ts,j,hj=>by rw[GX] at hj;rw[wU,wU,h j ak,aie h ts (j+1) ak]
def KN{k op:Int}{n j:Nat}{p:Ps}(hp:xJ p=true)(hj:j<n)(hl:lvl k op=15):fD k op n j p=.top:=by
 have h1:Nat.blt j n=true:=by rw[Nat.blt_eq];exact hj
 unfold fD;rw[hp,h1,hl];rfl
def Ze{k op:Int}(h:13<=lvl k op)(he:1<=k/\k<=15):lvl k op=15\/k=6\/k=9\/k=10:=by
 have hk:k=1\/k=2\/k=3\/k=4\/k=5\/k=6\/k=7\/k=8\/k=9\/k=10\/k=11\/k=12\/k=13\/k=14\/k=15:=ak;rcases hk with rfl|rfl|rfl|rfl|rfl|rfl|rfl|rfl|rfl|rfl|rfl|rfl|rfl|rfl|rfl
 all_goals first
  |(left;rfl)
  |(right;simp;done)
  |(exfalso;have h2:=(ak0 op).2;have h3:lvl 12 op=tZ op:=rfl;omega)
  |(exfalso;revert h;simp[lvl];done)
def aph{k op:Int}(h:k=1\/k=5\/k=6):13<=lvl k op/\(1<=k/\k<=15):=by rcases h with rfl|rfl|rfl<;>simp[lvl]
def aif{k op:Int}{a b c:Bool}{i j:Bool}(hl:lvl k op≠0):fits k op ⟨14,true,a,b,false⟩=fits k op ⟨14,true,i,j,false⟩:=by
 have e:∀a b,fits k op ⟨14,true,a,b,false⟩=(k==9||decide (14<=lvl k op)):=by
  intro a b;have h2:(lvl k op==0)=false:=by simpa using hl
  unfold fits;rw[h2,show xJ ⟨14,true,a,b,false⟩=true from rfl];simp only[zaU,Bool.or_false,bC,Bool.false_and,Bool.true_and]
  by_cases h13:k=13
  ·subst h13;have:lvl 13 op=5:=rfl;rw[this];cases a<;>cases b<;>rfl
  ·have e13:(k==13)=false:=by simpa using h13
   rw[e13,Bool.and_false,bC]
   by_cases h12:k=12/\op=62
   ·obtain⟨rfl,rfl⟩:=h12;cases b<;>rfl
   ·have e12:(k==12 && op==62)=false:=by rw[Bool.and_eq_false_iff,Rf,Rf];omega
    rw[e12,Bool.and_false,bC]
 rw[e,e]
def aus(t:Tn):(Uw t)->13<=lvl t.kind t.op->(isE t)->∀p q,xJ p=true->xJ q=true->Df t p=Df t q:=by
 refine Tn.ind (P:=λt=>(Uw t)->13<=lvl t.kind t.op->(isE t)->∀p q,xJ p=true->xJ q=true->Df t p=Df t q) ?_ t;intro k op x y ks ih hok hl he p q hp hq;simp only[Tn.kind,Tn.op] at hl;simp only[isE,Tn.kind] at he;rw[Df,Df];congr 1;rcases Ze hl he with h|h
 ·exact abL (λj hj=>by rw[KN hp hj h,KN hq hj h]) ks 0 ak
 ·have hn:ks.length=1:=(ae0 hok).one ak;obtain⟨u,rfl⟩:=zlo.1 hn;obtain⟨hue,huo⟩:=akZ hok he (i:=0) (t:=u) rfl;obtain⟨huc,_⟩:=akY hok (i:=0) (t:=u) rfl;have hlu:1<=lvl u.kind u.op/\lvl u.kind u.op<=15:=by cases u;exact afX hue (ae0 huo)
  have hlk:lvl k op≠0:=ak;have kp:=DI (n:=[u].length) (j:=0) hp (by simp) hlk;have kq:=DI (n:=[u].length) (j:=0) hq (by simp) hlk;rw[rJ,rJ,rJ,rJ];congr 1;rcases h with rfl|h
  ·have e1:∀r:Ps,xJ r=true->fD 6 op [u].length 0 r=⟨14,true,r.QM,r.QN,false⟩:=by intro r hr;unfold fD;rw[hr];rfl
   rw[e1 p hp] at kp|-;rw[e1 q hq] at kq|-;have ht:zC 6 0=false:=rfl;rw[ht,Bool.false_or,Bool.false_or,aif (c:=false) (i:=q.QM) (j:=q.QN) ak];cases hf:fits u.kind u.op ⟨14,true,q.QM,q.QN,false⟩ with
   |false=>rfl
   |true=>
    have aIf:13<=lvl u.kind u.op:=by
     unfold fits at hf;revert hf;cases(!(xJ ⟨14,true,q.QM,q.QN,false⟩)||lvl u.kind u.op==0)<;>cases(q.QM && u.kind==13)<;>cases(q.QN &&(u.kind==12 && u.op==62))<;>simp;intro hf;rcases hf with h9|h14
     ·rw[h9];exact(show(13:Int)<=13 by omega)
     ·omega
    rw[aH,aH];exact ih u (by simp) huo aIf hue _ _ kp kq
  ·have ht:zC k 0=true:=by rcases h with rfl|rfl<;>rfl
   rw[ht,Bool.true_or,aH,Bool.true_or,aH];have hc6:cls k op [u].length 0=6:=by unfold cls;rw[if_pos ak]
   rw[hc6] at huc;exact ih u (by simp) huo (aph huc).1 hue _ _ kp kq
def aut(t:Tn):(Uw t)->13<=lvl t.kind t.op->(isE t)->∀p q,xJ p=true->xJ q=true->FK t p=FK t q:=by
 refine Tn.ind (P:=λt=>(Uw t)->13<=lvl t.kind t.op->(isE t)->∀p q,xJ p=true->xJ q=true->FK t p=FK t q) ?_ t;intro k op x y ks ih hok hl he p q hp hq;simp only[Tn.kind,Tn.op] at hl;simp only[isE,Tn.kind] at he;have hT:rJ k op ks.length p ks 0=rJ k op ks.length q ks 0\/k=6\/k=9\/k=10:=by
  rcases Ze hl he with h|h
  ·exact .inl (abL (λj hj=>by rw[KN hp hj h,KN hq hj h]) ks 0 ak)
  ·exact .inr h
 rw[FK,FK];have hg:∀g g' L,k≠11->ahg k op ks.length x g L=ahg k op ks.length x g' L:=by
  intro g g' L h11;have:(k==11)=false:=by simpa using h11
  unfold ahg;rw[this];rfl
 have h11:k≠11:=by
  rcases Ze hl he with h|h
  ·rintro rfl;exact absurd h (by change¬(11:Int)=15;decide)
  ·omega
 rw[hg _ (asf op (rJ k op ks.length q ks 0)) _ h11];congr 1;rcases Ze hl he with h|h
 ·exact aie (λj hj=>by rw[KN hp hj h,KN hq hj h]) ks 0 ak
 ·have hn:ks.length=1:=(ae0 hok).one ak;obtain⟨u,rfl⟩:=zlo.1 hn;obtain⟨hue,huo⟩:=akZ hok he (i:=0) (t:=u) rfl;obtain⟨huc,_⟩:=akY hok (i:=0) (t:=u) rfl;have hlu:1<=lvl u.kind u.op/\lvl u.kind u.op<=15:=by cases u;exact afX hue (ae0 huo)
  have hlk:lvl k op≠0:=ak;have kp:=DI (n:=[u].length) (j:=0) hp (by simp) hlk;have kq:=DI (n:=[u].length) (j:=0) hq (by simp) hlk;rw[wU,wU,wU,wU];congr 1;rcases h with rfl|h
  ·have e1:∀r:Ps,xJ r=true->fD 6 op [u].length 0 r=⟨14,true,r.QM,r.QN,false⟩:=by intro r hr;unfold fD;rw[hr];rfl
   rw[e1 p hp] at kp|-;rw[e1 q hq] at kq|-;have ht:zC 6 0=false:=rfl;rw[ht,Bool.false_or,Bool.false_or,aif (c:=false) (i:=q.QM) (j:=q.QN) ak];cases hf:fits u.kind u.op ⟨14,true,q.QM,q.QN,false⟩ with
   |false=>rfl
   |true=>
    have aIf:13<=lvl u.kind u.op:=by
     unfold fits at hf;revert hf;cases(!(xJ ⟨14,true,q.QM,q.QN,false⟩)||lvl u.kind u.op==0)<;>cases(q.QM && u.kind==13)<;>cases(q.QN &&(u.kind==12 && u.op==62))<;>simp;intro hf;rcases hf with h9|h14
     ·rw[h9];exact(show(13:Int)<=13 by omega)
     ·omega
    rw[aH,aH];exact ih u (by simp) huo aIf hue _ _ kp kq
  ·have ht:zC k 0=true:=by rcases h with rfl|rfl<;>rfl
   rw[ht,Bool.true_or,aH,Bool.true_or,aH];have hc6:cls k op [u].length 0=6:=by unfold cls;rw[if_pos ak]
   rw[hc6] at huc;exact ih u (by simp) huo (aph huc).1 hue _ _ kp kq
def ae2{α:Type}(a b:Bool)(x y:α):(bif a||b then x else y)=bif a then x else bif b then x else y:=by cases a<;>rfl
def av3{α:Type}(a b:Bool)(x y:α):(bif a && b then x else y)=bif a then(bif b then x else y) else y:=by cases a<;>rfl
def Yy{α:Type}(a:Bool)(x y:α):some (bif a then x else y)=bif a then some x else some y:=by cases a<;>rfl
def anQ(op:Int):M.vS op=some (tZ op):=by
 simp only[M.vS,M.P7,tZ,ae2,Yy]
 first|done|rfl
def RP(op:Int):M.nO op=some (tZ op)/\M.vS op=some (tZ op):=by
 refine⟨?_,anQ op⟩;simp only[M.nO,M.Kw,tZ,ae2,Yy]
 first|done|rfl
def anR(k op:Int)(x y:aC)(r:au):M.nN k op x y r=some (lvl k op):=by
 simp only[M.nN,M.P8,lvl,ae2,Yy,anQ,ah]
 first|done|rfl
def av4(p:Ps):M.xM p.level p.Fz p.QM p.QN p.FC=some (xJ p):=by simp only[M.xM,M.Vg,dL,ah,xJ,ge_iff_le];cases(decide (1<=p.level) && decide (p.level<=15))<;>cases p.Fz<;>rfl
def aii:M.oz=some (1,false,false,false,false):=rfl
def aD2(k op:Int)(p:Ps):fits k op p=bif !(xJ p) then false else bif lvl k op==0 then false else bif p.QM && k==13 then false else bif p.QN &&(k==12 && op==62) then false else
  bif p.FC &&(k==11||(k==9||k==4)) then false else bif p.Fz && k==9 then true else decide (p.level<=lvl k op):=by
 unfold fits;rw[ae2];cases(p.Fz && k==9)<;>rfl
def aAz(k op:Int)(x y:aC)(r:au)(p:Ps):M.Ja k op x y r p.level p.Fz p.QM p.QN p.FC=some (fits k op p):=by
 rw[aD2];simp only[M.Ja,M.WU,M.Eo,anR k op x y r,av4 p,ah,ae2,av3,Yy]
 first|done|rfl
def nb0(j:Nat):((j:Int)==0)=Nat.beq j 0:=by cases j<;>rfl
def gt0(j:Nat):decide ((j:Int)>0)= !(Nat.beq j 0):=by
 cases j with
 |zero=>rfl
 |succ j=>rw[zdt ak];rfl
def auu(op:Int):M.Aq op=some (sides op):=by simp only[M.Aq,M.Qc,(RP op).2,ah,sides,Yy]
def Ps.MF(p:Ps):Int×Bool×Bool×Bool×Bool:=(p.level,p.Fz,p.QM,p.QN,p.FC)
def aD3(j n:Nat)(h:n<=1048576):(decide ((j:Int)>=0) && decide ((j:Int)<=i64.wrap ((n:Int) - 1)))=Nat.blt j n:=by
 rw[aJ ak ak];cases hb:Nat.blt j n with
 |true=>rw[Nat.blt_eq] at hb;rw[zdt ak,zdt ak];rfl
 |false=>
  have:¬j<n:=by rw[<-Nat.blt_eq,hb];simp
  rw[xK (show¬(j:Int)<=(n:Int) - 1 by omega),Bool.and_false]
def many(n:Nat):decide ((n:Int)>1)=Nat.blt 1 n:=by
 cases hb:Nat.blt 1 n with
 |true=>rw[Nat.blt_eq] at hb;exact zdt ak
 |false=>
  have:¬1<n:=by rw[<-Nat.blt_eq,hb];simp
  exact xK ak
def KO(k:Int)(hk:I64 k):M.gW k=some (k,spell k,0):=by simp only[M.gW,M.Tj,(zN k hk).1,(zN k hk).2,ah]
def dR(l:List (aC)):aj (encS l)=true:=by simp[aj,encS,D.flat]
def snS(l:List (aC))(s:aC):encS l++[[D.str s]]=encS (l++[s]):=by simp[encS]
def lnS(l:List (aC)):(encS l).length=l.length:=by simp[encS]
abbrev TP:=Int×Int×aC×aC×Bool×au×Bool×au×Int×Bool×au
abbrev TT:=Int×Int×aC×aC×Bool×au×au×Int×Bool×au
abbrev TL:=Bool×au×au×Int×Bool×au
def AP(l:List Tk)(o:Option TP):PR Xp->Prop
 | .ok x j nt=>∃fl ks,aB ks=dO false x.1.kids/\o=some (x.1.kind,x.1.op,x.1.text,x.1.other,fl,ks,tgt x,aF l,(j:Int),false,encS nt)
 | .bad j=>∃k op x y fl ks tg nt,nt.length<=l.length/\o=some (k,op,x,y,fl,ks,tg,aF l,(j:Int),true,encS nt)
 | .out=>True
def AT(l:List Tk)(o:Option TT):PR Tn->Prop
 | .ok x j nt=>∃fl ks,aB ks=dO false x.kids/\o=some (x.kind,x.op,x.text,x.other,fl,ks,aF l,(j:Int),false,encS nt)
 | .bad j=>∃k op x y fl ks nt,nt.length<=l.length/\o=some (k,op,x,y,fl,ks,aF l,(j:Int),true,encS nt)
 | .out=>True
def AL(l:List Tk)(o:Option TL):PR (List Tn)->Prop
 | .ok L j nt=>∃fl,o=some (fl,dO false L,aF l,(j:Int),false,encS nt)
 | .bad j=>∃fl ks nt,nt.length<=l.length/\o=some (fl,ks,aF l,(j:Int),true,encS nt)
 | .out=>True
variable {l:List Tk}
section
variable {β γ:Type} {R:Option β->PR γ->Prop}
def AP.elim{o:Option TP}{p:PR Xp}(h:AP l o p){f:TP->Option β}{g:Xp->Nat->fM->PR γ}(hout:∀o,R o .out)
  (hbad:∀k op x y fl ks tg j nt,nt.length<=l.length->R (f (k,op,x,y,fl,ks,tg,aF l,((j:Nat):Int),true,encS nt)) (.bad j))
  (hok:∀x fl ks j nt,aB ks=dO false x.1.kids->p=.ok x j nt->R (f (x.1.kind,x.1.op,x.1.text,x.1.other,fl,ks,tgt x,aF l,(j:Int),false,encS nt)) (g x j nt)):R (o.bind f) (p.bind g):=by
 cases p with
 |ok x j nt=>obtain⟨fl,ks,h1,rfl⟩:=h;exact hok x fl ks j nt h1 rfl
 |bad j=>obtain⟨k,op,x,y,fl,ks,tg,nt,h1,rfl⟩:=h;exact hbad k op x y fl ks tg j nt h1
 |out=>exact hout _
def AT.elim{o:Option TT}{p:PR Tn}(h:AT l o p){f:TT->Option β}{g:Tn->Nat->fM->PR γ}(hout:∀o,R o .out)
  (hbad:∀k op x y fl ks j nt,nt.length<=l.length->R (f (k,op,x,y,fl,ks,aF l,((j:Nat):Int),true,encS nt)) (.bad j))
  (hok:∀x fl ks j nt,aB ks=dO false x.kids->p=.ok x j nt->R (f (x.kind,x.op,x.text,x.other,fl,ks,aF l,(j:Int),false,encS nt)) (g x j nt)):R (o.bind f) (p.bind g):=by
 cases p with
 |ok x j nt=>obtain⟨fl,ks,h1,rfl⟩:=h;exact hok x fl ks j nt h1 rfl
 |bad j=>obtain⟨k,op,x,y,fl,ks,nt,h1,rfl⟩:=h;exact hbad k op x y fl ks j nt h1
 |out=>exact hout _
def AL.elim{o:Option TL}{p:PR (List Tn)}(h:AL l o p){f:TL->Option β}{g:List Tn->Nat->fM->PR γ}(hout:∀o,R o .out)
  (hbad:∀fl ks j nt,nt.length<=l.length->R (f (fl,ks,aF l,((j:Nat):Int),true,encS nt)) (.bad j))
  (hok:∀L fl j nt,p=.ok L j nt->R (f (fl,dO false L,aF l,(j:Int),false,encS nt)) (g L j nt)):R (o.bind f) (p.bind g):=by
 cases p with
 |ok L j nt=>obtain⟨fl,rfl⟩:=h;exact hok L fl j nt rfl
 |bad j=>obtain⟨fl,ks,nt,h1,rfl⟩:=h;exact hbad fl ks j nt h1
 |out=>exact hout _
end
def PR.bind_ok{α:Type}(p:PR α):(p.bind λa i nt=> .ok a i nt)=p:=by cases p<;>rfl
def AP.pass{o:Option TP}{p:PR Xp}(h:AP l o p){f:TP->Option TP}
  (hf:∀k op x y fl ks tg j b nt,f (k,op,x,y,fl,ks,tg,aF l,j,b,encS nt)=some (k,op,x,y,false,aB ks,tg,aF l,j,b,encS nt)):AP l (o.bind f) p:=by
 rw[<-PR.bind_ok p];refine AP.elim (R:=AP l) h (λ_=>trivial) (λk op x y fl ks tg j nt hn=> ?_) (λx fl ks j nt hk _=> ?_)
 ·rw[hf];exact⟨_,_,_,_,_,_,_,_,hn,rfl⟩
 ·rw[hf];exact⟨_,_,by rw[hk,jv],rfl⟩
def AT.pass{o:Option TT}{p:PR Tn}(h:AT l o p){f:TT->Option TT}
  (hf:∀k op x y fl ks j b nt,f (k,op,x,y,fl,ks,aF l,j,b,encS nt)=some (k,op,x,y,false,aB ks,aF l,j,b,encS nt)):AT l (o.bind f) p:=by
 rw[<-PR.bind_ok p];refine AT.elim (R:=AT l) h (λ_=>trivial) (λk op x y fl ks j nt hn=> ?_) (λx fl ks j nt hk _=> ?_)
 ·rw[hf];exact⟨_,_,_,_,_,_,_,hn,rfl⟩
 ·rw[hf];exact⟨_,_,by rw[hk,jv],rfl⟩
def eu(i:Nat)(b:Bool)(nt:fM):M.aA (aF l) (i:Int) b (encS nt)=some (dX l i,aF l,(i:Int),b,encS nt):=by
 simp only[M.aA,M.Ic,eH,dR,aH,dX]
 by_cases h:i<l.length
 ·rw[xK ak,bC];obtain⟨t,ht⟩:∃t,l[i]? =some t:=⟨l[i],by simp[h]⟩
  simp only[cO,pX,ht,MI,ah,cT0]
 ·rw[zdt ak,aH,List.getElem?_eq_none ak]
def oG(hl:l.length<=1048576){i:Nat}(h:i<l.length):i64.wrap ((i:Int)+1)=((i+1:Nat):Int):=by rw[aJ ak ak];omega
def MX(hl:l.length<=1048576){i:Nat}(h:i<l.length)(b:Bool)(nt:fM):M.fF (aF l) (i:Int) b (encS nt)=some (MS l i,aF l,((i+1:Nat):Int),b,encS nt):=by
 obtain⟨t,ht⟩:∃t,l[i]? =some t:=⟨l[i],by simp[h]⟩
 simp only[M.fF,M.Ih,cO,pX,ht,MI,ah,cT1,dR,aH,oG hl h,MS]
def auv(k:Int):M.iI k=some (isStep k):=by simp only[M.iI,M.mX,isStep];cases k==51<;>rfl
def aFV(k:Int):M.mV k=some (aAo k):=by simp only[M.mV,M.EH,aAo];cases k==3<;>cases k==4<;>cases k==6<;>cases k==7<;>cases k==8<;>cases k==32<;>cases k==68<;>rfl
def apj(k:Int):M.lQ k=some (U2 k):=by simp only[M.lQ,M.Om,U2];cases k==0<;>cases k==1<;>cases k==2<;>cases k==37<;>rfl
def ai8(k:Int):M.Fe k=some (Jh k):=by simp only[M.Fe,M.Vl,Jh];cases k==62<;>cases k==53<;>rfl
def Xl(k:Int):M.zJ k=some (ak1 k):=by simp only[M.zJ,M.Qw,ak1];cases k==32<;>cases k==34<;>rfl
def Zf(k:Int):M.zK k=some (ak2 k):=by simp only[M.zK,M.Qx,ak2];cases k==33<;>cases k==35<;>rfl
def auw(i:Nat)(b:Bool)(nt:fM):M.jH (aF l) (i:Int) b (encS nt)=some (0,0,[],[],true,[],false,aF l,(i:Int),true,encS nt):=by simp only[M.jH,M.Ig,dR,aH]
def uY(k:Int)(i:Nat)(nt:fM):M.aO k (aF l) (i:Int) true (encS nt)=some (false,aF l,(i:Int),true,encS nt):=by simp only[M.aO,M.uw,dR,aH]
section
variable {β γ:Type} {R:Option β->PR γ->Prop}
def MZ(hl:l.length<=1048576){k:Int}(hk:k≠0){i:Nat}{nt:fM}{f:Bool×au×Int×Bool×au->Option β}{g:Unit->Nat->fM->PR γ}
  (hbad:R (f (false,aF l,(i:Int),true,encS nt)) (.bad i))
  (hok:dX l i=k->i<l.length->R (f (true,aF l,((i+1:Nat):Int),false,encS nt)) (g () (i+1) nt)):
  R ((M.aO k (aF l) (i:Int) false (encS nt)).bind f) ((qL l k i nt).bind g):=by
 have e:M.aO k (aF l) (i:Int) false (encS nt)=bif dX l i==k then some (true,aF l,i64.wrap ((i:Int)+1),false,encS nt) else some (false,aF l,(i:Int),true,encS nt):=by simp only[M.aO,M.uw,dR,aH,bC,eu,ah,bne];cases dX l i==k<;>rfl
 rw[e,qL];cases hc:dX l i==k with
 |true=>
  have h1:dX l i=k:=by rwa [beq_iff_eq] at hc
  have h2:i<l.length:=iD (by rw[h1];exact hk);simp only[aH,oG hl h2,ah];exact hok h1 h2
 |false=>exact hbad
def aAA(hl:l.length<=1048576){i:Nat}{nt:fM}{f:aC×au×Int×Bool×au->Option β}{g:aC->Nat->fM->PR γ}
  (hbad:R (f ([],aF l,(i:Int),true,encS nt)) (.bad i))
  (hok:dX l i=6->i<l.length->R (f (MS l i,aF l,((i+1:Nat):Int),false,encS nt)) (g (MS l i) (i+1) nt)):
  R ((M.bF (aF l) (i:Int) false (encS nt)).bind f) ((nameP l i nt).bind g):=by
 rw[nameP];cases hc:dX l i==6 with
 |true=>
  have h1:dX l i=6:=by rwa [beq_iff_eq] at hc
  have h2:i<l.length:=iD (by rw[h1];decide);simp only[M.bF,M.jf,dR,aH,bC,eu,ah,bne,hc,zaU,MX hl h2];exact hok h1 h2
 |false=>simp only[M.bF,M.jf,dR,aH,bC,eu,ah,bne,hc,Bool.not_false];exact hbad
end
def af0{α:Type}{L:List α}{i:Nat}{t:α}(h:L[i]? =some t):L.drop i=t::L.drop (i+1):=by obtain⟨hi,rfl⟩:=QV.1 h;exact List.drop_eq_getElem_cons hi
def anS(i:Nat)(nt:fM):nl l i nt=bif dX l i==1 then nl l (i+1) nt else bif dX l i==2 then nl l (i+1) (nt++[MS l i]) else(i,nt):=by
 unfold nl;cases h:l[i]? with
 |none=>
  have e:dX l i=0:=by rw[dX,h]
  rw[e,List.drop_eq_nil_of_le (List.getElem?_eq_none_iff.1 h)];rfl
 |some t=>
  have e1:dX l i=t.kind:=by rw[dX,h]
  have e2:MS l i=t.text:=by rw[MS,h]
  rw[af0 h,nlR,e1,e2]
def auy(i:Nat)(nt:fM):sep l i nt=bif dX l i==1||dX l i==37 then sep l (i+1) nt else bif dX l i==2 then sep l (i+1) (nt++[MS l i]) else(i,nt):=by
 unfold sep;cases h:l[i]? with
 |none=>
  have e:dX l i=0:=by rw[dX,h]
  rw[e,List.drop_eq_nil_of_le (List.getElem?_eq_none_iff.1 h)];rfl
 |some t=>
  have e1:dX l i=t.kind:=by rw[dX,h]
  have e2:MS l i=t.text:=by rw[MS,h]
  rw[af0 h,WA,e1,e2]
def aAB{P:Nat->fM->Prop}(h1:∀i nt,dX l i=1->i<l.length->P (i+1) nt->P i nt)(h2:∀i nt,dX l i=2->i<l.length->P (i+1) (nt++[MS l i])->P i nt)
  (h3:∀i nt,(dX l i==1)=false->(dX l i==2)=false->P i nt):∀i nt,P i nt:=by
 have:∀n i nt,l.length - i<=n->P i nt:=by
  intro n;induction n with
  |zero=>
   intro i nt hn;have e:dX l i=0:=by rw[dX,List.getElem?_eq_none ak]
   exact h3 i nt (by rw[e];rfl) (by rw[e];rfl)
  |succ n ih=>
   intro i nt hn;cases e1:dX l i==1 with
   |true=>
    have e:dX l i=1:=by rwa [beq_iff_eq] at e1
    have hlt:=iD (l:=l) (i:=i) (by rw[e];decide);exact h1 i nt e hlt (ih _ _ ak)
   |false=>
    cases e2:dX l i==2 with
    |true=>
     have e:dX l i=2:=by rwa [beq_iff_eq] at e2
     have hlt:=iD (l:=l) (i:=i) (by rw[e];decide);exact h2 i nt e hlt (ih _ _ ak)
    |false=>exact h3 i nt e1 e2
 exact λi nt=>this _ i nt (zaV _)
def aAC(i:Nat)(nt:fM):sep l i nt=bif dX l (nl l i nt).1==37 then sep l ((nl l i nt).1+1) (nl l i nt).2 else nl l i nt:=by
 refine aAB (l:=l) (P:=λi nt=>sep l i nt=bif dX l (nl l i nt).1==37 then sep l ((nl l i nt).1+1) (nl l i nt).2 else nl l i nt) ?_ ?_ ?_ i nt
 ·intro i nt hk _ ih;rw[auy,anS,hk];exact ih
 ·intro i nt hk _ ih;rw[auy,anS,hk];exact ih
 ·intro i nt h1 h2;rw[auy,anS,h1,h2];cases h3:dX l i==37<;>simp only[Bool.or_true,Bool.or_false,Bool.false_or,aH,bC,h3]
def RQ(hl:l.length<=1048576)(i:Nat)(nt:fM)(hi:i<=l.length)(hn:nt.length<=i):
  M.aP (aF l) (i:Int) false (encS nt)=some (aF l,((nl l i nt).1:Int),false,encS (nl l i nt).2):=by
 have hstep:∀i nt,(b:Bool)->i<l.length->dX l i=1->M.lY (bif b then .inl (aF l,(i:Int),false,encS nt) else .inr (aF l,(i:Int),false,encS nt))=some (.inl (.inr (aF l,((i+1:Nat):Int),false,encS nt))):=by intro i nt b hlt hk;cases b<;>simp only[yJ,aH,bC,M.lY,M.oH,Bool.not_false,dR,eu,ah,hk,oG hl hlt,BEq.rfl]
 have hstep2:∀i nt,(b:Bool)->i<l.length->nt.length<=i->dX l i=2->M.lY (bif b then .inl (aF l,(i:Int),false,encS nt) else .inr (aF l,(i:Int),false,encS nt))=some (.inl (.inr (aF l,((i+1:Nat):Int),false,encS (nt++[MS l i])))):=by
  intro i nt b hlt hni hk;obtain⟨t,ht⟩:∃t,l[i]? =some t:=⟨l[i],by simp[hlt]⟩
  have e2:MS l i=t.text:=by rw[MS,ht]
  have h21:((2:Int)==1)=false:=rfl;cases b<;>simp only[yJ,aH,bC,M.lY,M.oH,Bool.not_false,dR,eu,ah,hk,h21,BEq.rfl,oG hl hlt,cO,pX,ht,MI,cT1,snS,lnS,Jj,e2]<;>
   rw[bI ak,aH,bI ak,aH]
 have aIg:∀i nt,(b:Bool)->(dX l i==1)=false->(dX l i==2)=false->M.lY (bif b then .inl (aF l,(i:Int),false,encS nt) else .inr (aF l,(i:Int),false,encS nt))=some (.inr (.inl (aF l,(i:Int),false,encS nt))):=by intro i nt b h1 h2;cases b<;>simp only[yJ,aH,bC,M.lY,M.oH,Bool.not_false,dR,eu,ah,h1,h2]
 have hloop:∀i nt,∀b:Bool,i<=l.length->nt.length<=i->M.jR (bif b then .inl (aF l,(i:Int),false,encS nt) else .inr (aF l,(i:Int),false,encS nt))=some (.inl (aF l,((nl l i nt).1:Int),false,encS (nl l i nt).2)):=by
  refine aAB (l:=l) (P:=λi nt=>∀b:Bool,i<=l.length->nt.length<=i->M.jR (bif b then .inl (aF l,(i:Int),false,encS nt) else .inr (aF l,(i:Int),false,encS nt))=some (.inl (aF l,((nl l i nt).1:Int),false,encS (nl l i nt).2))) ?_ ?_ ?_
  ·intro i nt hk hlt ih b hi hn;rw[M.jR,bY (hstep i nt b hlt hk),anS,hk];exact ih false ak ak
  ·intro i nt hk hlt ih b hi hn;rw[M.jR,bY (hstep2 i nt b hlt hn hk),anS,hk];exact ih false ak (by rw[Ai,Jj];omega)
  ·intro i nt h1 h2 b hi hn;rw[M.jR,aV (aIg i nt b h1 h2),anS,h1,h2];rfl
 have:=hloop i nt true hi hn;simp only[aH] at this;simp only[M.aP,M.wG,this,ah,kD,dR,aH]
def Ir(i:Nat)(nt:fM):M.aP (aF l) (i:Int) true (encS nt)=some (aF l,(i:Int),true,encS nt):=by have:M.jR (.inl (aF l,(i:Int),true,encS nt))=some (.inr (aF l,(i:Int),true,encS nt)):=aV rfl;simp only[M.aP,M.wG,this,ah,kD,letE,dR,aH]
def anT(hl:l.length<=1048576)(i:Nat)(nt:fM)(hi:i<=l.length)(hn:nt.length<=i):
  M.bQ (aF l) (i:Int) false (encS nt)=some (aF l,((sep l i nt).1:Int),false,encS (sep l i nt).2):=by
 have hloop:∀n i nt,∀b:Bool,l.length - i<=n->i<=l.length->nt.length<=i->M.lZ (bif b then .inl (aF l,(i:Int),false,encS nt) else .inr (aF l,(i:Int),false,encS nt))=some (aF l,((sep l i nt).1:Int),false,encS (sep l i nt).2):=by
  intro n;induction n with
  |zero=>
   intro i nt b hk hi hn;have e:=aAC (l:=l) i nt;have hf:=O9 (l:=l) (nt:=nt) hi;have hnl:=RQ hl i nt hi hn;have e0:dX l (nl l i nt).1=0:=by rw[dX,List.getElem?_eq_none ak]
   rw[e0] at e;have e':sep l i nt=nl l i nt:=e;rw[e',M.lZ];refine aV ?_;have h0:((0:Int) !=37)=true:=rfl;cases b<;>simp only[aH,bC,M.mZ,M.kJ,dR,hnl,ah,eu,e0,h0]
  |succ n ih=>
   intro i nt b hk hi hn;have e:=aAC (l:=l) i nt;have hf:=O9 (l:=l) (nt:=nt) hi;have hnl:=RQ hl i nt hi hn;rw[M.lZ];cases h37:dX l (nl l i nt).1==37 with
   |true=>
    rw[h37,aH] at e;have hlt:=fK h37 (by decide);rw[e];have hb:M.mZ (bif b then .inl (aF l,(i:Int),false,encS nt) else .inr (aF l,(i:Int),false,encS nt))=some (.inl (.inr (aF l,(((nl l i nt).1+1:Nat):Int),false,encS (nl l i nt).2))):=by cases b<;>simp only[aH,bC,M.mZ,M.kJ,dR,hnl,ah,eu,bne,h37,zaU,oG hl hlt]
    rw[bY hb];exact ih _ _ false ak ak ak
   |false=>rw[h37,bC] at e;rw[e];refine aV ?_;cases b<;>simp only[aH,bC,M.mZ,M.kJ,dR,hnl,ah,eu,bne,h37,Bool.not_false]
 have:=hloop _ i nt true (zaV _) hi hn;simp only[aH] at this;simp only[M.bQ,M.sZ,this,ah,dR,aH]
def ak8(i:Nat)(nt:fM):M.bQ (aF l) (i:Int) true (encS nt)=some (aF l,(i:Int),true,encS nt):=by
 have:M.lZ (.inl (aF l,(i:Int),true,encS nt))=some (aF l,(i:Int),true,encS nt):=
  aV (by simp only[M.mZ,M.kJ,dR,aH,Ir,ah])
 simp only[M.bQ,M.sZ,this,ah,dR,aH]
def Di(c1:Int)(b:Bool)(nt:fM)(hn:nt.length<=1048576):M.dU (aF l) c1 b (encS nt)=some (true,dO true (Yv nt),aF l,c1,b,encS []):=by
 have hloop:=uJ (b:=M.xw (nt.length:Int) (aF l) c1 b (encS nt)) (t:=((nt.length:Int),dO true (Yv nt)))
  (λj=>((j:Int),dO true (Yv (nt.take j)))) nt.length
  (by
   intro j hj;obtain⟨t,ht⟩:∃t,nt[j]? =some t:=⟨nt[j],by simp⟩
   have h1:(encS nt)[j]? =some [D.str t]:=by simp[encS,ht]
   have h2:dO true (Yv (nt.take (j+1)))=dO true (Yv (nt.take j))++[[D.int .i64 34,D.int .i64 0,D.str t,D.str [],D.sl true 5 []]]:=by rw[tu ht,Yv,List.map_append,AV];rfl
   have h3:cStr [D.str t] 0=some t:=rfl;simp only[yJ,M.xw,M.rH];rw[zdt ak,aH];simp only[cO,h1,ah,ztn,h3,dJ,Dq,zlt,Jj];rw[bI ak,aH,bI ak,aH,aJ ak ak,h2];rfl)
  (by simp only[yJ,M.xw,M.rH];rw[xK ak,bC,List.take_length]) 0 (Nat.zero_le _)
 have KJ:M.zq (nt.length:Int) (aF l) c1 b (encS nt) (0,[])=some ((nt.length:Int),dO true (Yv nt)):=hloop;simp only[M.dU,M.AA,lnS,KJ,ah];rfl
def aIh{s:au}{a:Nat}(h:a<=s.length):cut s (a:Int) (s.length:Int)=some (s.drop a):=by rw[cut,zdt ak,zdt ak,zdt ak];simp[List.take_of_length_le]
def aD4(hl:l.length<=1048576)(i:Nat)(nt:fM)(hi:i<=l.length):M.nH (aF l) (i:Int) false (encS nt)=some (ahead (l.drop i) 0,aF l,(i:Int),false,encS nt):=by
 have hc:cut (aF l) (i:Int) (l.length:Int)=some (aF (l.drop i)):=by have:=aIh (s:=aF l) (a:=i) (by simpa using hi);rw[eH] at this;rw[this];simp[aF]
 have hloop:∀{β:Type} (F:(Int×Int)⊕Unit⊕(Int×Int)->Option β) (T:Bool->Option β),(∀a,F (.inl a)=T false)->(∀a,F (.inr (.inl a))=T true)->(∀a,F (.inr (.inr a))=T false)->
   ∀(r pre:List Tk) (d:Nat),d<=pre.length->(pre++r).length<=1048576->
   (M.oZ (aF (pre++r)) ((pre++r).length:Int) (aF l) (i:Int) false (encS nt) ((d:Int),(pre.length:Int))).bind F=T (ahead r d):=by
  intro β F T f1 f2 f3 r;induction r with
  |nil=>
   intro pre d hd hlen;have hb:M.bZ (aF (pre++[])) ((pre++[]).length:Int) (aF l) (i:Int) false (encS nt) ((d:Int),(pre.length:Int))=some (.inr (.inr (.inr ((d:Int),(pre.length:Int))))):=by simp only[M.bZ,M.fO,List.append_nil];rw[xK ak,bC]
   rw[M.oZ,aV hb,ah,f3,ahead]
  |cons t r ih=>
   intro pre d hd hlen;have ht:(pre++t::r)[pre.length]? =some t:=by simp
   have hlen':pre.length+(r.length+1)<=1048576:=by rw[Ai,GX] at hlen;exact hlen
   have hnext:=ih (pre++[t]);rw[WC,List.singleton_append,Ai,Jj] at hnext;have w1:i64.wrap ((pre.length:Int)+1)=((pre.length+1:Nat):Int):=by rw[aJ ak ak];omega
   have w2:i64.wrap ((d:Int)+1)=((d+1:Nat):Int):=by rw[aJ ak ak];omega
   have w3:i64.wrap ((d:Int) - 1)=(d:Int) - 1:=aJ ak ak;have hg:decide ((pre.length:Int)<((pre++t::r).length:Int))=true:=by rw[zdt];rw[Ai,GX];omega
   rw[ahead,M.oZ];cases ho:ak1 t.kind with
   |true=>
    have hb:M.bZ (aF (pre++t::r)) ((pre++t::r).length:Int) (aF l) (i:Int) false (encS nt) ((d:Int),(pre.length:Int))=some (.inl (((d+1:Nat):Int),((pre.length+1:Nat):Int))):=by simp only[M.bZ,M.fO,hg,aH,cO,pX,ht,MI,ah,cT0,cT1,cT2,Xl,ho,w1,w2];rw[xK ak,bC]
    rw[bY hb,aH];have:=hnext (d+1) ak hlen;rw[show(((d+1:Nat):Int))=(d:Int)+1 by omega] at this;exact this
   |false=>
    rw[bC];cases hs:ak2 t.kind with
    |true=>
     rw[aH];cases hd1:decide ((d:Int) - 1<=0) with
     |true=>
      have hb:M.bZ (aF (pre++t::r)) ((pre++t::r).length:Int) (aF l) (i:Int) false (encS nt) ((d:Int),(pre.length:Int))=some (.inr (.inl ((d:Int) - 1,(pre.length:Int)))):=by simp only[M.bZ,M.fO,hg,aH,bC,cO,pX,ht,MI,ah,cT0,cT1,cT2,Xl,ho,Zf,hs,w3,hd1]
      rw[aV hb,ah,f1,aH]
     |false=>
      have hdd:1<d:=by have:=of_decide_eq_false hd1;omega
      have hb:M.bZ (aF (pre++t::r)) ((pre++t::r).length:Int) (aF l) (i:Int) false (encS nt) ((d:Int),(pre.length:Int))=some (.inl (((d - 1:Nat):Int),((pre.length+1:Nat):Int))):=by simp only[M.bZ,M.fO,hg,aH,bC,cO,pX,ht,MI,ah,cT0,cT1,cT2,Xl,ho,Zf,hs,w3,hd1,w1];rw[show((d:Int) - 1)=((d - 1:Nat):Int) by omega]
      rw[bY hb,bC];have:=hnext (d - 1) ak hlen;rw[show(((d - 1:Nat):Int))=(d:Int) - 1 by omega] at this|-;exact this
    |false=>
     rw[bC];cases hc:t.kind==36 with
     |true=>
      cases h1:(d:Int)==1 with
      |true=>
       have hb:M.bZ (aF (pre++t::r)) ((pre++t::r).length:Int) (aF l) (i:Int) false (encS nt) ((d:Int),(pre.length:Int))=some (.inr (.inr (.inl ()))):=by simp only[M.bZ,M.fO,hg,aH,bC,cO,pX,ht,MI,ah,cT0,cT1,cT2,Xl,ho,Zf,hs,hc,h1]
       rw[aV hb,ah,f2];rfl
      |false=>
       rw[Bool.and_false,bC];cases hd0:decide ((d:Int)<=0) with
       |true=>
        have hb:M.bZ (aF (pre++t::r)) ((pre++t::r).length:Int) (aF l) (i:Int) false (encS nt) ((d:Int),(pre.length:Int))=some (.inr (.inl ((d:Int),(pre.length:Int)))):=by simp only[M.bZ,M.fO,hg,aH,bC,cO,pX,ht,MI,ah,cT0,cT1,cT2,Xl,ho,Zf,hs,hc,h1,hd0]
        rw[aV hb,ah,f1,aH]
       |false=>
        have hb:M.bZ (aF (pre++t::r)) ((pre++t::r).length:Int) (aF l) (i:Int) false (encS nt) ((d:Int),(pre.length:Int))=some (.inl ((d:Int),((pre.length+1:Nat):Int))):=by simp only[M.bZ,M.fO,hg,aH,bC,cO,pX,ht,MI,ah,cT0,cT1,cT2,Xl,ho,Zf,hs,hc,h1,hd0,w1]
        rw[bY hb,bC];exact hnext d ak hlen
     |false=>
      rw[Bool.false_and,bC];cases hd0:decide ((d:Int)<=0) with
      |true=>
       have hb:M.bZ (aF (pre++t::r)) ((pre++t::r).length:Int) (aF l) (i:Int) false (encS nt) ((d:Int),(pre.length:Int))=some (.inr (.inl ((d:Int),(pre.length:Int)))):=by simp only[M.bZ,M.fO,hg,aH,bC,cO,pX,ht,MI,ah,cT0,cT1,cT2,Xl,ho,Zf,hs,hc,hd0]
       rw[aV hb,ah,f1,aH]
      |false=>
       have hb:M.bZ (aF (pre++t::r)) ((pre++t::r).length:Int) (aF l) (i:Int) false (encS nt) ((d:Int),(pre.length:Int))=some (.inl ((d:Int),((pre.length+1:Nat):Int))):=by simp only[M.bZ,M.fO,hg,aH,bC,cO,pX,ht,MI,ah,cT0,cT1,cT2,Xl,ho,Zf,hs,hc,hd0,w1]
       rw[bY hb,bC];exact hnext d ak hlen
 simp only[M.nH,M.zu,eH,hc,ah];have:=hloop (β:=Bool×au×Int×Bool×au) (λu=>kD u (λt=>bif aj (encS nt) then some (false,aF l,(i:Int),false,encS nt) else none) λu=>
  kD u (λt=>bif aj (encS nt) then some (true,aF l,(i:Int),false,encS nt) else none) λu=>letE u λt=>bif aj (encS nt) then some (false,aF l,(i:Int),false,encS nt) else none)
  (λb=>some (b,aF l,(i:Int),false,encS nt)) (λa=>by simp only[kD,dR,aH]) (λa=>by simp only[kD,dR,aH]) (λa=>by simp only[kD,letE,dR,aH]) (l.drop i) [] 0 (zaV _) (by simp;omega)
 simpa using this
variable {l:List Tk}
def AP.Dt{β:Type}{o:Option TP}{j:Nat}(h:AP l o (.bad j)){f:TP->Option β}{R:Option β->Prop}
  (hb:∀k op x y fl ks tg nt,nt.length<=l.length->R (f (k,op,x,y,fl,ks,tg,aF l,(j:Int),true,encS nt))):R (o.bind f):=by
 obtain⟨k,op,x,y,fl,ks,tg,nt,h1,rfl⟩:=h;exact hb k op x y fl ks tg nt h1
def AP.jX{k op:Int}{x y:aC}{fl:Bool}{ks:au}{tg:Bool}{j:Nat}{nt:fM}(hn:nt.length<=l.length):AP l (some (k,op,x,y,fl,ks,tg,aF l,(j:Int),true,encS nt)) (.bad j):=⟨_,_,_,_,_,_,_,_,hn,rfl⟩
def AP.mk{x:Xp}{k op:Int}{s s':aC}{fl:Bool}{ks:au}{tg:Bool}{j:Nat}{nt:fM}(h1:k=x.1.kind)(h2:op=x.1.op)(h3:s=x.1.text)(h4:s'=x.1.other)(h5:aB ks=dO false x.1.kids)(h6:tg=tgt x):
  AP l (some (k,op,s,s',fl,ks,tg,aF l,(j:Int),false,encS nt)) (.ok x j nt):=by
 subst h1 h2 h3 h4 h6;exact⟨_,_,h5,rfl⟩
def fzT(x:Tn)(w:Bool)(ks:au)(h:aB ks=dO false x.kids):AY [.int .i64 x.kind,.int .i64 x.op,.str x.text,.str x.other,.sl w 5 ks]=x.row false:=by simp only[AY,D.fz,h,aul]
def fz1{x:Tn}{w:Bool}{ks:au}(h:aB ks=dO false x.kids):aB [[.int .i64 x.kind,.int .i64 x.op,.str x.text,.str x.other,.sl w 5 ks]]=dO false [x]:=by rw[aB,fzT x w ks h];rfl
def fz2{x y:Tn}{w v:Bool}{ks kt:au}(h:aB ks=dO false x.kids)(h':aB kt=dO false y.kids):
  aB [[.int .i64 x.kind,.int .i64 x.op,.str x.text,.str x.other,.sl w 5 ks],[.int .i64 y.kind,.int .i64 y.op,.str y.text,.str y.other,.sl v 5 kt]]=dO false [x,y]:=by
 rw[aB,fzT x w ks h,aB,fzT y v kt h'];rfl
def fz3{x y z:Tn}{w v u:Bool}{ks kt ku:au}(h:aB ks=dO false x.kids)(h':aB kt=dO false y.kids)(h'':aB ku=dO false z.kids):
  aB [[.int .i64 x.kind,.int .i64 x.op,.str x.text,.str x.other,.sl w 5 ks],[.int .i64 y.kind,.int .i64 y.op,.str y.text,.str y.other,.sl v 5 kt],[.int .i64 z.kind,.int .i64 z.op,.str z.text,.str z.other,.sl u 5 ku]]=dO false [x,y,z]:=by
 rw[aB,fzT x w ks h,aB,fzT y v kt h',aB,fzT z u ku h''];rfl
def NG{ks:au}{L:List Tn}(h:aB ks=dO false L):aB (aB ks)=dO false L:=by rw[h,jv]
abbrev T10:=au×Int×Bool×Int×Int×aC×aC×au×Bool×au
def asn(m:Nat){i:Nat}{nt:fM}(hn:nt.length<=l.length):AP l (M.pG (m+1) (aF l) (i:Int) true (encS nt)) (.bad i):=by rw[M.Q7];simp only[M.pz,M.xA,M.wH,aH,dR];exact AP.jX hn
def axK(m:Nat){i:Nat}{nt:fM}(hn:nt.length<=l.length):AP l (M.nR (m+2) (aF l) (i:Int) true (encS nt)) (.bad i):=by rw[M.UU];simp only[M.rP,M.yT,aH,dR];exact AP.pass (asn m hn) (by intros;simp only[dR,aH])
def aAD(m:Nat){i:Nat}{nt:fM}(hn:nt.length<=l.length):AP l (M.uG (m+3) (aF l) (i:Int) true (encS nt)) (.bad i):=by
 rw[M.V6];simp only[M.uD,M.Aa,zaU,bC,aH,dR];refine AP.Dt (R:=λo=>AP l o (.bad i)) (axK m hn) λk op x y fl ks tg nt hn=> ?_
 simp only[aH,dR];exact AP.jX hn
def aD5(m:Nat){a b:Bool}{i:Nat}{nt:fM}(hn:nt.length<=l.length):AP l (M.wS (m+4) a b (aF l) (i:Int) true (encS nt)) (.bad i):=by
 rw[M.Xa];simp only[M.wJ,aH,dR];refine AP.Dt (R:=λo=>AP l o (.bad i)) (aAD m hn) λk op x y fl ks tg nt hn=> ?_
 simp only[aH,dR];exact AP.jX hn
def axL(m:Nat){a b:Bool}{i:Nat}{nt:fM}(hn:nt.length<=l.length):AP l (M.kF (m+5) a b (aF l) (i:Int) true (encS nt)) (.bad i):=by rw[M.UW];simp only[M.rQ,M.yV,M.uP,aH,dR,eu,ah];exact AP.pass (aD5 m hn) (by intros;simp only[dR,aH])
def aD6(m:Nat){a b:Bool}{i:Nat}{nt:fM}(hn:nt.length<=l.length):AP l (M.rZ (m+6) a b (aF l) (i:Int) true (encS nt)) (.bad i):=by
 rw[M.Xb];simp only[M.wL,aH,dR];refine AP.Dt (R:=λo=>AP l o (.bad i)) (axL m hn) λk op x y fl ks tg nt hn=> ?_
 rw[show M.xY _ _ _ _ _ _ _ _ _=_ from aV rfl];simp only[ah,aH,dR];exact AP.jX hn
def aD7(m:Nat){a b:Bool}{i:Nat}{nt:fM}(hn:nt.length<=l.length):AP l (M.pU (m+7) a b (aF l) (i:Int) true (encS nt)) (.bad i):=by
 rw[M.Xc];simp only[M.wM,aH,dR];refine AP.Dt (R:=λo=>AP l o (.bad i)) (aD6 m hn) λk op x y fl ks tg nt hn=> ?_
 rw[show M.xZ _ _ _ _ _ _ _ _ _=_ from aV rfl];simp only[ah,aH,dR];exact AP.jX hn
def aD8(m:Nat){a b:Bool}{i:Nat}{nt:fM}(hn:nt.length<=l.length):AP l (M.su (m+8) a b (aF l) (i:Int) true (encS nt)) (.bad i):=by
 rw[M.Xd];simp only[M.wO,aH,dR];refine AP.Dt (R:=λo=>AP l o (.bad i)) (aD7 m hn) λk op x y fl ks tg nt hn=> ?_
 rw[show M.x8 _ _ _ _ _ _ _ _ _=_ from aV rfl];simp only[ah,aH,dR];exact AP.jX hn
def aso(m:Nat){a b:Bool}{i:Nat}{nt:fM}(hn:nt.length<=l.length):AP l (M.nJ (m+9) a b (aF l) (i:Int) true (encS nt)) (.bad i):=by
 rw[M.Q8];simp only[M.pF,M.wP,aH,dR];refine AP.Dt (R:=λo=>AP l o (.bad i)) (aD8 m hn) λk op x y fl ks tg nt hn=> ?_
 simp only[aH,dR];exact AP.jX hn
def axM(m:Nat){a b:Bool}{i:Nat}{nt:fM}(hn:nt.length<=l.length):AP l (M.kG (m+10) a b (aF l) (i:Int) true (encS nt)) (.bad i):=by
 rw[M.UY];simp only[M.rU,M.y5,aH,dR];refine AP.Dt (R:=λo=>AP l o (.bad i)) (aso m hn) λk op x y fl ks tg nt hn=> ?_
 simp only[aH,dR];exact AP.jX hn
def aIi(m:Nat){a b:Bool}{i:Nat}{nt:fM}(hn:nt.length<=l.length):AP l (M.uQ (m+11) a b (aF l) (i:Int) true (encS nt)) (.bad i):=by
 rw[M.Yk];simp only[M.x9,M.EI,M.EJ,M.EK,M.wQ,zaU,bC,aH,dR];refine AP.Dt (R:=λo=>AP l o (.bad i)) (axM m hn) λk op x y fl ks tg nt hn=> ?_
 rw[show M.jh _ _ _=_ from aV rfl];simp only[ah,aH,dR,kD,letE];exact AP.jX hn
def aD9(m:Nat){a b:Bool}{i:Nat}{nt:fM}(hn:nt.length<=l.length):AP l (M.sD (m+12) a b (aF l) (i:Int) true (encS nt)) (.bad i):=by
 rw[M.Xe];simp only[M.wR,aH,dR];refine AP.Dt (R:=λo=>AP l o (.bad i)) (aIi m hn) λk op x y fl ks tg nt hn=> ?_
 rw[show M.yc _ _ _ _ _ _ _ _ _=_ from aV rfl];simp only[ah,aH,dR];exact AP.jX hn
def aIj(m:Nat){a b:Bool}{i:Nat}{nt:fM}(hn:nt.length<=l.length):AP l (M.yh (m+13) a b (aF l) (i:Int) true (encS nt)) (.bad i):=by
 rw[M.Yl];simp only[M.yg,aH,dR];refine AP.Dt (R:=λo=>AP l o (.bad i)) (aD9 m hn) λk op x y fl ks tg nt hn=> ?_
 rw[show M.zx _ _ _ _ _ _ _ _ _=_ from aV rfl];simp only[ah,aH,dR];exact AP.jX hn
def aAE(m:Nat){a b:Bool}{i:Nat}{nt:fM}(hn:nt.length<=l.length):AP l (M.qH (m+14) a b (aF l) (i:Int) true (encS nt)) (.bad i):=by
 rw[M.V7];simp only[M.uF,aH,dR];refine AP.Dt (R:=λo=>AP l o (.bad i)) (aIj m hn) λk op x y fl ks tg nt hn=> ?_
 simp only[aH,dR];exact AP.jX hn
def auz(m:Nat){a b:Bool}{i:Nat}{nt:fM}(hn:nt.length<=l.length):AP l (M.iC (m+15) a b (aF l) (i:Int) true (encS nt)) (.bad i):=by
 rw[M.Ui];simp only[M.qF,aH,dR];refine AP.Dt (R:=λo=>AP l o (.bad i)) (aAE m hn) λk op x y fl ks tg nt hn=> ?_
 simp only[aH,dR];exact AP.jX hn
def AC(l:List Tk)(o:Option T10):PR Xp->Prop
 | .ok x j nt=>∃ks,aB ks=dO false x.1.kids/\o=some (aF l,(j:Int),false,x.1.kind,x.1.op,x.1.text,x.1.other,ks,tgt x,encS nt)
 | .bad j=>∃k op x y ks tg nt,nt.length<=l.length/\o=some (aF l,(j:Int),true,k,op,x,y,ks,tg,encS nt)
 | .out=>True
def AC.elim{o:Option T10}{p:PR Xp}(h:AC l o p){f:T10->Option TP}
  (hf:∀c1 b k op x y ks tg nt,f (aF l,c1,b,k,op,x,y,ks,tg,encS nt)=some (k,op,x,y,false,ks,tg,aF l,c1,b,encS nt)):AP l (o.bind f) p:=by
 cases p with
 |ok x j nt=>obtain⟨ks,h1,rfl⟩:=h;rw[ah,hf];exact AP.mk rfl rfl rfl rfl h1 rfl
 |bad j=>obtain⟨k,op,x,y,ks,tg,nt,h1,rfl⟩:=h;rw[ah,hf];exact AP.jX h1
 |out=>trivial
def RU(hl:l.length<=1048576){bd:T10->Option (T10⊕T10)}{lv:Nat}{a b:Bool}{rec:Bool->Bool->au->Int->Bool->au->Option TP}(h3:3<=lv)(h10:lv<=10)
  (hstop:∀(i:Nat) k op x y ks tg nt,bd (aF l,(i:Int),true,k,op,x,y,ks,tg,encS nt)=some (.inr (aF l,(i:Int),true,k,op,x,y,ks,tg,encS nt)))
  (hend:∀(i:Nat) k op x y ks tg nt,UF lv (b && Nat.beq lv 7) (dX l i)=false->bd (aF l,(i:Int),false,k,op,x,y,ks,tg,encS nt)=some (.inr (aF l,(i:Int),false,k,op,x,y,ks,tg,encS nt)))
  (hop:∀(i:Nat) k op x y ks tg nt,UF lv (b && Nat.beq lv 7) (dX l i)=true->i<l.length->nt.length<=i->bd (aF l,(i:Int),false,k,op,x,y,ks,tg,encS nt)=
   (rec a b (aF l) (((bif Nat.beq lv 8 then(i,nt) else bif Nat.ble lv 4 then nl l (i+1) nt else(i+1,nt)).1:Nat):Int) false (encS (bif Nat.beq lv 8 then(i,nt) else bif Nat.ble lv 4 then nl l (i+1) nt else(i+1,nt)).2)).bind λr=>
    some (.inl (r.2.2.2.2.2.2.2.1,r.2.2.2.2.2.2.2.2.1,r.2.2.2.2.2.2.2.2.2.1,12,(bif Nat.beq lv 8 then 99 else dX l i),[],[],
     aB [[D.int .i64 k,D.int .i64 op,D.str x,D.str y,D.sl false 5 ks],[D.int .i64 r.1,D.int .i64 r.2.1,D.str r.2.2.1,D.str r.2.2.2.1,D.sl false 5 (aB r.2.2.2.2.2.1)]],false,r.2.2.2.2.2.2.2.2.2.2))):
  ∀n,(∀n',n'<=n->∀i nt,i<=l.length->nt.length<=i->AP l (rec a b (aF l) (i:Int) false (encS nt)) (ex l n' (lv+1) a b i nt))->
   ∀x i nt ks,i<=l.length->nt.length<=i->aB ks=dO false x.1.kids->AC l (fV bd (aF l,(i:Int),false,x.1.kind,x.1.op,x.1.text,x.1.other,ks,tgt x,encS nt)) (chP l n lv a b x i nt)
 |0,_,_,_,_,_,_,_,_=>by rw[chP];trivial
 |n+1,hrec,x,i,nt,ks,hi,hn,hk=>by
  rw[chP];cases hc:UF lv (b && Nat.beq lv 7) (dX l i) with
  |false=>rw[aV (hend i _ _ _ _ _ _ nt hc)];exact⟨ks,hk,rfl⟩
  |true=>
   have hlt:=iD (afY h3 hc);have hq:=hop i x.1.kind x.1.op x.1.text x.1.other ks (tgt x) nt hc hlt hn;have hqb:FN l i nt.length (bif Nat.beq lv 8 then(i,nt) else bif Nat.ble lv 4 then nl l (i+1) nt else(i+1,nt)).1 (bif Nat.beq lv 8 then(i,nt) else bif Nat.ble lv 4 then nl l (i+1) nt else(i+1,nt)).2.length:=by
    cases Nat.beq lv 8<;>cases Nat.ble lv 4<;>simp only[aH,bC]
    ·omega
    ·have:=O9 (l:=l) (i:=i+1) (nt:=nt) ak;omega
    ·omega
    ·omega
   simp only[aH];generalize (bif Nat.beq lv 8 then(i,nt) else bif Nat.ble lv 4 then nl l (i+1) nt else(i+1,nt))=q at hq hqb|-;have hr:=hrec n (Nat.le_succ n) q.1 q.2 ak ak;have hs:=(sats l n).ex (lv+1) a b q.1 q.2 ak ak ak;generalize ex l n (lv+1) a b q.1 q.2=p at hr hs|-;cases p with
   |ok y j m=>obtain⟨fl,kt,h1,h2⟩:=hr;have hs':FE l q.1 q.2.length y.1.size j m.length:=hs;rw[h2,ah] at hq;rw[bY hq];exact RU hl h3 h10 hstop hend hop n (λn' h=>hrec n' ak) (Tn.mk 12 (bif Nat.beq lv 8 then 99 else dX l i) [] [] [x.1,y.1],false) j m _ ak ak (by rw[fz2 hk (NG h1),jv];rfl)
   |bad j=>obtain⟨k,op,x',y',fl,kt,tg,m,h1,h2⟩:=hr;rw[h2,ah] at hq;rw[bY hq,aV (hstop j _ _ _ _ _ _ m)];exact⟨_,_,_,_,_,_,_,h1,rfl⟩
   |out=>trivial
variable {l:List Tk}
def aij{lv:Nat}{k:Int}(h:Nat.beq lv 8=false):UF lv false k=(tZ k==(lv:Int)):=by rw[UF,h];simp
def lv3(k:Int):(k==44)=(tZ k==3):=by
 cases h:k==44 with
 |true=>rw[tZ,h];rfl
 |false=>rw[tZ,h,bC];cases k==45<;>cases(k==67||k==46)<;>cases(k==63||(k==48||(k==47||(k==50||(k==62||k==49)))))<;>cases k==99<;>cases(k==55||k==56)<;>cases(k==57||(k==58||k==59))<;>cases k==60<;>rfl
def lv4(k:Int):(k==45)=(tZ k==4):=by
 cases h4:k==44 with
 |true=>
  have e:k=44:=by rwa [beq_iff_eq] at h4
  rw[e];rfl
 |false=>
  cases h:k==45 with
  |true=>rw[tZ,h4,h];rfl
  |false=>rw[tZ,h4,h,bC,bC];cases(k==67||k==46)<;>cases(k==63||(k==48||(k==47||(k==50||(k==62||k==49)))))<;>cases k==99<;>cases(k==55||k==56)<;>cases(k==57||(k==58||k==59))<;>cases k==60<;>rfl
structure RI(l:List Tk)(n m:Nat):Prop where
 e1:∀a b i nt,i<=l.length->nt.length<=i->AP l (M.iC m a b (aF l) (i:Int) false (encS nt)) (ex l n 1 a b i nt)
 e2:∀a b i nt,i<=l.length->nt.length<=i->AP l (M.qH m a b (aF l) (i:Int) false (encS nt)) (ex l n 2 a b i nt)
 e3:∀a b i nt,i<=l.length->nt.length<=i->AP l (M.yh m a b (aF l) (i:Int) false (encS nt)) (ex l n 3 a b i nt)
 e4:∀a b i nt,i<=l.length->nt.length<=i->AP l (M.sD m a b (aF l) (i:Int) false (encS nt)) (ex l n 4 a b i nt)
 e5:∀a b i nt,i<=l.length->nt.length<=i->AP l (M.uQ m a b (aF l) (i:Int) false (encS nt)) (ex l n 5 a b i nt)
 e6:∀a b i nt,i<=l.length->nt.length<=i->AP l (M.kG m a b (aF l) (i:Int) false (encS nt)) (ex l n 6 a b i nt)
 e7:∀a b i nt,i<=l.length->nt.length<=i->AP l (M.nJ m a b (aF l) (i:Int) false (encS nt)) (ex l n 7 a b i nt)
 e8:∀a b i nt,i<=l.length->nt.length<=i->AP l (M.su m a b (aF l) (i:Int) false (encS nt)) (ex l n 8 a b i nt)
 e9:∀a b i nt,i<=l.length->nt.length<=i->AP l (M.pU m a b (aF l) (i:Int) false (encS nt)) (ex l n 9 a b i nt)
 e10:∀a b i nt,i<=l.length->nt.length<=i->AP l (M.rZ m a b (aF l) (i:Int) false (encS nt)) (ex l n 10 a b i nt)
 e11:∀a b i nt,i<=l.length->nt.length<=i->AP l (M.kF m a b (aF l) (i:Int) false (encS nt)) (ex l n 11 a b i nt)
 e12:∀a b i nt,i<=l.length->nt.length<=i->AP l (M.wS m a b (aF l) (i:Int) false (encS nt)) (ex l n 12 a b i nt)
 e13:∀a b i nt,i<=l.length->nt.length<=i->AP l (M.uG m (aF l) (i:Int) false (encS nt)) (ex l n 13 a b i nt)
 e14:∀a b i nt,i<=l.length->nt.length<=i->AP l (M.nR m (aF l) (i:Int) false (encS nt)) (ex l n 14 a b i nt)
 e15:∀a b i nt,i<=l.length->nt.length<=i->AP l (M.pG m (aF l) (i:Int) false (encS nt)) (ex l n 15 a b i nt)
 pre:∀i nt,i<l.length->nt.length<=i->AP l (M.qG m (aF l) (i:Int) false (encS nt)) (XB l n i nt)
 its:∀a b i nt,i<=l.length->nt.length<=i->AL l (M.lT m a b (aF l) (i:Int) false (encS nt)) (U1 l n a b [] i nt)
def aAF(hl:l.length<=1048576){m n:Nat}{i:Nat}{nt:fM}(h:AL l (M.lT m false false (aF l) (i:Int) false (encS nt)) (U1 l n false false [] i nt))(hi:i<=l.length)(hn:nt.length<=i):
  AL l (M.jI (m+1) 35 (aF l) (i:Int) false (encS nt)) ((U1 l n false false [] i nt).bind λL i nt=>(qL l 35 i nt).bind λ_ i nt=> .ok L i nt):=by
 rw[M.V5];have h3:((35:Int)==33)=false:=rfl;simp only[M.uy,M.zY,dR,aH,eu,ah,h3,bC,Bool.cond_self];refine AL.elim (R:=AL l) h (λ_=>trivial) (λfl ks j nt hn=> ?_) (λL fl j nt he=> ?_)
 ·simp only[dR,aH,uY,ah];exact⟨_,_,_,hn,rfl⟩
 ·have hs:=rF (anP hi) he;simp only[dR,aH];refine MZ (R:=AL l) hl (by decide) ?_ (λ_ _=> ?_)
  ·simp only[dR,aH];exact⟨_,_,_,ak,rfl⟩
  ·simp only[dR,aH,jv];exact⟨_,rfl⟩
def aAG(hl:l.length<=1048576){m n:Nat}{i:Nat}{nt:fM}(h:AL l (M.lT m false false (aF l) (i:Int) false (encS nt)) (U1 l n false false [] i nt))(hi:i<=l.length)(hn:nt.length<=i):
  AL l (M.jI (m+1) 33 (aF l) (i:Int) false (encS nt)) (UG l (n+1) 33 i nt):=by
 rw[M.V5,UG];simp only[M.uy,M.zY,dR,aH,eu,ah,BEq.rfl];cases hc:dX l i==33 with
 |true=>have hlt:=fK hc (by decide);simp only[aH,oG hl hlt];exact⟨_,rfl⟩
 |false=>
  simp only[bC];refine AL.elim (R:=AL l) h (λ_=>trivial) (λfl ks j nt hn=> ?_) (λL fl j nt he=> ?_)
  ·simp only[dR,aH,uY,ah];exact⟨_,_,_,hn,rfl⟩
  ·have hs:=rF (anP hi) he;simp only[dR,aH];refine MZ (R:=AL l) hl (by decide) ?_ (λ_ _=> ?_)
   ·simp only[dR,aH];exact⟨_,_,_,ak,rfl⟩
   ·simp only[dR,aH,jv];exact⟨_,rfl⟩
def aEa(l:List Tk)(n i:Nat)(nt:fM):PR Xp:=bif dX l (i+1)==34 then(U1 l n false false [] (i+2) nt).bind λL j nt=>(qL l 35 j nt).bind λ_ j nt=> .ok (.mk 5 0 (MS l i) [] L,false) j nt else adY 1 l i nt
def aFW(hl:l.length<=1048576){m n:Nat}{i:Nat}{nt:fM}(h:∀i nt,i<=l.length->nt.length<=i->AL l (M.lT m false false (aF l) (i:Int) false (encS nt)) (U1 l n false false [] i nt))(hi:i<l.length)(hn:nt.length<=i):
  AP l (M.rC (m+2) (aF l) (i:Int) false (encS nt)) (aEa l n i nt):=by
 rw[M.Y4,aEa];simp only[M.ru,dR,aH,MX hl hi,ah,eu];cases hc:dX l (i+1)==34 with
 |true=>
  have hlt:=fK hc (by decide);simp only[aH,oG hl hlt];have hL:=aAF hl (h (i+2) nt ak ak) ak ak;have e:(U1 l n false false [] (i+2) nt).bind (λL j nt=>(qL l 35 j nt).bind λ_ j nt=>PR.ok ((Tn.mk 5 0 (MS l i) [] L,false):Xp) j nt)=
    ((U1 l n false false [] (i+2) nt).bind λL i nt=>(qL l 35 i nt).bind λ_ i nt=> .ok L i nt).bind λL j nt=> .ok ((Tn.mk 5 0 (MS l i) [] L,false):Xp) j nt:=by
   cases U1 l n false false [] (i+2) nt with
   |ok L j m=>simp only[PR.bind];cases qL l 35 j m<;>rfl
   |bad j=>rfl
   |out=>rfl
  rw[e];refine AL.elim (R:=AP l) hL (λ_=>trivial) (λfl ks j nt hn=> ?_) (λL fl j nt he=> ?_)
  ·simp only[dR,aH];exact AP.jX hn
  ·simp only[dR,aH,jv];exact AP.mk rfl rfl rfl rfl (jv _ _) rfl
 |false=>simp only[bC];exact AP.mk rfl rfl rfl rfl rfl rfl
section
variable {n m:Nat} (hl:l.length<=1048576) (H:∀n',n'<=n->∀m',4 * n'+30<=m'->RI l n' m') (hm:4 * (n+1)+30<=m+1)
include hl H hm
theorem aSF(a b:Bool)(i:Nat)(nt:fM)(hi:i<=l.length)(hn:nt.length<=i):AP l (M.iC (m+1) a b (aF l) (i:Int) false (encS nt)) (ex l (n+1) 1 a b i nt):=by
 have h:=H n (zaV _) m ak;rw[M.Ui];simp only[M.qF,dR,aH,ex];refine AP.elim (R:=AP l) (h.e2 a b i nt hi hn) (λ_=>trivial) (λk op x y fl ks tg j nt hn=> ?_) (λx fl ks j nt hk he=> ?_)
 ·simp only[aH,dR];exact AP.jX hn
 ·have hs:=rF (JM ak ak hi) he;simp only[bC,dR,aH,eu,ah,(pq _).2];cases ht:tgt x with
  |false=>simp only[Bool.not_false,aH,Bool.false_and,bC];exact AP.mk rfl rfl rfl rfl (NG hk) ht.symm
  |true=>
   simp only[zaU,bC,Bool.true_and];cases hc:ZE (dX l j) with
   |false=>simp only[Bool.not_false,aH,bC];exact AP.mk rfl rfl rfl rfl (NG hk) ht.symm
   |true=>
    have hlt:=iD (auo hc);simp only[zaU,bC,aH,oG hl hlt];refine AP.elim (R:=AP l) (h.e1 a b (j+1) nt ak ak) (λ_=>trivial) (λk op x y fl ks tg j nt hn=> ?_) (λy fl' kt j' ZX hk' he'=> ?_)
    ·simp only[aH,dR];exact AP.jX hn
    ·simp only[aH,dR];exact AP.mk rfl rfl rfl rfl (fz2 (NG hk) (NG hk')) rfl
theorem aSG(a b:Bool)(i:Nat)(nt:fM)(hi:i<=l.length)(hn:nt.length<=i):AP l (M.qH (m+1) a b (aF l) (i:Int) false (encS nt)) (ex l (n+1) 2 a b i nt):=by
 have h:=H n (zaV _) m ak;rw[M.V7];simp only[M.uF,dR,aH,ex];refine AP.elim (R:=AP l) (h.e3 a b i nt hi hn) (λ_=>trivial) (λk op x y fl ks tg j nt hn=> ?_) (λx fl ks j nt hk he=> ?_)
 ·simp only[aH,dR];exact AP.jX hn
 ·have hs:=rF (JM ak ak hi) he;simp only[bC,dR,aH,eu,ah,bne];cases hc:dX l j==65 with
  |false=>simp only[Bool.not_false,aH,bC];exact AP.mk rfl rfl rfl rfl (NG hk) rfl
  |true=>
   have hlt:=fK hc (by decide);simp only[zaU,bC,aH,oG hl hlt];refine AP.elim (R:=AP l) (h.e2 a b (j+1) nt ak ak) (λ_=>trivial) (λk op x y fl ks tg j nt hn=> ?_) (λy fl' kt j' ZX hk' he'=> ?_)
   ·simp only[aH,dR,uY,ah];exact AP.jX hn
   ·have hs':=rF (JM ak ak ak) he';simp only[aH,dR];refine MZ (R:=AP l) hl (by decide) ?_ (λ_ _=> ?_)
    ·simp only[dR,aH];exact AP.jX ak
    ·simp only[dR,aH,bC];refine AP.elim (R:=AP l) (h.e2 a b (j'+1) ZX ak ak) (λ_=>trivial) (λk op x y fl ks tg j nt hn=> ?_) (λz a01 ku j'' a1T hk'' a02=> ?_)
     ·simp only[aH,dR];exact AP.jX hn
     ·simp only[aH,dR];exact AP.mk rfl rfl rfl rfl (fz3 (NG hk) (NG hk') (NG hk'')) rfl
theorem aSH(a b:Bool)(i:Nat)(nt:fM)(hi:i<=l.length)(hn:nt.length<=i):AP l (M.yh (m+1) a b (aF l) (i:Int) false (encS nt)) (ex l (n+1) 3 a b i nt):=by
 have h:=H n (zaV _) m ak;rw[M.Yl];simp only[M.yg,dR,aH,ex];refine AP.elim (R:=AP l) (h.e4 a b i nt hi hn) (λ_=>trivial) (λk op x y fl ks tg j nt hn=> ?_) (λx fl ks j nt hk he=> ?_)
 ·rw[show M.zx _ _ _ _ _ _ _ _ _=_ from aV rfl];simp only[ah,aH,dR];exact AP.jX hn
 ·have hs:=rF (JM ak ak hi) he;rw[M.zx];refine AC.elim (RU hl (lv:=3) (a:=a) (b:=b) (rec:=M.sD m) ak ak ?_ ?_ ?_ n (λn' hn' i nt hi hn=>(H n' hn' m ak).e4 a b i nt hi hn) x j nt _ ak ak (NG hk)) (by intros;simp only[aH,dR])
  ·intros
   rfl
  ·intro i k op x y ks tg nt hc;have hb:(b && Nat.beq 3 7)=false:=Bool.and_false b;rw[hb] at hc;have hk:(dX l i==44)=false:=by rw[lv3];exact(aij (lv:=3) rfl).symm.trans hc
   simp only[M.MP,M.Ac,Bool.not_false,aH,dR,eu,ah,hk,bC]
  ·intro i k op x y ks tg nt hc hlt hn;have hb:(b && Nat.beq 3 7)=false:=Bool.and_false b;rw[hb] at hc;have hk:(dX l i==44)=true:=by rw[lv3];exact(aij (lv:=3) rfl).symm.trans hc
   have hk':dX l i=44:=by rwa [beq_iff_eq] at hk
   simp only[M.MP,M.Ac,Bool.not_false,aH,dR,eu,ah,hk,oG hl hlt,RQ hl (i+1) nt ak ak,M.ni,M.CP];rw[hk'];rfl
theorem aSI(a b:Bool)(i:Nat)(nt:fM)(hi:i<=l.length)(hn:nt.length<=i):AP l (M.sD (m+1) a b (aF l) (i:Int) false (encS nt)) (ex l (n+1) 4 a b i nt):=by
 have h:=H n (zaV _) m ak;rw[M.Xe];simp only[M.wR,dR,aH,ex];refine AP.elim (R:=AP l) (h.e5 a b i nt hi hn) (λ_=>trivial) (λk op x y fl ks tg j nt hn=> ?_) (λx fl ks j nt hk he=> ?_)
 ·rw[show M.yc _ _ _ _ _ _ _ _ _=_ from aV rfl];simp only[ah,aH,dR];exact AP.jX hn
 ·have hs:=rF (JM ak ak hi) he;rw[M.yc];refine AC.elim (RU hl (lv:=4) (a:=a) (b:=b) (rec:=M.uQ m) ak ak ?_ ?_ ?_ n (λn' hn' i nt hi hn=>(H n' hn' m ak).e5 a b i nt hi hn) x j nt _ ak ak (NG hk)) (by intros;simp only[aH,dR])
  ·intros
   rfl
  ·intro i k op x y ks tg nt hc;have hb:(b && Nat.beq 4 7)=false:=Bool.and_false b;rw[hb] at hc;have hk:(dX l i==45)=false:=by rw[lv4];exact(aij (lv:=4) rfl).symm.trans hc
   simp only[M.KC,M.y7,Bool.not_false,aH,dR,eu,ah,hk,bC]
  ·intro i k op x y ks tg nt hc hlt hn;have hb:(b && Nat.beq 4 7)=false:=Bool.and_false b;rw[hb] at hc;have hk:(dX l i==45)=true:=by rw[lv4];exact(aij (lv:=4) rfl).symm.trans hc
   have hk':dX l i=45:=by rwa [beq_iff_eq] at hk
   simp only[M.KC,M.y7,Bool.not_false,aH,dR,eu,ah,hk,oG hl hlt,RQ hl (i+1) nt ak ak,M.ni,M.CP];rw[hk'];rfl
theorem aSJ(a b:Bool)(i:Nat)(nt:fM)(hi:i<=l.length)(hn:nt.length<=i):AP l (M.su (m+1) a b (aF l) (i:Int) false (encS nt)) (ex l (n+1) 8 a b i nt):=by
 have h:=H n (zaV _) m ak;rw[M.Xd];simp only[M.wO,dR,aH,ex];refine AP.elim (R:=AP l) (h.e9 a b i nt hi hn) (λ_=>trivial) (λk op x y fl ks tg j nt hn=> ?_) (λx fl ks j nt hk he=> ?_)
 ·rw[show M.x8 _ _ _ _ _ _ _ _ _=_ from aV rfl];simp only[ah,aH,dR];exact AP.jX hn
 ·have hs:=rF (JM ak ak hi) he;rw[M.x8];refine AC.elim (RU hl (lv:=8) (a:=a) (b:=b) (rec:=M.pU m) ak ak ?_ ?_ ?_ n (λn' hn' i nt hi hn=>(H n' hn' m ak).e9 a b i nt hi hn) x j nt _ ak ak (NG hk)) (by intros;simp only[aH,dR])
  ·intros
   rfl
  ·intro i k op x y ks tg nt hc;have hb:(b && Nat.beq 8 7)=false:=Bool.and_false b;rw[hb] at hc;have hk:aAo (dX l i)=false:=hc;simp only[M.KA,M.yZ,Bool.not_false,aH,dR,eu,ah,aFV,hk,bC]
  ·intro i k op x y ks tg nt hc hlt hn;have hb:(b && Nat.beq 8 7)=false:=Bool.and_false b;rw[hb] at hc;have hk:aAo (dX l i)=true:=hc;simp only[M.KA,M.yZ,Bool.not_false,aH,dR,eu,ah,aFV,hk,M.ni,M.CP];rfl
theorem aSK(a b:Bool)(i:Nat)(nt:fM)(hi:i<=l.length)(hn:nt.length<=i):AP l (M.pU (m+1) a b (aF l) (i:Int) false (encS nt)) (ex l (n+1) 9 a b i nt):=by
 have h:=H n (zaV _) m ak;rw[M.Xc];simp only[M.wM,dR,aH,ex];refine AP.elim (R:=AP l) (h.e10 a b i nt hi hn) (λ_=>trivial) (λk op x y fl ks tg j nt hn=> ?_) (λx fl ks j nt hk he=> ?_)
 ·rw[show M.xZ _ _ _ _ _ _ _ _ _=_ from aV rfl];simp only[ah,aH,dR];exact AP.jX hn
 ·have hs:=rF (JM ak ak hi) he;rw[M.xZ];refine AC.elim (RU hl (lv:=9) (a:=a) (b:=b) (rec:=M.rZ m) ak ak ?_ ?_ ?_ n (λn' hn' i nt hi hn=>(H n' hn' m ak).e10 a b i nt hi hn) x j nt _ ak ak (NG hk)) (by intros;simp only[aH,dR])
  ·intros
   rfl
  ·intro i k op x y ks tg nt hc;have hb:(b && Nat.beq 9 7)=false:=Bool.and_false b;rw[hb] at hc;have hk:(tZ (dX l i)==9)=false:=(aij (lv:=9) rfl).symm.trans hc;simp only[M.Kz,M.yY,Bool.not_false,aH,dR,eu,ah,(RP _).1,hk,bC]
  ·intro i k op x y ks tg nt hc hlt hn;have hb:(b && Nat.beq 9 7)=false:=Bool.and_false b;rw[hb] at hc;have hk:(tZ (dX l i)==9)=true:=(aij (lv:=9) rfl).symm.trans hc;simp only[M.Kz,M.yY,Bool.not_false,aH,dR,eu,ah,(RP _).1,hk,oG hl hlt,M.ni,M.CP];rfl
theorem aIk(a b:Bool)(i:Nat)(nt:fM)(hi:i<=l.length)(hn:nt.length<=i):AP l (M.rZ (m+1) a b (aF l) (i:Int) false (encS nt)) (ex l (n+1) 10 a b i nt):=by
 have h:=H n (zaV _) m ak;rw[M.Xb];simp only[M.wL,dR,aH,ex];refine AP.elim (R:=AP l) (h.e11 a b i nt hi hn) (λ_=>trivial) (λk op x y fl ks tg j nt hn=> ?_) (λx fl ks j nt hk he=> ?_)
 ·rw[show M.xY _ _ _ _ _ _ _ _ _=_ from aV rfl];simp only[ah,aH,dR];exact AP.jX hn
 ·have hs:=rF (JM ak ak hi) he;rw[M.xY];refine AC.elim (RU hl (lv:=10) (a:=a) (b:=b) (rec:=M.kF m) ak ak ?_ ?_ ?_ n (λn' hn' i nt hi hn=>(H n' hn' m ak).e11 a b i nt hi hn) x j nt _ ak ak (NG hk)) (by intros;simp only[aH,dR])
  ·intros
   rfl
  ·intro i k op x y ks tg nt hc;have hb:(b && Nat.beq 10 7)=false:=Bool.and_false b;rw[hb] at hc;have hk:(tZ (dX l i)==10)=false:=(aij (lv:=10) rfl).symm.trans hc;simp only[M.Ky,M.yX,Bool.not_false,aH,dR,eu,ah,(RP _).1,hk,bC]
  ·intro i k op x y ks tg nt hc hlt hn;have hb:(b && Nat.beq 10 7)=false:=Bool.and_false b;rw[hb] at hc;have hk:(tZ (dX l i)==10)=true:=(aij (lv:=10) rfl).symm.trans hc;simp only[M.Ky,M.yX,Bool.not_false,aH,dR,eu,ah,(RP _).1,hk,oG hl hlt,M.ni,M.CP];rfl
theorem aSL(a b:Bool)(i:Nat)(nt:fM)(hi:i<=l.length)(hn:nt.length<=i):AP l (M.kG (m+1) a b (aF l) (i:Int) false (encS nt)) (ex l (n+1) 6 a b i nt):=by
 have h:=H n (zaV _) m ak;rw[M.UY];simp only[M.rU,M.y5,dR,aH,ex];refine AP.elim (R:=AP l) (h.e7 a b i nt hi hn) (λ_=>trivial) (λk op x y fl ks tg j nt hn=> ?_) (λx fl ks j nt hk he=> ?_)
 ·simp only[aH,dR];exact AP.jX hn
 ·have hs:=rF (JM ak ak hi) he;simp only[bC,dR,aH,eu,ah,bne,M.ni,M.CP];have hgo:j<l.length->AP l ((M.nJ m a b (aF l) ((j+1:Nat):Int) false (encS nt)).bind λr=>
    bif aj r.2.2.2.2.2.2.2.2.2.2 then some (12,dX l j,[],[],false,aB [[D.int .i64 x.1.kind,D.int .i64 x.1.op,D.str x.1.text,D.str x.1.other,D.sl false 5 (aB ks)],[D.int .i64 r.1,D.int .i64 r.2.1,D.str r.2.2.1,D.str r.2.2.2.1,D.sl false 5 (aB r.2.2.2.2.2.1)]],false,
     r.2.2.2.2.2.2.2.1,r.2.2.2.2.2.2.2.2.1,r.2.2.2.2.2.2.2.2.2.1,r.2.2.2.2.2.2.2.2.2.2) else none) ((ex l n 7 a b (j+1) nt).bind λy j' nt=> .ok (.mk 12 (dX l j) [] [] [x.1,y.1],false) j' nt):=by
   intro hlt;refine AP.elim (R:=AP l) (h.e7 a b (j+1) nt ak ak) (λ_=>trivial) (λk op x y fl ks tg j nt hn=> ?_) (λy fl' kt j' ZX hk' he'=> ?_)
   ·simp only[aH,dR];exact AP.jX hn
   ·simp only[aH,dR];exact AP.mk rfl rfl rfl rfl (by rw[fz2 (NG hk) (NG hk'),jv];rfl) rfl
  cases hc:dX l j==67 with
  |true=>have hlt:=fK hc (by decide);simp only[zaU,bC,aH,Bool.true_or,oG hl hlt];exact hgo hlt
  |false=>
   cases hc':dX l j==46 with
   |true=>have hlt:=fK hc' (by decide);simp only[zaU,Bool.not_false,bC,aH,Bool.or_true,oG hl hlt];exact hgo hlt
   |false=>simp only[Bool.not_false,bC,aH,Bool.or_false];exact AP.mk rfl rfl rfl rfl (NG hk) rfl
theorem aSM(a b:Bool)(i:Nat)(nt:fM)(hi:i<=l.length)(hn:nt.length<=i):AP l (M.nJ (m+1) a b (aF l) (i:Int) false (encS nt)) (ex l (n+1) 7 a b i nt):=by
 have h:=H n (zaV _) m ak;rw[M.Q8];simp only[M.pF,M.wP,dR,aH,ex];refine AP.elim (R:=AP l) (h.e8 a b i nt hi hn) (λ_=>trivial) (λk op x y fl ks tg j nt hn=> ?_) (λx fl ks j nt hk he=> ?_)
 ·simp only[aH,dR];exact AP.jX hn
 ·have hs:=rF (JM ak ak hi) he;simp only[bC,dR,aH,eu,ah,bne,M.ni,M.CP,(RP _).1];have hgo:j<l.length->AP l ((M.su m a b (aF l) ((j+1:Nat):Int) false (encS nt)).bind λr=>
    bif aj r.2.2.2.2.2.2.2.2.2.2 then some (12,dX l j,[],[],false,aB [[D.int .i64 x.1.kind,D.int .i64 x.1.op,D.str x.1.text,D.str x.1.other,D.sl false 5 (aB ks)],[D.int .i64 r.1,D.int .i64 r.2.1,D.str r.2.2.1,D.str r.2.2.2.1,D.sl false 5 (aB r.2.2.2.2.2.1)]],false,
     r.2.2.2.2.2.2.2.1,r.2.2.2.2.2.2.2.2.1,r.2.2.2.2.2.2.2.2.2.1,r.2.2.2.2.2.2.2.2.2.2) else none) ((ex l n 8 a b (j+1) nt).bind λy j' nt=> .ok (.mk 12 (dX l j) [] [] [x.1,y.1],false) j' nt):=by
   intro hlt;refine AP.elim (R:=AP l) (h.e8 a b (j+1) nt ak ak) (λ_=>trivial) (λk op x y fl ks tg j nt hn=> ?_) (λy fl' kt j' ZX hk' he'=> ?_)
   ·simp only[aH,dR];exact AP.jX hn
   ·simp only[aH,dR];exact AP.mk rfl rfl rfl rfl (by rw[fz2 (NG hk) (NG hk'),jv];rfl) rfl
  have e7:UF 7 b (dX l j)=(tZ (dX l j)==7 && !(b && dX l j==62)):=rfl;rw[e7];cases hc:tZ (dX l j)==7 with
  |false=>simp only[Bool.not_false,bC,aH,Bool.false_and];exact AP.mk rfl rfl rfl rfl (NG hk) rfl
  |true=>
   have hlt:j<l.length:=by
    refine iD λe=> ?_
    rw[e] at hc;exact absurd hc (by decide)
   simp only[zaU,bC,aH,Bool.true_and,oG hl hlt];cases b with
   |false=>simp only[Bool.false_and,Bool.not_false,aH,bC];exact hgo hlt
   |true=>
    simp only[Bool.true_and,aH];cases hc':dX l j==62 with
    |true=>simp only[zaU,bC,aH];exact AP.mk rfl rfl rfl rfl (NG hk) rfl
    |false=>simp only[Bool.not_false,bC,aH];exact hgo hlt
theorem aIl(a b:Bool)(i:Nat)(nt:fM)(hi:i<=l.length)(hn:nt.length<=i):AP l (M.kF (m+1) a b (aF l) (i:Int) false (encS nt)) (ex l (n+1) 11 a b i nt):=by
 have h:=H n (zaV _) m ak;rw[M.UW];simp only[M.rQ,M.yV,M.uP,dR,aH,ex,eu,ah,bC,bne];have hgo:i<l.length->AP l ((M.kF m a b (aF l) ((i+1:Nat):Int) false (encS nt)).bind λr=>
   bif aj r.2.2.2.2.2.2.2.2.2.2 then some (11,dX l i,[],[],true,[[D.int .i64 r.1,D.int .i64 r.2.1,D.str r.2.2.1,D.str r.2.2.2.1,D.sl false 5 (aB r.2.2.2.2.2.1)]],false,
    r.2.2.2.2.2.2.2.1,r.2.2.2.2.2.2.2.2.1,r.2.2.2.2.2.2.2.2.2.1,r.2.2.2.2.2.2.2.2.2.2) else none) ((ex l n 11 a b (i+1) nt).bind λx j nt=> .ok (.mk 11 (dX l i) [] [] [x.1],false) j nt):=by
  intro hlt;refine AP.elim (R:=AP l) (h.e11 a b (i+1) nt ak ak) (λ_=>trivial) (λk op x y fl ks tg j nt hn=> ?_) (λy fl' kt j' ZX hk' he'=> ?_)
  ·simp only[aH,dR];exact AP.jX hn
  ·simp only[aH,dR];exact AP.mk rfl rfl rfl rfl (fz1 (NG hk')) rfl
 cases h5:dX l i==55 with
 |true=>have hlt:=fK h5 (by decide);simp only[zaU,bC,aH,Bool.true_or,oG hl hlt];exact hgo hlt
 |false=>
  cases h6:dX l i==56 with
  |true=>have hlt:=fK h6 (by decide);simp only[zaU,Bool.not_false,bC,aH,Bool.true_or,Bool.or_true,oG hl hlt];exact hgo hlt
  |false=>
   cases h1:dX l i==61 with
   |true=>have hlt:=fK h1 (by decide);simp only[zaU,Bool.not_false,bC,aH,Bool.true_or,Bool.or_true,oG hl hlt];exact hgo hlt
   |false=>simp only[Bool.not_false,bC,aH,Bool.or_false];exact AP.pass (h.e12 a b i nt hi hn) (by intros;simp only[dR,aH])
theorem aIm(a b:Bool)(i:Nat)(nt:fM)(hi:i<=l.length)(hn:nt.length<=i):AP l (M.wS (m+1) a b (aF l) (i:Int) false (encS nt)) (ex l (n+1) 12 a b i nt):=by
 have h:=H n (zaV _) m ak;rw[M.Xa];simp only[M.wJ,dR,aH,ex];refine AP.elim (R:=AP l) (h.e13 a b i nt hi hn) (λ_=>trivial) (λk op x y fl ks tg j nt hn=> ?_) (λx fl ks j nt hk he=> ?_)
 ·simp only[aH,dR];exact AP.jX hn
 ·have hs:=rF (JM ak ak hi) he;simp only[bC,dR,aH,eu,ah,bne,M.ni,M.CP];cases hc:dX l j==60 with
  |false=>simp only[Bool.not_false,aH,bC];exact AP.mk rfl rfl rfl rfl (NG hk) rfl
  |true=>
   have hlt:=fK hc (by decide);simp only[zaU,bC,aH,oG hl hlt];refine AP.elim (R:=AP l) (h.e11 a b (j+1) nt ak ak) (λ_=>trivial) (λk op x y fl ks tg j nt hn=> ?_) (λy fl' kt j' ZX hk' he'=> ?_)
   ·simp only[aH,dR];exact AP.jX hn
   ·simp only[aH,dR];exact AP.mk rfl rfl rfl rfl (by rw[fz2 (NG hk) (NG hk'),jv];rfl) rfl
theorem aIn(a b:Bool)(i:Nat)(nt:fM)(hi:i<=l.length)(hn:nt.length<=i):AP l (M.uG (m+1) (aF l) (i:Int) false (encS nt)) (ex l (n+1) 13 a b i nt):=by
 have h:=H n (zaV _) m ak;rw[M.V6];simp only[M.uD,M.Aa,dR,aH,ex,Bool.not_false,eu,ah,auv];cases hc:isStep (dX l i) with
 |true=>have hlt:=iD (Xk hc);simp only[aH];exact AP.pass (h.pre i nt hlt hn) (by intros;simp only[dR,aH])
 |false=>
  simp only[bC];refine AP.elim (R:=AP l) (h.e14 a b i nt hi hn) (λ_=>trivial) (λk op x y fl ks tg j nt hn=> ?_) (λx fl ks j nt hk he=> ?_)
  ·simp only[aH,dR];exact AP.jX hn
  ·have hs:=rF (JM ak ak hi) he;simp only[bC,dR,aH,eu,ah,auv];cases ht:tgt x with
   |false=>simp only[Bool.not_false,aH,Bool.false_and,bC];exact AP.mk rfl rfl rfl rfl (NG hk) ht.symm
   |true=>
    simp only[zaU,bC,Bool.true_and];cases hc:isStep (dX l j) with
    |false=>simp only[Bool.not_false,aH,bC];exact AP.mk rfl rfl rfl rfl (NG hk) ht.symm
    |true=>have hlt:=iD (Xk hc);simp only[zaU,bC,aH,oG hl hlt];exact AP.mk rfl rfl rfl rfl (fz1 (NG hk)) rfl
theorem aIo(a b:Bool)(i:Nat)(nt:fM)(hi:i<=l.length)(hn:nt.length<=i):AP l (M.nR (m+1) (aF l) (i:Int) false (encS nt)) (ex l (n+1) 14 a b i nt):=by
 have h:=H n (zaV _) m ak;rw[M.UU];simp only[M.rP,M.yT,dR,aH,bC,ex,eu,ah,bne];cases hc:dX l i==68 with
 |false=>simp only[Bool.not_false,aH,bC];exact AP.pass (h.e15 a b i nt hi hn) (by intros;simp only[dR,aH])
 |true=>
  have hlt:=fK hc (by decide);simp only[zaU,bC,aH,oG hl hlt,eu,ah,auv];cases hs:isStep (dX l (i+1)) with
  |true=>
   have hlt':=iD (Xk hs);simp only[aH,dR];refine AP.elim (R:=AP l) (h.pre (i+1) nt hlt' ak) (λ_=>trivial) (λk op x y fl ks tg j nt hn=> ?_) (λy fl' kt j' ZX hk' he'=> ?_)
   ·simp only[aH,dR];exact AP.jX hn
   ·simp only[aH,dR];exact AP.mk rfl rfl rfl rfl (fz1 (NG hk')) rfl
  |false=>
   simp only[bC,aH,dR];refine AP.elim (R:=AP l) (h.e14 a b (i+1) nt ak ak) (λ_=>trivial) (λk op x y fl ks tg j nt hn=> ?_) (λy fl' kt j' ZX hk' he'=> ?_)
   ·simp only[aH,dR];exact AP.jX hn
   ·simp only[aH,dR];exact AP.mk rfl rfl rfl rfl (fz1 (NG hk')) rfl
end
variable {l:List Tk}
def af2{L:List Tn}{x:Tn}{ks:au}(h:aB ks=dO false x.kids):
  dO false L++[[D.int .i64 x.kind,D.int .i64 x.op,D.str x.text,D.str x.other,D.sl false 5 (aB ks)]]=dO false (L++[x]):=by
 rw[AV,h,<-aul];rfl
def itF(u:zax⊕zaK⊕zax):Option TL:=
 kD u (λt=>bif aj t.2.2.2.2 then some (true,t.2.2.2.1,t.1,t.2.1,t.2.2.1,t.2.2.2.2) else none) λu=>
  kD u (λt=>bif aj t.2.2.2 then some (true,t.2.2.1,t.1,t.2.1,true,t.2.2.2) else none) λu=>
  letE u λt=>bif aj t.2.2.2.2 then some (true,t.2.2.2.1,t.1,t.2.1,t.2.2.1,t.2.2.2.2) else none
def ak9(hl:l.length<=1048576){m:Nat}{a b:Bool}:∀n,(∀n',n'<n->∀i nt,i<=l.length->nt.length<=i->AP l (M.iC m a b (aF l) (i:Int) false (encS nt)) (ex l n' 1 a b i nt))->
  ∀L i nt,L.length<6->i<=l.length->nt.length<=i->AL l ((M.uM (M.iC m) a b (aF l,(i:Int),false,dO false L,encS nt)).bind itF) (U1 l n a b L i nt)
 |0,_,_,_,_,_,_,_=>by rw[U1];trivial
 |n+1,hrec,L,i,nt,hL,hi,hn=>by
  have hr:=hrec n (Nat.lt_succ_self n) i nt hi hn;have hs:=(sats l n).ex 1 a b i nt ak ak hi;rw[U1,M.uM];have hb:M.Ie (M.iC m) a b (aF l,(i:Int),false,dO false L,encS nt)=
    (M.iC m a b (aF l) (i:Int) false (encS nt)).bind λDu=>
    (bif((dO false L).length+[[D.int .i64 Du.1,D.int .i64 Du.2.1,D.str Du.2.2.1,D.str Du.2.2.2.1,D.sl false 5 (aB Du.2.2.2.2.2.1)]].length) * 72|>.ble 140737488355328 then
    (bif((dO false L).length+[[D.int .i64 Du.1,D.int .i64 Du.2.1,D.str Du.2.2.1,D.str Du.2.2.2.1,D.sl false 5 (aB Du.2.2.2.2.2.1)]].length).ble 140737488355328 then
     (bif Du.2.2.2.2.2.2.2.2.2.1 then
     (some (.inr (.inl ((Du.2.2.2.2.2.2.2.1,Du.2.2.2.2.2.2.2.2.1,Du.2.2.2.2.2.2.2.2.2.1,dO false L++[[D.int .i64 Du.1,D.int .i64 Du.2.1,D.str Du.2.2.1,D.str Du.2.2.2.1,D.sl false 5 (aB Du.2.2.2.2.2.1)]],Du.2.2.2.2.2.2.2.2.2.2))))) else
     (bif aj Du.2.2.2.2.2.2.2.2.2.2 then
      ((M.aA Du.2.2.2.2.2.2.2.1 Du.2.2.2.2.2.2.2.2.1 Du.2.2.2.2.2.2.2.2.2.1 Du.2.2.2.2.2.2.2.2.2.2).bind λaeI=>
      (bif aeI.1 !=36 then
       (some (.inr (.inl ((aeI.2.1,aeI.2.2.1,aeI.2.2.2.1,dO false L++[[D.int .i64 Du.1,D.int .i64 Du.2.1,D.str Du.2.2.1,D.str Du.2.2.2.1,D.sl false 5 (aB Du.2.2.2.2.2.1)]],aeI.2.2.2.2))))) else
       (bif((dO false L++[[D.int .i64 Du.1,D.int .i64 Du.2.1,D.str Du.2.2.1,D.str Du.2.2.2.1,D.sl false 5 (aB Du.2.2.2.2.2.1)]]).length:Int)==6 then
       (some (.inr (.inr (.inl ((aeI.2.1,aeI.2.2.1,dO false L++[[D.int .i64 Du.1,D.int .i64 Du.2.1,D.str Du.2.2.1,D.str Du.2.2.2.1,D.sl false 5 (aB Du.2.2.2.2.2.1)]],aeI.2.2.2.2)))))) else
       (bif aj aeI.2.2.2.2 then
        ((M.aP aeI.2.1 (i64.wrap (aeI.2.2.1+1)) aeI.2.2.2.1 aeI.2.2.2.2).bind λaEb=>
        (some (.inl ((aEb.1,aEb.2.1,aEb.2.2.1,dO false L++[[D.int .i64 Du.1,D.int .i64 Du.2.1,D.str Du.2.2.1,D.str Du.2.2.2.1,D.sl false 5 (aB Du.2.2.2.2.2.1)]],aEb.2.2.2))))) else none)))) else none)) else none) else none):=by
   simp only[yJ,M.Ie,M.AO,Bool.not_false,aH,dR]
  generalize ex l n 1 a b i nt=p at hr hs|-;cases p with
  |out=>trivial
  |bad j=>obtain⟨k,op,x',y',fl,kt,tg,m',h1,h2⟩:=hr;rw[h2,ah] at hb;simp only[dJ,Jj] at hb;rw[bI ak,aH,bI ak,aH,aH] at hb;rw[aV hb,ah];simp only[itF,kD,dR,aH];exact⟨_,_,_,h1,rfl⟩
  |ok x j m'=>
   obtain⟨fl,kt,h1,h2⟩:=hr;have hs':FE l i nt.length x.1.size j m'.length:=hs;rw[h2,ah] at hb;simp only[af2 h1,dJ,Jj,Ai] at hb;rw[bI ak,aH,bI ak,aH,bC,dR,aH,eu,ah] at hb;simp only[PR.bind];simp only[bne] at hb;cases hc:dX l j==36 with
   |false=>simp only[hc,Bool.not_false,aH] at hb;rw[aV hb,ah];simp only[itF,kD,dR,aH,bC];exact⟨_,rfl⟩
   |true=>
    have hlt:=fK hc (by decide);simp only[hc,zaU,bC,dR,aH,oG hl hlt,RQ hl (j+1) m' ak ak,ah] at hb;rw[aH];cases h6:Nat.beq (L.length+1) 6 with
    |true=>
     have e:=I5 h6;have e':(((L.length+1:Nat):Int)==6)=true:=by rw[e];rfl
     rw[e',aH] at hb;rw[aV hb,ah,aH];simp only[itF,kD,dR,aH];exact⟨_,_,_,ak,rfl⟩
    |false=>
     have e:L.length+1≠6:=Nat.ne_of_beq_eq_false h6;have e':(((L.length+1:Nat):Int)==6)=false:=by rw[Rf];omega
     rw[e',bC] at hb;rw[bY hb,bC];have hf:=O9 (l:=l) (i:=j+1) (nt:=m') ak;exact ak9 hl n (λn' h=>hrec n' ak) (L++[x.1]) _ _ (by rw[Ai,Jj];omega) ak ak
section
variable {n m:Nat} (hl:l.length<=1048576) (H:∀n',n'<=n->∀m',4 * n'+30<=m'->RI l n' m') (hm:4 * (n+1)+30<=m+1)
include hl H hm
theorem aIp(a b:Bool)(i:Nat)(nt:fM)(hi:i<=l.length)(hn:nt.length<=i):AL l (M.lT (m+1) a b (aF l) (i:Int) false (encS nt)) (U1 l (n+1) a b [] i nt):=by rw[M.acs];exact ak9 hl (n+1) (λn' hn' i nt hi hn=>(H n' ak m ak).e1 a b i nt hi hn) [] i nt (by decide) hi hn
theorem a03(i:Nat)(nt:fM)(hi:i<=l.length)(hn:nt.length<=i):AP l (M.y8 m (aF l) (i:Int) false (encS nt)) (bif dX l i==68||dX l i==6 then ex l n 14 false false i nt else .bad i):=by
 obtain⟨m2,rfl⟩:∃m2,m=m2+3:=⟨m - 3,ak⟩
 rw[M.aa7];simp only[M.uN,M.sF,bC,dR,aH,eu,ah];cases h8:dX l i==68 with
 |true=>simp only[aH,Bool.true_or];exact AP.pass ((H n (zaV _) (m2+2) ak).e14 false false i nt hi hn) (by intros;simp only[dR,aH])
 |false=>
  cases h6:dX l i==6 with
  |false=>simp only[bC,Bool.or_self,auw,ah,dR,aH];exact AP.jX ak
  |true=>
   have hlt:=fK h6 (by decide);have e:dX l i=6:=by rwa [beq_iff_eq] at h6
   simp only[aH,bC,Bool.false_or];refine AP.pass ?_ (by intros;simp only[dR,aH]);cases n with
   |zero=>rw[ex];trivial
   |succ n1=>
    have e1:ex l (n1+1) 14 false false i nt=ex l n1 15 false false i nt:=by simp only[ex,h8,bC]
    rw[e1];cases n1 with
    |zero=>rw[ex];trivial
    |succ n2=>
     have h3:(dX l i==3)=false:=by rw[e];rfl
     have h4:(dX l i==4)=false:=by rw[e];rfl
     have h5:(dX l i==5)=false:=by rw[e];rfl
     have e2:ex l (n2+1) 15 false false i nt=aEa l n2 i nt:=by simp only[ex,h3,h4,h5,h6,bC,aH,aEa]
     rw[e2];exact aFW hl (λi nt hi hn=>(H n2 ak m2 ak).its false false i nt hi hn) hlt hn
theorem aIq(i:Nat)(nt:fM)(hi:i<l.length)(hn:nt.length<=i):AP l (M.qG (m+1) (aF l) (i:Int) false (encS nt)) (XB l (n+1) i nt):=by
 rw[M.aa8,XB];simp only[M.uO,dR,aH,eu,ah,oG hl hi];have e:(bif dX l (i+1)==68||dX l (i+1)==6 then(ex l n 14 false false (i+1) nt).bind λx j nt=> .ok (.mk 9 (dX l i) [] [] [x.1],false) j nt else .bad (i+1):PR Xp)=
   (bif dX l (i+1)==68||dX l (i+1)==6 then ex l n 14 false false (i+1) nt else .bad (i+1)).bind λx j nt=> .ok (.mk 9 (dX l i) [] [] [x.1],false) j nt:=by
  cases(dX l (i+1)==68||dX l (i+1)==6)<;>rfl
 rw[e];refine AP.elim (R:=AP l) (a03 hl H hm (i+1) nt ak ak) (λ_=>trivial) (λk op x y fl ks tg j nt hn=> ?_) (λy fl' kt j' ZX hk' he'=> ?_)
 ·simp only[aH,dR];exact AP.jX hn
 ·simp only[aH,dR];exact AP.mk rfl rfl rfl rfl (fz1 (NG hk')) rfl
theorem aAH(kd:Int)(hkd:Pj kd=false)(i:Nat)(nt:fM)(hi:i<l.length)(hn:nt.length<=i):
  AP l ((M.aO 32 (aF l) ((i+1:Nat):Int) false (encS nt)).bind λr=>bif r.1 then(bif aj r.2.2.2.2 then(M.jI m 33 r.2.1 r.2.2.1 r.2.2.2.1 r.2.2.2.2).bind λr'=>bif aj r'.2.2.2.2.2 then some (kd,0,MS l i,[],false,aB r'.2.1,false,r'.2.2.1,r'.2.2.2.1,r'.2.2.2.2.1,r'.2.2.2.2.2) else none else none)
   else(bif aj r.2.2.2.2 then some (kd,0,MS l i,[],true,[],false,r.2.1,r.2.2.1,r.2.2.2.1,r.2.2.2.2) else none))
   ((qL l 32 (i+1) nt).bind λ_ j nt=>(UG l n 33 j nt).bind λL j nt=> .ok (.mk kd 0 (MS l i) [] L,false) j nt):=by
 refine MZ (R:=AP l) hl (by decide) ?_ (λ_ hlt=> ?_)
 ·simp only[dR,aH,bC];exact AP.jX ak
 ·simp only[dR,aH];obtain⟨m2,rfl⟩:∃m2,m=m2+3:=⟨m - 3,ak⟩
  cases n with
  |zero=>rw[UG];trivial
  |succ n1=>
   refine AL.elim (R:=AP l) (aAG hl ((H n1 ak (m2+2) ak).its false false (i+1+1) nt ak ak) ak ak) (λ_=>trivial) (λfl ks j nt hn=> ?_) (λL fl j nt he=> ?_)
   ·simp only[dR,aH];exact AP.jX hn
   ·simp only[dR,aH,jv];exact AP.mk rfl rfl rfl rfl (jv _ _) (by simp only[tgt,Tn.kind,hkd];rfl)
theorem aIr(a b:Bool)(i:Nat)(nt:fM)(hi:i<=l.length)(hn:nt.length<=i):AP l (M.pG (m+1) (aF l) (i:Int) false (encS nt)) (ex l (n+1) 15 a b i nt):=by
 have h:=H n (zaV _) m ak;rw[M.Q7];simp only[M.pz,M.xA,M.wH,dR,aH,bC,ex,eu,ah];cases h3:dX l i==3 with
 |true=>have hlt:=fK h3 (by decide);simp only[aH,MX hl hlt,ah,dR];exact AP.mk rfl rfl rfl rfl rfl rfl
 |false=>
 cases h4:dX l i==4 with
 |true=>have hlt:=fK h4 (by decide);simp only[aH,bC,MX hl hlt,ah,dR];exact AP.mk rfl rfl rfl rfl rfl rfl
 |false=>
 cases h5:dX l i==5 with
 |true=>have hlt:=fK h5 (by decide);simp only[aH,bC,MX hl hlt,ah,dR];exact AP.mk rfl rfl rfl rfl rfl rfl
 |false=>
 cases h6:dX l i==6 with
 |true=>
  have hlt:=fK h6 (by decide);simp only[aH,bC];obtain⟨m2,rfl⟩:∃m2,m=m2+2:=⟨m - 2,ak⟩
  exact AP.pass (aFW hl (λi nt hi hn=>(H n (zaV _) m2 ak).its false false i nt hi hn) hlt hn) (by intros;simp only[dR,aH])
 |false=>
 cases h7:dX l i==7 with
 |true=>
  have hlt:=fK h7 (by decide);have e:dX l i=7:=by rwa [beq_iff_eq] at h7
  have h8:(dX l i==8)=false:=by rw[e];rfl
  simp only[aH,bC,MX hl hlt,ah,dR,h8,Bool.true_or,Bool.false_and];have:=aAH hl H hm 7 rfl i nt hlt hn;rw[e];exact this
 |false=>
 cases h8:dX l i==8 with
 |true=>
  have hlt:=fK h8 (by decide);have e:dX l i=8:=by rwa [beq_iff_eq] at h8
  simp only[aH,bC,MX hl hlt,ah,dR,Bool.or_true,Bool.true_and];have hcall:=aAH hl H hm 8 rfl i nt hlt hn;cases hx:MS l i==[108,101,110,103,116,104] with
  |false=>simp only[bC,Bool.false_and];rw[e];exact hcall
  |true=>
   simp only[aH,Bool.true_and,eu,ah,bne];cases h32:dX l (i+1)==32 with
   |false=>simp only[Bool.not_false,aH,dR];exact AP.mk rfl rfl rfl rfl rfl rfl
   |true=>simp only[zaU,bC,dR,aH];rw[e];exact hcall
 |false=>
 cases h32:dX l i==32 with
 |true=>
  have hlt:=fK h32 (by decide);simp only[aH,bC,oG hl hlt,Bool.or_self];refine AP.elim (R:=AP l) (h.e1 false false (i+1) nt ak ak) (λ_=>trivial) (λk op x y fl ks tg j nt hn=> ?_) (λx fl ks j ZX hk he=> ?_)
  ·simp only[aH,dR,uY,ah];exact AP.jX hn
  ·have hs:=rF (JM ak ak ak) he;simp only[dR,aH];refine MZ (R:=AP l) hl (by decide) ?_ (λ_ hlt=> ?_)
   ·simp only[dR,aH];exact AP.jX ak
   ·simp only[dR,aH];exact AP.mk rfl rfl rfl rfl (NG hk) rfl
 |false=>simp only[bC,Bool.or_self,auw,ah,dR,aH];exact AP.jX ak
end
variable {l:List Tk}
abbrev Q1:=au×au×Int×Bool×Bool×Bool×Int×Int×aC×aC×Bool×Int×Int×aC×aC×Bool×au
abbrev Q2:=au×Int×Bool×Bool×Bool×Int×Int×aC×aC×Bool×Int×Int×aC×aC×au×Bool×au
abbrev Q3:=au×Int×Bool×Bool×Bool×Int×Int×aC×aC×Bool×Int×Int×aC×aC×Bool×au×au
def inF(u:Q1⊕Q2⊕Q3):Option TP:=kD u (λt=>bif aj t.2.2.2.2.2.2.2.2.2.2.2.2.2.2.2.2 then some (t.2.2.2.2.2.2.2.2.2.2.2.1,t.2.2.2.2.2.2.2.2.2.2.2.2.1,t.2.2.2.2.2.2.2.2.2.2.2.2.2.1,t.2.2.2.2.2.2.2.2.2.2.2.2.2.2.1,true,[],t.2.2.2.2.2.2.2.2.2.2.2.2.2.2.2.1,t.2.1,t.2.2.1,t.2.2.2.1,t.2.2.2.2.2.2.2.2.2.2.2.2.2.2.2.2) else none) λu=>kD u (λt=>bif aj t.2.2.2.2.2.2.2.2.2.2.2.2.2.2.2.2 then some (t.2.2.2.2.2.2.2.2.2.2.1,t.2.2.2.2.2.2.2.2.2.2.2.1,t.2.2.2.2.2.2.2.2.2.2.2.2.1,t.2.2.2.2.2.2.2.2.2.2.2.2.2.1,false,t.2.2.2.2.2.2.2.2.2.2.2.2.2.2.1,t.2.2.2.2.2.2.2.2.2.2.2.2.2.2.2.1,t.1,t.2.1,t.2.2.1,t.2.2.2.2.2.2.2.2.2.2.2.2.2.2.2.2) else none) λu=>letE u λt=>bif aj t.2.2.2.2.2.2.2.2.2.2.2.2.2.2.2.1 then some (t.2.2.2.2.2.2.2.2.2.2.1,t.2.2.2.2.2.2.2.2.2.2.2.1,t.2.2.2.2.2.2.2.2.2.2.2.2.1,t.2.2.2.2.2.2.2.2.2.2.2.2.2.1,true,t.2.2.2.2.2.2.2.2.2.2.2.2.2.2.2.2,t.2.2.2.2.2.2.2.2.2.2.2.2.2.2.1,t.1,t.2.1,t.2.2.1,t.2.2.2.2.2.2.2.2.2.2.2.2.2.2.2.1) else none
def q2(a b:Bool)(c:au)(c1:Int)(c2:Bool)(k op:Int)(x y:aC)(ks:au)(tg:Bool)(c3:au):Q2:=(c,c1,c2,a,b,0,0,[],[],false,k,op,x,y,ks,tg,c3)
def q3(a b:Bool)(c:au)(c1:Int)(c2:Bool)(k op:Int)(x y:aC)(ks:au)(tg:Bool)(c3:au):Q3:=(c,c1,c2,a,b,0,0,[],[],false,k,op,x,y,tg,c3,ks)
def aEc(a b:Bool)(c1:Int)(c2:Bool)(k op:Int)(x y:aC)(ks:au)(tg:Bool)(nt:fM):inF (.inr (.inl (q2 a b (aF l) c1 c2 k op x y ks tg (encS nt))))=some (k,op,x,y,false,ks,tg,aF l,c1,c2,encS nt):=by simp only[inF,kD,q2,dR,aH]
def aEd(a b:Bool)(c1:Int)(c2:Bool)(k op:Int)(x y:aC)(ks:au)(tg:Bool)(nt:fM):inF (.inr (.inr (q3 a b (aF l) c1 c2 k op x y ks tg (encS nt))))=some (k,op,x,y,true,ks,tg,aF l,c1,c2,encS nt):=by simp only[inF,kD,letE,q3,dR,aH]
def in3(hl:l.length<=1048576){f:Int->au->Int->Bool->au->Option TL}{g:Bool->Bool->au->Int->Bool->au->Option TP}{a b:Bool}:∀(n:Nat) (x:Xp) (i:Nat) (nt:fM) (ks:au),i<=l.length->nt.length<=i->aB ks=dO false x.1.kids->
  AP l ((M.jh f g (.inr (.inr (q3 a b (aF l) (i:Int) false x.1.kind x.1.op x.1.text x.1.other ks (tgt x) (encS nt))))).bind inF) (inP l n a x i nt)
 |0,_,_,_,_,_,_,_=>by rw[inP];trivial
 |n+1,x,i,nt,ks,hi,hn,hk=>by
  rw[inP,M.jh];cases hc:dX l i==24 with
  |false=>
   have hb:M.iw f g (.inr (.inr (q3 a b (aF l) (i:Int) false x.1.kind x.1.op x.1.text x.1.other ks (tgt x) (encS nt))))=some (.inr (.inr (.inr (q3 a b (aF l) (i:Int) false x.1.kind x.1.op x.1.text x.1.other ks (tgt x) (encS nt))))):=by simp only[M.iw,M.lS,q3,Bool.not_false,aH,bC,dR,eu,ah,hc]
   rw[aV hb,ah,aEd,Bool.false_and,bC];exact AP.mk rfl rfl rfl rfl hk rfl
  |true=>
   cases a with
   |true=>
    have hb:M.iw f g (.inr (.inr (q3 true b (aF l) (i:Int) false x.1.kind x.1.op x.1.text x.1.other ks (tgt x) (encS nt))))=some (.inr (.inr (.inr (q3 true b (aF l) (i:Int) false x.1.kind x.1.op x.1.text x.1.other ks (tgt x) (encS nt))))):=by simp only[M.iw,M.lS,q3,Bool.not_false,zaU,aH,bC,dR,eu,ah,hc]
    rw[aV hb,ah,aEd];simp only[zaU,Bool.and_false,bC];exact AP.mk rfl rfl rfl rfl hk rfl
   |false=>
    have hlt:=fK hc (by decide);have hb:M.iw f g (.inr (.inr (q3 false b (aF l) (i:Int) false x.1.kind x.1.op x.1.text x.1.other ks (tgt x) (encS nt))))=(M.bF (aF l) ((i+1:Nat):Int) false (encS nt)).bind λr=>some (.inl (.inr (.inr (q3 false b r.2.1 r.2.2.1 r.2.2.2.1 13 0 r.1 [] [[D.int .i64 x.1.kind,D.int .i64 x.1.op,D.str x.1.text,D.str x.1.other,D.sl true 5 ks]] false r.2.2.2.2)))):=by simp only[M.iw,M.lS,q3,Bool.not_false,aH,dR,eu,ah,hc,oG hl hlt]
    simp only[Bool.not_false,Bool.and_self,aH];cases h6:dX l (i+1)==6 with
    |false=>
     have hnm:M.bF (aF l) ((i+1:Nat):Int) false (encS nt)=some ([],aF l,((i+1:Nat):Int),true,encS nt):=by simp only[M.bF,M.jf,dR,aH,bC,eu,ah,bne,h6,Bool.not_false]
     rw[hnm,ah] at hb;rw[bY hb,show fV _ _=_ from aV rfl,ah,nameP,h6];exact⟨_,_,_,_,_,_,_,_,(show nt.length<=l.length by omega),aEd (l:=l) _ _ _ _ _ _ _ _ _ _ _⟩
    |true=>
     have h2:=fK h6 (by decide);have hnm:M.bF (aF l) ((i+1:Nat):Int) false (encS nt)=some (MS l (i+1),aF l,((i+1+1:Nat):Int),false,encS nt):=by simp only[M.bF,M.jf,dR,aH,bC,eu,ah,bne,h6,zaU,MX hl h2]
     rw[hnm,ah] at hb;rw[bY hb,nameP,h6];exact in3 hl n (.mk 13 0 (MS l (i+1)) [] [x.1],false) (i+1+1) nt _ ak ak (fz1 hk)
def in2(hl:l.length<=1048576){f:Int->au->Int->Bool->au->Option TL}{g:Bool->Bool->au->Int->Bool->au->Option TP}{a b:Bool}:∀(n:Nat) (x:Xp) (i:Nat) (nt:fM) (ks:au),i<=l.length->nt.length<=i->aB ks=dO false x.1.kids->
  AP l ((M.jh f g (.inr (.inl (q2 a b (aF l) (i:Int) false x.1.kind x.1.op x.1.text x.1.other ks (tgt x) (encS nt))))).bind inF) (inP l n a x i nt)
 |0,_,_,_,_,_,_,_=>by rw[inP];trivial
 |n+1,x,i,nt,ks,hi,hn,hk=>by
  rw[inP,M.jh];cases hc:dX l i==24 with
  |false=>
   have hb:M.iw f g (.inr (.inl (q2 a b (aF l) (i:Int) false x.1.kind x.1.op x.1.text x.1.other ks (tgt x) (encS nt))))=some (.inr (.inr (.inl (q2 a b (aF l) (i:Int) false x.1.kind x.1.op x.1.text x.1.other ks (tgt x) (encS nt))))):=by simp only[M.iw,M.lS,q2,Bool.not_false,aH,bC,dR,eu,ah,hc]
   rw[aV hb,ah,aEc,Bool.false_and,bC];exact AP.mk rfl rfl rfl rfl hk rfl
  |true=>
   cases a with
   |true=>
    have hb:M.iw f g (.inr (.inl (q2 true b (aF l) (i:Int) false x.1.kind x.1.op x.1.text x.1.other ks (tgt x) (encS nt))))=some (.inr (.inr (.inl (q2 true b (aF l) (i:Int) false x.1.kind x.1.op x.1.text x.1.other ks (tgt x) (encS nt))))):=by simp only[M.iw,M.lS,q2,Bool.not_false,zaU,aH,bC,dR,eu,ah,hc]
    rw[aV hb,ah,aEc];simp only[zaU,Bool.and_false,bC];exact AP.mk rfl rfl rfl rfl hk rfl
   |false=>
    have hlt:=fK hc (by decide);have hb:M.iw f g (.inr (.inl (q2 false b (aF l) (i:Int) false x.1.kind x.1.op x.1.text x.1.other ks (tgt x) (encS nt))))=(M.bF (aF l) ((i+1:Nat):Int) false (encS nt)).bind λr=>some (.inl (.inr (.inr (q3 false b r.2.1 r.2.2.1 r.2.2.2.1 13 0 r.1 [] [[D.int .i64 x.1.kind,D.int .i64 x.1.op,D.str x.1.text,D.str x.1.other,D.sl false 5 ks]] false r.2.2.2.2)))):=by simp only[M.iw,M.lS,q2,q3,Bool.not_false,aH,dR,eu,ah,hc,oG hl hlt]
    simp only[Bool.not_false,Bool.and_self,aH];cases h6:dX l (i+1)==6 with
    |false=>
     have hnm:M.bF (aF l) ((i+1:Nat):Int) false (encS nt)=some ([],aF l,((i+1:Nat):Int),true,encS nt):=by simp only[M.bF,M.jf,dR,aH,bC,eu,ah,bne,h6,Bool.not_false]
     rw[hnm,ah] at hb;rw[bY hb,show fV _ _=_ from aV rfl,ah,nameP,h6];exact⟨_,_,_,_,_,_,_,_,(show nt.length<=l.length by omega),aEd (l:=l) _ _ _ _ _ _ _ _ _ _ _⟩
    |true=>
     have h2:=fK h6 (by decide);have hnm:M.bF (aF l) ((i+1:Nat):Int) false (encS nt)=some (MS l (i+1),aF l,((i+1+1:Nat):Int),false,encS nt):=by simp only[M.bF,M.jf,dR,aH,bC,eu,ah,bne,h6,zaU,MX hl h2]
     rw[hnm,ah] at hb;rw[bY hb,nameP,h6];exact in3 hl n (.mk 13 0 (MS l (i+1)) [] [x.1],false) (i+1+1) nt _ ak ak (fz1 hk)
def asq{α:Type}{x:PR α}:x.sat λ_ _ _=>True:=by cases x<;>trivial
def av5{a b:Bool}:∀(n:Nat) (L:List Tn) (i:Nat) (nt:fM),(U1 l n a b L i nt).sat λL' _ _=>L.length<L'.length
 |0,_,_,_=>by rw[U1];trivial
 |n+1,L,i,nt=>by
  rw[U1,fC];refine bK asq λx j m _=> ?_
  rw[eX];refine⟨λ_=> ?_,λ_=> ?_⟩
  ·rw[eX];refine⟨λ_=>trivial,λ_=> ?_⟩;exact bK (av5 n _ _ _) λL' _ _ h=>by rw[Ai,Jj] at h;omega
  ·show L.length<(L++[x.1]).length;rw[Ai,Jj];omega
def aAI{i:Nat}(h32:dX l i=32)(h:ahead (l.drop i) 0=true):(dX l (i+1)==33)=false:=by
 have hlt:i<l.length:=iD (by rw[h32];decide);obtain⟨t,ht⟩:∃t,l[i]? =some t:=⟨l[i],by simp[hlt]⟩
 have e1:t.kind=32:=by rw[dX,ht] at h32;exact h32
 rw[af0 ht,ahead,e1] at h;have h':ahead (l.drop (i+1)) 1=true:=h;cases hk:l[i+1]? with
 |none=>rw[dX,hk];rfl
 |some u=>
  rw[af0 hk,ahead] at h';rw[dX,hk];show(u.kind==33)=false;cases hu:u.kind==33 with
  |false=>rfl
  |true=>
   have e:u.kind=33:=by rwa [beq_iff_eq] at hu
   rw[e] at h';exact absurd (show false=true from h') Bool.false_ne_true
def aAJ{n i:Nat}{nt:fM}(h:(dX l i==33)=false):(UG l n 33 i nt).sat λL _ _=>1<=L.length:=by
 cases n with
 |zero=>rw[UG];trivial
 |succ n=>
  rw[UG,h,bC,fC];refine bK (av5 n [] i nt) λL j m hL=> ?_
  rw[fC,Dh];exact λ_=>hL
section
variable {n m:Nat} (hl:l.length<=1048576) (H:∀n',n'<=n->∀m',4 * n'+30<=m'->RI l n' m') (hm:4 * (n+1)+30<=m+1)
include hl H hm
theorem aEe(a b:Bool)(i:Nat)(nt:fM)(hi:i<=l.length)(hn:nt.length<=i):
  AP l ((M.kG m a b (aF l) (i:Int) false (encS nt)).bind λr=>(M.jh (M.jI m) (M.kG m) (.inr (.inl (q2 a b r.2.2.2.2.2.2.2.1 r.2.2.2.2.2.2.2.2.1 r.2.2.2.2.2.2.2.2.2.1 r.1 r.2.1 r.2.2.1 r.2.2.2.1 (aB r.2.2.2.2.2.1) r.2.2.2.2.2.2.1 r.2.2.2.2.2.2.2.2.2.2)))).bind inF)
   ((ex l n 6 a b i nt).bind λx i nt=>inP l n a x i nt):=by
 have h:=H n (zaV _) m ak;refine AP.elim (R:=AP l) (h.e6 a b i nt hi hn) (λ_=>trivial) (λk op x y fl ks tg j nt hn=> ?_) (λx fl ks j nt hk he=> ?_)
 ·rw[show M.jh _ _ _=_ from aV rfl,ah];exact⟨_,_,_,_,_,_,_,_,hn,aEc (l:=l) _ _ _ _ _ _ _ _ _ _ _⟩
 ·have hs:=rF (JM ak ak hi) he;exact in2 hl n x j nt _ ak ak (NG hk)
theorem aSN(a b:Bool)(i:Nat)(nt:fM)(hi:i<=l.length)(hn:nt.length<=i):AP l (M.uQ (m+1) a b (aF l) (i:Int) false (encS nt)) (ex l (n+1) 5 a b i nt):=by
 have hbare:=aEe hl H hm a b i nt hi hn;rw[M.Yk];simp only[M.x9,M.EI,M.EJ,M.EK,M.wQ,Bool.not_false,dR,aH,ex,eu,ah];cases h32:dX l i==32 with
 |false=>simp only[bC,Bool.false_and];exact hbare
 |true=>
  have hlt:=fK h32 (by decide);have e32:dX l i=32:=by rwa [beq_iff_eq] at h32
  simp only[aH,Bool.true_and];cases a with
  |true=>simp only[zaU,bC,Bool.false_and];exact hbare
  |false=>
   simp only[Bool.not_false,aH,Bool.true_and,dR,aD4 hl i nt hi,ah];cases ha:ahead (l.drop i) 0 with
   |false=>simp only[bC,dR,aH];exact hbare
   |true=>
    simp only[aH,dR,oG hl hlt];have hne:=aAI e32 ha;obtain⟨m2,rfl⟩:∃m2,m=m2+3:=⟨m - 3,ak⟩
    cases n with
    |zero=>rw[UG];trivial
    |succ n1=>
     refine AL.elim (R:=AP l) (aAG hl ((H n1 ak (m2+2) ak).its false false (i+1) nt ak ak) ak ak) (λ_=>trivial) (λfl ks j nt hn=> ?_) (λL fl j ZX he=> ?_)
     ·simp only[zaU,bC];rw[show M.jh _ _ _=_ from aV rfl];simp only[ah,kD,dR,aH];exact AP.jX hn
     ·have hs:=rF ((sats l (n1+1)).lst 33 (i+1) nt (by decide) ak) he;have hlong:=rF (aAJ (n:=n1+1) (nt:=nt) hne) he;simp only[Bool.not_false,aH,dR,eu,ah,bne,jv];rw[qL];cases h24:dX l j==24 with
      |false=>simp only[Bool.not_false,aH,dR,auw,ah,bC];exact AP.jX ak
      |true=>
       have hlt':=fK h24 (by decide);simp only[zaU,bC,aH];have hb:M.iw (M.jI (m2+3)) (M.kG (m2+3)) (.inl (dO false L,false,aF l,(j:Int),false,false,b,0,0,[],[],false,0,0,[],[],false,encS ZX))=(M.bF (aF l) ((j+1:Nat):Int) false (encS ZX)).bind λr=>some (.inl (.inr (.inl (q2 false b r.2.1 r.2.2.1 r.2.2.2.1 13 0 r.1 [] (dO false L) false r.2.2.2.2)))):=by simp only[M.iw,M.lS,q2,Bool.not_false,aH,dR,eu,ah,h24,oG hl hlt',dJ];rw[bI hlong,aH]
       show AP l ((M.jh (M.jI (m2+3)) (M.kG (m2+3)) (.inl (dO false L,false,aF l,(j:Int),false,false,b,0,0,[],[],false,0,0,[],[],false,encS ZX))).bind inF) ((nameP l (j+1) ZX).bind λs i nt=>inP l (n1+1) false (Tn.mk 13 0 s [] L,false) i nt);rw[M.jh];cases h6:dX l (j+1)==6 with
       |false=>
        have hnm:M.bF (aF l) ((j+1:Nat):Int) false (encS ZX)=some ([],aF l,((j+1:Nat):Int),true,encS ZX):=by simp only[M.bF,M.jf,dR,aH,bC,eu,ah,bne,h6,Bool.not_false]
        rw[hnm,ah] at hb;rw[bY hb,show fV _ _=_ from aV rfl,ah,nameP,h6];exact⟨_,_,_,_,_,_,_,_,(show ZX.length<=l.length by omega),aEc (l:=l) _ _ _ _ _ _ _ _ _ _ _⟩
       |true=>
        have h2:=fK h6 (by decide);have hnm:M.bF (aF l) ((j+1:Nat):Int) false (encS ZX)=some (MS l (j+1),aF l,((j+1+1:Nat):Int),false,encS ZX):=by simp only[M.bF,M.jf,dR,aH,bC,eu,ah,bne,h6,zaU,MX hl h2]
        rw[hnm,ah] at hb;rw[bY hb,nameP,h6];exact in2 hl (n1+1) (.mk 13 0 (MS l (j+1)) [] L,false) (j+1+1) ZX _ ak ak (jv _ _)
end
def ri(hl:l.length<=1048576):∀N n,n<=N->∀m,4 * n+30<=m->RI l n m:=by
 intro N;induction N with
 |zero=>intro n hn m hm;obtain rfl:n=0:=ak;exact⟨λ_ _ _ _ _ _=>by rw[ex];trivial,λ_ _ _ _ _ _=>by rw[ex];trivial,λ_ _ _ _ _ _=>by rw[ex];trivial,λ_ _ _ _ _ _=>by rw[ex];trivial,λ_ _ _ _ _ _=>by rw[ex];trivial,λ_ _ _ _ _ _=>by rw[ex];trivial,λ_ _ _ _ _ _=>by rw[ex];trivial,λ_ _ _ _ _ _=>by rw[ex];trivial,λ_ _ _ _ _ _=>by rw[ex];trivial,λ_ _ _ _ _ _=>by rw[ex];trivial,λ_ _ _ _ _ _=>by rw[ex];trivial,λ_ _ _ _ _ _=>by rw[ex];trivial,λ_ _ _ _ _ _=>by rw[ex];trivial,λ_ _ _ _ _ _=>by rw[ex];trivial,λ_ _ _ _ _ _=>by rw[ex];trivial,λ_ _ _ _=>by rw[XB];trivial,λ_ _ _ _ _ _=>by rw[U1];trivial⟩
 |succ N ih=>
  intro n hn m hm;cases n with
  |zero=>exact ih 0 ak m hm
  |succ n=>
   cases m with
   |zero=>omega
   |succ m=>
    have H:∀n',n'<=n->∀m',4 * n'+30<=m'->RI l n' m':=λn' h=>ih n' ak
    exact⟨aSF hl H hm,aSG hl H hm,aSH hl H hm,aSI hl H hm,aSN hl H hm,aSL hl H hm,aSM hl H hm,aSJ hl H hm,aSK hl H hm,aIk hl H hm,aIl hl H hm,aIm hl H hm,aIn hl H hm,aIo hl H hm,aIr hl H hm,aIq hl H hm,aIp hl H hm⟩
def RI.of(hl:l.length<=1048576)(n:Nat){m:Nat}(hm:4 * n+30<=m):RI l n m:=ri hl n n (zaV _) m hm
variable {l:List Tk}
def AT.Dt{β:Type}{o:Option TT}{j:Nat}(h:AT l o (.bad j)){f:TT->Option β}{R:Option β->Prop}
  (hb:∀k op x y fl ks nt,nt.length<=l.length->R (f (k,op,x,y,fl,ks,aF l,(j:Int),true,encS nt))):R (o.bind f):=by
 obtain⟨k,op,x,y,fl,ks,nt,h1,rfl⟩:=h;exact hb k op x y fl ks nt h1
def AT.jX{k op:Int}{x y:aC}{fl:Bool}{ks:au}{j:Nat}{nt:fM}(hn:nt.length<=l.length):AT l (some (k,op,x,y,fl,ks,aF l,(j:Int),true,encS nt)) (.bad j):=⟨_,_,_,_,_,_,_,hn,rfl⟩
def AT.mk{x:Tn}{k op:Int}{s s':aC}{fl:Bool}{ks:au}{j:Nat}{nt:fM}(h1:k=x.kind)(h2:op=x.op)(h3:s=x.text)(h4:s'=x.other)(h5:aB ks=dO false x.kids):
  AT l (some (k,op,s,s',fl,ks,aF l,(j:Int),false,encS nt)) (.ok x j nt):=by
 subst h1 h2 h3 h4;exact⟨_,_,h5,rfl⟩
def AL.Dt{β:Type}{o:Option TL}{j:Nat}(h:AL l o (.bad j)){f:TL->Option β}{R:Option β->Prop}
  (hb:∀fl ks nt,nt.length<=l.length->R (f (fl,ks,aF l,(j:Int),true,encS nt))):R (o.bind f):=by
 obtain⟨fl,ks,nt,h1,rfl⟩:=h;exact hb fl ks nt h1
def AP.lim{o o':Option TP}{p:PR Xp}(h:AP l o p)(hof:∀r,o=some r->o'=some r):AP l o' p:=by
 cases p with
 |ok x j nt=>obtain⟨fl,ks,h1,h2⟩:=h;exact⟨fl,ks,h1,hof _ h2⟩
 |bad j=>obtain⟨k,op,x,y,fl,ks,tg,nt,h1,h2⟩:=h;exact⟨k,op,x,y,fl,ks,tg,nt,h1,hof _ h2⟩
 |out=>trivial
def AT.lim{o o':Option TT}{p:PR Tn}(h:AT l o p)(hof:∀r,o=some r->o'=some r):AT l o' p:=by
 cases p with
 |ok x j nt=>obtain⟨fl,ks,h1,h2⟩:=h;exact⟨fl,ks,h1,hof _ h2⟩
 |bad j=>obtain⟨k,op,x,y,fl,ks,nt,h1,h2⟩:=h;exact⟨k,op,x,y,fl,ks,nt,h1,hof _ h2⟩
 |out=>trivial
def AL.lim{o o':Option TL}{p:PR (List Tn)}(h:AL l o p)(hof:∀r,o=some r->o'=some r):AL l o' p:=by
 cases p with
 |ok x j nt=>obtain⟨fl,h2⟩:=h;exact⟨fl,hof _ h2⟩
 |bad j=>obtain⟨fl,ks,nt,h1,h2⟩:=h;exact⟨fl,ks,nt,h1,hof _ h2⟩
 |out=>trivial
section
variable (hl:l.length<=1048576)
include hl
theorem ala(n:Nat)(a b:Bool){i:Nat}{nt:fM}(hi:i<=l.length)(hn:nt.length<=i):AP l (M.bP a b (aF l) (i:Int) false (encS nt)) (ex l n 1 a b i nt):=
 AP.lim ((RI.of hl n (zaV _)).e1 a b i nt hi hn) λr h=>M.Q9 h
theorem aSO(n:Nat)(a b:Bool){i:Nat}{nt:fM}(hi:i<=l.length)(hn:nt.length<=i):AP l (M.jU a b (aF l) (i:Int) false (encS nt)) (ex l n 9 a b i nt):=
 AP.lim ((RI.of hl n (zaV _)).e9 a b i nt hi hn) λr h=>M.aeR h
theorem aSP(n:Nat)(a b:Bool){i:Nat}{nt:fM}(hi:i<=l.length)(hn:nt.length<=i):AL l (M.je a b (aF l) (i:Int) false (encS nt)) (U1 l n a b [] i nt):=
 AL.lim ((RI.of hl n (zaV _)).its a b i nt hi hn) λr h=>M.aa9 h
theorem aIs(n:Nat){i:Nat}{nt:fM}(hi:i<=l.length)(hn:nt.length<=i):AL l (M.jm 35 (aF l) (i:Int) false (encS nt)) ((U1 l n false false [] i nt).bind λL i nt=>(qL l 35 i nt).bind λ_ i nt=> .ok L i nt):=
 AL.lim (aAF hl ((RI.of hl n (zaV _)).its false false i nt hi hn) hi hn) λr h=>M.acu h
end
def aAK(a b:Bool){i:Nat}{nt:fM}(hn:nt.length<=l.length):AP l (M.bP a b (aF l) (i:Int) true (encS nt)) (.bad i):=
 AP.lim (auz 0 hn) λr h=>M.Q9 h
def aIt(b:Bool)(c:au)(c1:Int)(c3:au)(hf:aj c3=true):M.kR 9 false false false false c c1 b c3=(M.jU false false c c1 b c3).bind λr=>bif aj r.2.2.2.2.2.2.2.2.2.2 then some (r.1,r.2.1,r.2.2.1,r.2.2.2.1,false,aB r.2.2.2.2.2.1,r.2.2.2.2.2.2.1,r.2.2.2.2.2.2.2.1,r.2.2.2.2.2.2.2.2.1,r.2.2.2.2.2.2.2.2.2.1,r.2.2.2.2.2.2.2.2.2.2) else none:=by simp only[M.kR,M.FX,M.aX,bC,hf,aH];rfl
def av6(hl:l.length<=1048576)(n:Nat){i:Nat}{nt:fM}(hi:i<=l.length)(hn:nt.length<=i):AP l (M.kR 9 false false false false (aF l) (i:Int) false (encS nt)) (ex l n 9 false false i nt):=by rw[aIt _ _ _ _ (dR nt)];exact AP.pass (aSO hl n false false hi hn) (by intros;simp only[dR,aH])
def auA(i:Nat)(nt:fM):M.jo (aF l) (i:Int) false (encS nt)=some (aF l,(i:Int), !(U2 (dX l i)),encS nt):=by simp only[M.jo,M.Ik,dR,aH,eu,ah,apj];cases U2 (dX l i)<;>rfl
def aAL{k op:Int}{s s':aC}{fl:Bool}{ks:au}{x:Tn}{j:Nat}{nt:fM}(h1:k=x.kind)(h2:op=x.op)(h3:s=x.text)(h4:s'=x.other)(h5:aB ks=dO false x.kids)(hn:nt.length<=l.length):
  AT l (some (k,op,s,s',fl,ks,aF l,(j:Int), !(U2 (dX l j)),encS nt)) (endP l x j nt):=by
 rw[endP];cases U2 (dX l j) with
 |true=>exact AT.mk h1 h2 h3 h4 h5
 |false=>exact AT.jX hn
def aAM{i:Nat}{nt:fM}(hn:nt.length<=l.length):AT l (M.iE (aF l) (i:Int) true (encS nt)) (.bad i):=by
 simp only[M.iE,M.uS,dR,aH,uY,ah];refine AP.Dt (R:=λo=>AT l o (.bad i)) (aAK false false hn) λk op x y fl ks tg nt hn=> ?_
 simp only[dR,aH,uY,ah];exact AT.jX hn
def auB(hl:l.length<=1048576)(n:Nat){i:Nat}{nt:fM}(hi:i<=l.length)(hn:nt.length<=i):AT l (M.iE (aF l) (i:Int) false (encS nt)) (Xi l n i nt):=by
 simp only[M.iE,M.uS,dR,aH,Xi];refine MZ (R:=AT l) hl (by decide) ?_ (λ_ hlt=> ?_)
 ·simp only[dR,aH];refine AP.Dt (R:=λo=>AT l o (.bad i)) (aAK false false ak) λk op x y fl ks tg nt hn=> ?_
  simp only[dR,aH,uY,ah];exact AT.jX hn
 ·simp only[dR,aH];refine AP.elim (R:=AT l) (ala hl n false false ak ak) (λ_=>trivial) (λk op x y fl ks tg j nt hn=> ?_) (λx fl ks j nt hk he=> ?_)
  ·simp only[aH,dR,uY,ah];exact AT.jX hn
  ·have hs:=rF (JM ak ak ak) he;simp only[dR,aH];refine MZ (R:=AT l) hl (by decide) ?_ (λ_ hlt=> ?_)
   ·simp only[dR,aH];exact AT.jX ak
   ·simp only[dR,aH];exact AT.mk rfl rfl rfl rfl (NG hk)
def Vp(e:Int)(a b:Bool){i:Nat}{nt:fM}(hn:nt.length<=l.length):AT l (M.fE e a b (aF l) (i:Int) true (encS nt)) (.bad i):=by
 simp only[M.fE,M.Ad,dR,aH,eu,ah];cases dX l i==e with
 |true=>exact AT.jX hn
 |false=>
  simp only[bC];refine AP.Dt (R:=λo=>AT l o (.bad i)) (aAK a b hn) λk op x y fl ks tg nt hn=> ?_
  simp only[dR,aH];exact AT.jX hn
def apk(hl:l.length<=1048576)(n:Nat)(e:Int)(a:Bool){i:Nat}{nt:fM}(hi:i<=l.length)(hn:nt.length<=i):AT l (M.fE e a false (aF l) (i:Int) false (encS nt)) (MV l n e a i nt):=by
 simp only[M.fE,M.Ad,dR,aH,eu,ah,MV];cases dX l i==e with
 |true=>exact AT.mk rfl rfl rfl rfl rfl
 |false=>
  simp only[bC];refine AP.elim (R:=AT l) (ala hl n a false hi hn) (λ_=>trivial) (λk op x y fl ks tg j nt hn=> ?_) (λx fl ks j nt hk he=> ?_)
  ·simp only[dR,aH];exact AT.jX hn
  ·simp only[dR,aH];exact AT.mk rfl rfl rfl rfl (NG hk)
def av7{i:Nat}(h:dX l i=0\/dX l i=31)(nt:fM):∀lv,1<=lv->lv<=15->∀n a b,16 - lv<=n->ex l n lv a b i nt=.bad i:=by
 have hz:∀k:Int,k≠0->k≠31->(dX l i==k)=false:=λk h0 h1=>by rw[Rf];rcases h with h|h<;>rw[h]<;>omega
 have hst:isStep (dX l i)=false:=by simp only[isStep,hz 51 (by decide) (by decide),hz 52 (by decide) (by decide),Bool.or_self]
 have:∀d lv,15 - lv=d->1<=lv->lv<=15->∀n a b,16 - lv<=n->ex l n lv a b i nt=.bad i:=by
  intro d;induction d with
  |zero=>
   intro lv hd h1 h2 n a b hn;obtain rfl:lv=15:=ak;obtain⟨n,rfl⟩:∃m,n=m+1:=⟨n - 1,ak⟩
   simp only[ex,hz 3 (by decide) (by decide),hz 4 (by decide) (by decide),hz 5 (by decide) (by decide),hz 6 (by decide) (by decide),hz 7 (by decide) (by decide),hz 8 (by decide) (by decide),hz 32 (by decide) (by decide),bC,Bool.or_self]
  |succ d ih=>
   intro lv hd h1 h2 n a b hn;obtain⟨n,rfl⟩:∃m,n=m+1:=⟨n - 1,ak⟩
   have hr:=ih (lv+1) ak ak ak n a b ak;have hc:lv=1\/lv=2\/lv=3\/lv=4\/lv=5\/lv=6\/lv=7\/lv=8\/lv=9\/lv=10\/lv=11\/lv=12\/lv=13\/lv=14:=ak;rcases hc with rfl|rfl|rfl|rfl|rfl|rfl|rfl|rfl|rfl|rfl|rfl|rfl|rfl|rfl<;>simp only[ex]<;>
    simp only[hz 32 (by decide) (by decide),hz 55 (by decide) (by decide),hz 56 (by decide) (by decide),hz 61 (by decide) (by decide),hz 68 (by decide) (by decide),hst,Bool.false_and,Bool.or_self,bC,hr]<;>rfl
 exact λlv=>this _ lv rfl
variable {l:List Tk}
section
variable (hl:l.length<=1048576) (n:Nat) {i:Nat} {nt:fM} (hi:i<l.length) (hn:nt.length<=i)
include hl hi hn
theorem aAN(k:Int):AT l (bif !(U2 (dX l (i+1))) then(M.bP false false (aF l) ((i+1:Nat):Int) false (encS nt)).bind λr=>bif aj r.2.2.2.2.2.2.2.2.2.2 then
   some (k,0,[],[],true,[[D.int .i64 r.1,D.int .i64 r.2.1,D.str r.2.2.1,D.str r.2.2.2.1,D.sl false 5 (aB r.2.2.2.2.2.1)]],r.2.2.2.2.2.2.2.1,r.2.2.2.2.2.2.2.2.1,r.2.2.2.2.2.2.2.2.2.1,r.2.2.2.2.2.2.2.2.2.2) else none
  else some (k,0,[],[],true,[],aF l,((i+1:Nat):Int),false,encS nt)) (ZH l n k i nt):=by
 rw[ZH];cases U2 (dX l (i+1)) with
 |true=>exact AT.mk rfl rfl rfl rfl rfl
 |false=>
  simp only[Bool.not_false,aH,bC];refine AP.elim (R:=AT l) (ala hl n false false ak ak) (λ_=>trivial) (λk op x y fl ks tg j nt hn=> ?_) (λx fl ks j nt hk he=> ?_)
  ·simp only[dR,aH];exact AT.jX hn
  ·simp only[dR,aH];exact AT.mk rfl rfl rfl rfl (fz1 (NG hk))
theorem aSQ:AT l ((M.bF (aF l) ((i+1:Nat):Int) false (encS nt)).bind λaf4=>
  bif !af4.2.2.2.1 then
   (bif aj af4.2.2.2.2 then
   ((M.aA af4.2.1 af4.2.2.1 af4.2.2.2.1 af4.2.2.2.2).bind λalb=>
    (bif alb.1==34 then
    (bif aj alb.2.2.2.2 then
     ((M.jm 35 alb.2.1 (i64.wrap (alb.2.2.1+1)) alb.2.2.2.1 alb.2.2.2.2).bind λaxN=>
     (bif aj axN.2.2.2.2.2 then
      some (27,0,af4.1,[],false,aB axN.2.1,axN.2.2.1,axN.2.2.2.1,axN.2.2.2.2.1,axN.2.2.2.2.2) else none)) else none) else
    (bif aj alb.2.2.2.2 then
     some (27,0,af4.1,[],true,[],alb.2.1,alb.2.2.1,alb.2.2.2.1,alb.2.2.2.2) else none))) else none) else
   (bif aj af4.2.2.2.2 then
   some (27,0,af4.1,[],true,[],af4.2.1,af4.2.2.1,af4.2.2.2.1,af4.2.2.2.2) else none)) (ak3 l n i nt):=by
 rw[ak3];refine aAA (R:=AT l) hl ?_ (λ_ hlt=> ?_)
 ·simp only[zaU,bC,dR,aH];exact AT.jX ak
 ·simp only[Bool.not_false,aH,dR,eu,ah];cases hc:dX l (i+1+1)==34 with
  |false=>exact AT.mk rfl rfl rfl rfl rfl
  |true=>
   have hlt':=fK hc (by decide);simp only[aH,oG hl hlt'];have e:(U1 l n false false [] (i+1+1+1) nt).bind (λL i_1 nt=>(qL l 35 i_1 nt).bind λ_ i_2 nt=>PR.ok (Tn.mk 27 0 (MS l (i+1)) [] L) i_2 nt)=
     ((U1 l n false false [] (i+1+1+1) nt).bind λL i nt=>(qL l 35 i nt).bind λ_ i nt=> .ok L i nt).bind λL j nt=> .ok (Tn.mk 27 0 (MS l (i+1)) [] L) j nt:=by
    cases U1 l n false false [] (i+1+1+1) nt with
    |ok L j m=>simp only[PR.bind];cases qL l 35 j m<;>rfl
    |bad j=>rfl
    |out=>rfl
   rw[e];refine AL.elim (R:=AT l) (aIs hl n ak ak) (λ_=>trivial) (λfl ks j nt hn=> ?_) (λL fl j nt he=> ?_)
   ·simp only[dR,aH];exact AT.jX hn
   ·simp only[dR,aH,jv];exact AT.mk rfl rfl rfl rfl (jv _ _)
end
def aSR(hl:l.length<=1048576)(n:Nat){i:Nat}{nt:fM}(hi:i<=l.length)(hn:nt.length<=i)
  (hp:∀k,k=dX l i->(k=25\/k=26)->AT l (M.oq k (aF l) ((i+1:Nat):Int) false (encS nt)) (ahi l n i nt)):
  AT l (M.mW (aF l) (i:Int) false (encS nt)) (ak4 l n i nt):=by
 simp only[M.mW,M.zh,M.xC,M.xE,M.xF,M.xG,M.xH,M.xI,dR,aH,eu,ah,ak4];cases h25:dX l i==25 with
 |true=>
  have hlt:=fK h25 (by decide);have e:dX l i=25:=by rwa [beq_iff_eq] at h25
  simp only[aH,Bool.true_or,oG hl hlt];exact AT.pass (hp _ rfl (.inl e)) (by intros;simp only[dR,aH])
 |false=>
 cases h26:dX l i==26 with
 |true=>
  have hlt:=fK h26 (by decide);have e:dX l i=26:=by rwa [beq_iff_eq] at h26
  simp only[aH,bC,Bool.or_true,oG hl hlt];exact AT.pass (hp _ rfl (.inr e)) (by intros;simp only[dR,aH])
 |false=>
 simp only[bC,Bool.or_self];cases h20:dX l i==20 with
 |true=>
  have hlt:=fK h20 (by decide);have e:dX l i=20:=by rwa [beq_iff_eq] at h20
  have n1:(dX l i==21)=false:=by rw[e];rfl
  have n2:(dX l i==22)=false:=by rw[e];rfl
  simp only[n1,n2,aH,bC,oG hl hlt];exact AT.mk rfl rfl rfl rfl rfl
 |false=>
 cases h18:dX l i==18 with
 |true=>
  have hlt:=fK h18 (by decide);have e:dX l i=18:=by rwa [beq_iff_eq] at h18
  have n1:(dX l i==21)=false:=by rw[e];rfl
  have n2:(dX l i==22)=false:=by rw[e];rfl
  simp only[n1,n2,aH,bC,oG hl hlt];exact AT.mk rfl rfl rfl rfl rfl
 |false=>
 cases h19:dX l i==19 with
 |true=>
  have hlt:=fK h19 (by decide);have e:dX l i=19:=by rwa [beq_iff_eq] at h19
  have n1:(dX l i==21)=false:=by rw[e];rfl
  have n2:(dX l i==22)=false:=by rw[e];rfl
  simp only[n1,n2,aH,bC,oG hl hlt];exact AT.mk rfl rfl rfl rfl rfl
 |false=>
 cases h21:dX l i==21 with
 |true=>have hlt:=fK h21 (by decide);simp only[aH,bC,oG hl hlt,eu,ah,apj,dR];exact aAN hl n hlt hn 23
 |false=>
 cases h22:dX l i==22 with
 |true=>have hlt:=fK h22 (by decide);simp only[aH,bC,oG hl hlt,eu,ah,apj,dR];exact aAN hl n hlt hn 24
 |false=>
 cases h23:dX l i==23 with
 |true=>have hlt:=fK h23 (by decide);simp only[aH,bC,oG hl hlt];exact aSQ hl n hlt hn
 |false=>
  simp only[bC];refine AP.elim (R:=AT l) (ala hl n false false hi hn) (λ_=>trivial) (λk op x y fl ks tg j nt hn=> ?_) (λx fl ks j nt hk he=> ?_)
  ·simp only[dR,aH];exact AT.jX hn
  ·simp only[dR,aH];exact AT.mk rfl rfl rfl rfl (fz1 (NG hk))
variable {l:List Tk}
def ALt(l:List Tk)(o:Option TL):PR (List Tn)->Prop
 | .ok L j nt=>o=some (true,dO false L,aF l,(j:Int),false,encS nt)
 | .bad j=>∃ks nt,nt.length<=l.length/\o=some (true,ks,aF l,(j:Int),true,encS nt)
 | .out=>True
def AL.own{o:Option TL}{p:PR (List Tn)}(h:AL l o p)(ho:∀r,o=some r->r.1=true):ALt l o p:=by
 cases p with
 |ok L j nt=>obtain⟨fl,e⟩:=h;have:=ho _ e;simp only at this;subst this;exact e
 |bad j=>obtain⟨fl,ks,nt,h1,e⟩:=h;have:=ho _ e;simp only at this;subst this;exact⟨ks,nt,h1,e⟩
 |out=>trivial
def ALt.elim{β γ:Type}{R:Option β->PR γ->Prop}{o:Option TL}{p:PR (List Tn)}(h:ALt l o p){f:TL->Option β}{g:List Tn->Nat->fM->PR γ}(hout:∀o,R o .out)
  (hbad:∀ks j nt,nt.length<=l.length->R (f (true,ks,aF l,((j:Nat):Int),true,encS nt)) (.bad j))
  (hok:∀L j nt,p=.ok L j nt->R (f (true,dO false L,aF l,(j:Int),false,encS nt)) (g L j nt)):R (o.bind f) (p.bind g):=by
 cases p with
 |ok L j nt=>have h':o=_:=h;rw[h',ah];exact hok L j nt rfl
 |bad j=>obtain⟨ks,nt,h1,rfl⟩:=h;exact hbad ks j nt h1
 |out=>exact hout _
def aEf{b:Bool}{x r:TL}(hx:x.1=true)(h:(bif b then some x else none)=some r):r.1=true:=by
 cases b with
 |true=>cases h;exact hx
 |false=>cases h
def axO{rec:Bool->Bool->au->Int->Bool->au->Option TP}{a b:Bool}{c:au}{c1:Int}{c2:Bool}{c3:au}{r:TL}(h:M.rO rec a b c c1 c2 c3 some=some r):r.1=true:=by
 simp only[M.rO] at h;cases hu:M.uM rec a b (c,c1,c2,[],c3) with
 |none=>rw[hu] at h;cases h
 |some u=>rw[hu,ah] at h;rcases u with t|t|t<;>simp only[kD,letE] at h<;>exact aEf rfl h
def aEg{a b:Bool}{c:au}{c1:Int}{c2:Bool}{c3:au}{r:TL}(h:M.je a b c c1 c2 c3=some r):r.1=true:=by
 obtain⟨n,hn⟩:=VJ h;cases n with
 |zero=>cases hn
 |succ n=>exact axO hn
def aFX(hl:l.length<=1048576)(n:Nat)(a b:Bool){i:Nat}{nt:fM}(hi:i<=l.length)(hn:nt.length<=i):ALt l (M.je a b (aF l) (i:Int) false (encS nt)) (U1 l n a b [] i nt):=
 (aSP hl n a b hi hn).own λr h=>aEg h
def cOw(rows:au):ayl 5 [D.sl true 5 rows] 0=some rows:=rfl
def alc{a b:Bool}:∀(n:Nat) (L:List Tn) (i:Nat) (nt:fM),L.length<6->(U1 l n a b L i nt).sat λL' _ _=>L'.length<=6
 |0,_,_,_,_=>by rw[U1];trivial
 |n+1,L,i,nt,hL=>by
  rw[U1,fC];refine bK asq λx j m _=> ?_
  rw[eX];refine⟨λ_=> ?_,λ_=> ?_⟩
  ·rw[eX];refine⟨λ_=>trivial,λh=> ?_⟩;have:=Nat.ne_of_beq_eq_false h;exact alc n _ _ _ (by rw[Ai,Jj];omega)
  ·show(L++[x.1]).length<=6;rw[Ai,Jj];omega
section
variable (hl:l.length<=1048576) (n:Nat) (kd:Int)
include hl
theorem asr{L:List Tn}{j:Nat}{nt:fM}(hj:j<=l.length)(hn:nt.length<=j)(hL:L.length<=6):
  AT l (bif Jh (dX l j) then(M.fF (aF l) (j:Int) false (encS nt)).bind λahk=>
       (bif aj ahk.2.2.2.2 then
       ((M.kR 9 false false false false ahk.2.1 ahk.2.2.1 ahk.2.2.2.1 ahk.2.2.2.2).bind λML=>
        (bif(((dO false L).length+[[D.int .i64 ML.1,D.int .i64 ML.2.1,D.str ML.2.2.1,D.str ML.2.2.2.1,D.sl false 5 (aB ML.2.2.2.2.2.1)]].length) * 72).ble 140737488355328 then
        (bif((dO false L).length+[[D.int .i64 ML.1,D.int .i64 ML.2.1,D.str ML.2.2.1,D.str ML.2.2.2.1,D.sl false 5 (aB ML.2.2.2.2.2.1)]].length).ble 140737488355328 then
         (bif aj ML.2.2.2.2.2.2.2.2.2.2 then
         some (21,kd,[],ahk.1,true,dO false L++[[D.int .i64 ML.1,D.int .i64 ML.2.1,D.str ML.2.2.1,D.str ML.2.2.2.1,D.sl false 5 (aB ML.2.2.2.2.2.1)]],ML.2.2.2.2.2.2.2.1,ML.2.2.2.2.2.2.2.2.1,ML.2.2.2.2.2.2.2.2.2.1,ML.2.2.2.2.2.2.2.2.2.2) else none) else none) else none)) else none)
    else some (21,kd,[],[],true,dO false L,aF l,(j:Int),false,encS nt))
   (bif Jh (dX l j) then(ex l n 9 false false (j+1) nt).bind λx k nt=> .ok (.mk 21 kd [] (MS l j) (L++[x.1])) k nt else .ok (.mk 21 kd [] [] L) j nt):=by
 cases hs:Jh (dX l j) with
 |false=>exact AT.mk rfl rfl rfl rfl (jv _ _)
 |true=>
  have hlt:=iD (ak6 hs);simp only[aH,MX hl hlt,ah,dR];refine AP.elim (R:=AT l) (av6 hl n ak ak) (λ_=>trivial) (λk op x y fl ks tg j nt hn=> ?_) (λx fl ks j nt hk he=> ?_)
  ·simp only[dJ,Jj,dR,aH];rw[bI ak,aH,bI ak,aH];exact AT.jX hn
  ·simp only[dJ,Jj,dR,aH,af2 hk];rw[bI ak,aH,bI ak,aH];exact AT.mk rfl rfl rfl rfl (jv _ _)
theorem asu{j:Nat}{nt:fM}(hj:j<=l.length)(hn:nt.length<=j):
  AT l (bif Jh (dX l j) then(M.fF (aF l) (j:Int) false (encS nt)).bind λahk=>
       (bif aj ahk.2.2.2.2 then
       ((M.kR 9 false false false false ahk.2.1 ahk.2.2.1 ahk.2.2.2.1 ahk.2.2.2.2).bind λML=>
         (bif aj ML.2.2.2.2.2.2.2.2.2.2 then
         some (21,kd,[],ahk.1,true,[[D.int .i64 ML.1,D.int .i64 ML.2.1,D.str ML.2.2.1,D.str ML.2.2.2.1,D.sl false 5 (aB ML.2.2.2.2.2.1)]],ML.2.2.2.2.2.2.2.1,ML.2.2.2.2.2.2.2.2.1,ML.2.2.2.2.2.2.2.2.2.1,ML.2.2.2.2.2.2.2.2.2.2) else none)) else none)
    else some (21,kd,[],[],true,[],aF l,(j:Int),false,encS nt))
   (bif Jh (dX l j) then(ex l n 9 false false (j+1) nt).bind λx k nt=> .ok (.mk 21 kd [] (MS l j) ([]++[x.1])) k nt else .ok (.mk 21 kd [] [] []) j nt):=by
 cases hs:Jh (dX l j) with
 |false=>exact AT.mk rfl rfl rfl rfl rfl
 |true=>
  have hlt:=iD (ak6 hs);simp only[aH,MX hl hlt,ah,dR];refine AP.elim (R:=AT l) (av6 hl n ak ak) (λ_=>trivial) (λk op x y fl ks tg j nt hn=> ?_) (λx fl ks j nt hk he=> ?_)
  ·simp only[dR,aH];exact AT.jX hn
  ·simp only[dR,aH];exact AT.mk rfl rfl rfl rfl (fz1 (NG hk))
end
def aSS(hl:l.length<=1048576)(n:Nat){i:Nat}{nt:fM}(hi:i<l.length)(hn:nt.length<=i)(k:Int)(hk:k=dX l i)(h:k=25\/k=26):
  AT l (M.oq k (aF l) ((i+1:Nat):Int) false (encS nt)) (ahi l n i nt):=by
 rcases h with rfl|rfl
 ·have w0:i64.wrap ((25:Int) - 25)=0:=rfl;have w1:((0:Int)==1)=false:=rfl;have w2:((25:Int)==26)=false:=rfl;have w3:(25:Int) - 25=0:=rfl;simp only[M.oq,M.Ae,M.y9,M.zf,w0,w1,bC,dR,aH,eu,ah,apj,ahi,<-hk,w2,w3,Bool.false_or];cases hE:U2 (dX l (i+1)) with
  |true=>simp only[zaU,Bool.not_false,aH,bC,Bool.true_or,ai8,ah,dR];exact asu hl n 0 ak ak
  |false=>
   simp only[Bool.not_false,aH,ai8,ah,Bool.false_or];cases hS:Jh (dX l (i+1)) with
   |true=>simp only[zaU,Bool.not_false,aH,bC,dR];have:=asu hl n 0 (j:=i+1) (nt:=nt) ak ak;rw[hS,aH,aH] at this;show AT l _ (bif Jh (dX l (i+1)) then _ else _);rw[hS,aH];exact this
   |false=>
    simp only[Bool.not_false,aH,dR];refine ALt.elim (R:=AT l) (aFX hl n false true ak ak) (λ_=>trivial) (λks j nt hn=> ?_) (λL j nt he=> ?_)
    ·simp only[cOw,ah,zaU,bC,dR,aH];exact AT.jX hn
    ·have hs:=rF (anP ak) he;have hs6:=rF (alc n [] _ _ (by decide)) he;simp only[cOw,ah,Bool.not_false,aH,dR,eu,ai8];exact asr hl n 0 ak ak hs6
 ·have w0:i64.wrap ((26:Int) - 25)=1:=rfl;have w3:(26:Int) - 25=1:=rfl;simp only[M.oq,M.Ae,M.y9,M.zf,w0,BEq.rfl,dR,aH,ahi,<-hk,w3,Bool.true_or];refine ALt.elim (R:=AT l) (aFX hl n false true ak ak) (λ_=>trivial) (λks j nt hn=> ?_) (λL j nt he=> ?_)
  ·simp only[cOw,ah,zaU,bC,dR,aH];exact AT.jX hn
  ·have hs:=rF (anP ak) he;have hs6:=rF (alc n [] _ _ (by decide)) he;simp only[cOw,ah,Bool.not_false,aH,dR,eu,ai8];exact asr hl n 1 ak ak hs6
variable {l:List Tk}
structure RS(l:List Tk)(n m:Nat):Prop where
 st:∀i nt,i<=l.length->nt.length<=i->AT l (M.jT m (aF l) (i:Int) false (encS nt)) (stP l n i nt)
 blk:∀i nt,i<=l.length->nt.length<=i->AT l (M.nS m (aF l) (i:Int) false (encS nt)) (MW l n i nt)
 body:∀i nt,i<=l.length->nt.length<=i->AT l (M.lq m (aF l) (i:Int) false (encS nt)) (ER l n i nt)
def ae3:∀a b:au,aB (a++b)=aB a++aB b
 |[],b=>rfl
 |r::a,b=>by rw[zca,aB,aB,ae3 a b];rfl
def af5:∀(r:List Tk) (i:Nat) (nt:fM),∃u,(WA r i nt).2=nt++u
 |[],i,nt=>⟨[],by rw[WA,List.append_nil]⟩
 |t::r,i,nt=>by
  rw[WA];cases(t.kind==1||t.kind==37)<;>cases t.kind==2<;>simp only[aH,bC]
  ·exact⟨[],(List.append_nil _).symm⟩
  ·obtain⟨u,h⟩:=af5 r (i+1) (nt++[t.text]);exact⟨[t.text]++u,by rw[h,WC]⟩
  ·exact af5 r (i+1) nt
  ·exact af5 r (i+1) nt
def Wp(m:Nat){i:Nat}{nt:fM}(hn:nt.length<=l.length):AT l (M.lq (m+1) (aF l) (i:Int) true (encS nt)) (.bad i):=by rw[M.Wh];simp only[yJ,M.uH,dR,aH,Ir,ah];exact AT.jX hn
def aEh(hl:l.length<=1048576)(m:Nat){i:Nat}{nt:fM}(hn:nt.length<=l.length):AT l (M.nS (m+1) (aF l) (i:Int) true (encS nt)) (.bad i):=by rw[M.UZ];simp only[M.rV,dR,aH,uY,ah,ak8];rw[show M.qI _ _=_ from aV rfl];simp only[ah,kD,dR,aH,uY,Di (l:=l) _ _ nt ak,jv,dJ,Dq];rw[bI ak,aH,bI ak,aH];exact AT.jX (Nat.zero_le _)
section
variable {n m:Nat} (hl:l.length<=1048576) (H:∀n',n'<=n->∀m',3 * n'+10<=m'->RS l n' m') (hm:3 * (n+1)+10<=m+1)
include hl H hm
theorem aEi(i:Nat)(nt:fM)(hi:i<=l.length)(hn:nt.length<=i):AT l (M.lq (m+1) (aF l) (i:Int) false (encS nt)) (ER l (n+1) i nt):=by
 have h:=H n (zaV _) m ak;have hf:=O9 (l:=l) (nt:=nt) hi;rw[M.Wh];simp only[yJ,M.uH,dR,aH,RQ hl i nt hi hn,ah,bC,eu,ER];generalize nl l i nt=q at hf|-;cases h30:dX l q.1==30 with
 |true=>simp only[aH];exact AT.pass (h.blk q.1 q.2 ak ak) (by intros;simp only[dR,aH])
 |false=>
  simp only[bC,Di (l:=l) _ _ q.2 ak,ah,cOw,dR,aH,eu];cases h37:dX l q.1==37 with
  |true=>have hlt:=fK h37 (by decide);simp only[aH,oG hl hlt];exact AT.mk rfl rfl rfl rfl (jv _ _)
  |false=>
   simp only[bC];refine AT.elim (R:=AT l) (h.st q.1 [] ak (Nat.zero_le _)) (λ_=>trivial) (λk op x y fl ks j nt hn=> ?_) (λx fl ks j nt hk he=> ?_)
   ·simp only[dJ,Dq,Jj,dR,aH];rw[bI ak,aH,bI ak,aH];exact AT.jX hn
   ·simp only[dJ,Dq,Jj,dR,aH];rw[bI ak,aH,bI ak,aH];exact AT.mk rfl rfl rfl rfl (by rw[ae3,jv,fz1 (NG hk)];exact(AV _ _ _).symm)
def ifP(l:List Tk)(n i:Nat)(nt:fM):PR Tn:=(Xi l n i nt).bind λx i nt=>(ER l n i nt).bind λy i nt=>bif dX l (sep l i nt).1==14 then(ER l n ((sep l i nt).1+1) (sep l i nt).2).bind λz i nt=> .ok (.mk 28 0 [] [] [x,y,z]) i nt else .ok (.mk 28 0 [] [] [x,y]) i nt
theorem axP(i:Nat)(nt:fM)(hi:i<=l.length)(hn:nt.length<=i):AT l (M.zi m (aF l) (i:Int) false (encS nt)) (ifP l n i nt):=by
 obtain⟨m2,rfl⟩:∃m2,m=m2+1+1:=⟨m - 2,ak⟩
 have h:=H n (zaV _) (m2+1) ak;rw[M.abw,ifP];simp only[M.uU,dR,aH];have hbad:∀{k op:Int} {x y:aC} {fl:Bool} {ks:au} {k' op':Int} {x' y':aC} {ks':au} {j:Nat} {nt:fM},nt.length<=l.length->
   AT l (some (28,0,[],[],true,[[D.int .i64 k,D.int .i64 op,D.str x,D.str y,D.sl false 5 ks],[D.int .i64 k',D.int .i64 op',D.str x',D.str y',D.sl false 5 ks']],aF l,(j:Int),true,encS nt)) (.bad j):=λhn=>AT.jX hn
 refine AT.elim (R:=AT l) (auB hl n hi hn) (λ_=>trivial) (λk op x y fl ks j nt hn=> ?_) (λx fl ks j nt hk he=> ?_)
 ·simp only[dR,aH];refine AT.Dt (R:=λo=>AT l o (.bad j)) (Wp m2 hn) λk op x y fl ks nt hn=> ?_
  simp only[dR,aH,ak8,ah,zaU,bC];exact AT.jX hn
 ·have hs:=rF (ab4 hi) he;simp only[dR,aH];refine AT.elim (R:=AT l) (h.body j nt ak ak) (λ_=>trivial) (λk op x y fl ks j nt hn=> ?_) (λy fl' kt j2 nt2 hk' he'=> ?_)
  ·simp only[dR,aH,ak8,ah,zaU,bC];exact AT.jX hn
  ·have hs':=rF ((afZ l n).body j nt ak) he';have hf:=abK (l:=l) (i:=j2) (nt:=nt2) ak;obtain⟨u,hu⟩:=af5 (l.drop j2) j2 nt2;have hu':(sep l j2 nt2).2=nt2++u:=hu;simp only[dR,aH,anT hl j2 nt2 ak ak,ah,bC,eu,bne];cases h14:dX l (sep l j2 nt2).1==14 with
   |false=>
    simp only[Bool.not_false,aH,bC,lnS];have e1:(decide (0<=(nt2.length:Int)) && decide ((nt2.length:Int)<=((sep l j2 nt2).2.length:Int)))=true:=by rw[hu',Ai,zdt ak,zdt ak];rfl
    have e2:List.take (nt2.length:Int).toNat (encS (sep l j2 nt2).2)=encS nt2:=by rw[hu',ztn,encS,encS,<-List.map_take];congr 1;simp
    rw[e1,aH,e2,dR,aH];exact AT.mk rfl rfl rfl rfl (fz2 (NG hk) (NG hk'))
   |true=>
    have hlt:=fK h14 (by decide);simp only[zaU,bC,aH,oG hl hlt];refine AT.elim (R:=AT l) (h.body _ _ ak ak) (λ_=>trivial) (λk op x y fl ks j nt hn=> ?_) (λz a01 ku j3 nt3 hk'' a02=> ?_)
    ·simp only[dR,aH];exact AT.jX hn
    ·simp only[dR,aH];exact AT.mk rfl rfl rfl rfl (fz3 (NG hk) (NG hk') (NG hk''))
def aIu(l:List Tk)(n i:Nat)(nt:fM):PR Tn:=(MV l n 37 true i nt).bind λx i nt=>(qL l 37 i nt).bind λ_ i nt=>(MV l n 37 false (nl l i nt).1 (nl l i nt).2).bind λy i nt=>(qL l 37 i nt).bind λ_ i nt=>(MV l n 33 false (nl l i nt).1 (nl l i nt).2).bind λz i nt=>(qL l 33 i nt).bind λ_ i nt=>(ER l n i nt).bind λw i nt=> .ok (.mk 31 0 [] [] [x,y,z,w]) i nt
omit hl H hm in
theorem fz4{x y z u:Tn}{kx ky kz ku:au}(h:aB kx=dO false x.kids)(h':aB ky=dO false y.kids)(h'':aB kz=dO false z.kids)(h3:aB ku=dO false u.kids):
  aB [[.int .i64 x.kind,.int .i64 x.op,.str x.text,.str x.other,.sl false 5 kx],[.int .i64 y.kind,.int .i64 y.op,.str y.text,.str y.other,.sl false 5 ky],[.int .i64 z.kind,.int .i64 z.op,.str z.text,.str z.other,.sl false 5 kz],[.int .i64 u.kind,.int .i64 u.op,.str u.text,.str u.other,.sl false 5 ku]]=dO false [x,y,z,u]:=by
 rw[aB,fzT x _ kx h,aB,fzT y _ ky h',aB,fzT z _ kz h'',aB,fzT u _ ku h3];rfl
omit hl H hm in
theorem aST(m2:Nat){j:Nat}{nt:fM}(hn:nt.length<=l.length):AT l ((M.fE 37 true false (aF l) (j:Int) true (encS nt)).bind λXD=>
       (bif aj XD.2.2.2.2.2.2.2.2.2 then
        ((M.aO 37 XD.2.2.2.2.2.2.1 XD.2.2.2.2.2.2.2.1 XD.2.2.2.2.2.2.2.2.1 XD.2.2.2.2.2.2.2.2.2).bind λald=>
        (bif aj ald.2.2.2.2 then
         ((M.aP ald.2.1 ald.2.2.1 ald.2.2.2.1 ald.2.2.2.2).bind λale=>
         (bif aj ale.2.2.2 then
          ((M.fE 37 false false ale.1 ale.2.1 ale.2.2.1 ale.2.2.2).bind λXE=>
          (bif aj XE.2.2.2.2.2.2.2.2.2 then
           ((M.aO 37 XE.2.2.2.2.2.2.1 XE.2.2.2.2.2.2.2.1 XE.2.2.2.2.2.2.2.2.1 XE.2.2.2.2.2.2.2.2.2).bind λagX=>
           (bif aj agX.2.2.2.2 then
            ((M.aP agX.2.1 agX.2.2.1 agX.2.2.2.1 agX.2.2.2.2).bind λalf=>
            (bif aj alf.2.2.2 then
             ((M.fE 33 false false alf.1 alf.2.1 alf.2.2.1 alf.2.2.2).bind λXF=>
             (bif aj XF.2.2.2.2.2.2.2.2.2 then
              ((M.aO 33 XF.2.2.2.2.2.2.1 XF.2.2.2.2.2.2.2.1 XF.2.2.2.2.2.2.2.2.1 XF.2.2.2.2.2.2.2.2.2).bind λagY=>
              (bif aj agY.2.2.2.2 then
               ((M.lq (m2+1) agY.2.1 agY.2.2.1 agY.2.2.2.1 agY.2.2.2.2).bind λXG=>
               (bif aj XG.2.2.2.2.2.2.2.2.2 then
                some (31,0,[],[],true,[[D.int .i64 XD.1,D.int .i64 XD.2.1,D.str XD.2.2.1,D.str XD.2.2.2.1,D.sl false 5 (aB XD.2.2.2.2.2.1)],[D.int .i64 XE.1,D.int .i64 XE.2.1,D.str XE.2.2.1,D.str XE.2.2.2.1,D.sl false 5 (aB XE.2.2.2.2.2.1)],[D.int .i64 XF.1,D.int .i64 XF.2.1,D.str XF.2.2.1,D.str XF.2.2.2.1,D.sl false 5 (aB XF.2.2.2.2.2.1)],[D.int .i64 XG.1,D.int .i64 XG.2.1,D.str XG.2.2.1,D.str XG.2.2.2.1,D.sl false 5 (aB XG.2.2.2.2.2.1)]],XG.2.2.2.2.2.2.1,XG.2.2.2.2.2.2.2.1,XG.2.2.2.2.2.2.2.2.1,XG.2.2.2.2.2.2.2.2.2) else none)) else none)) else none)) else none)) else none)) else none)) else none)) else none)) else none)) (.bad j):=by
 refine AT.Dt (R:=λo=>AT l o (.bad j)) (Vp 37 true false hn) λk op x y fl ks nt hn=> ?_
 simp only[dR,aH,uY,ah,Ir];refine AT.Dt (R:=λo=>AT l o (.bad j)) (Vp 37 false false hn) λk op x y fl ks nt hn=> ?_
 simp only[dR,aH,uY,ah,Ir];refine AT.Dt (R:=λo=>AT l o (.bad j)) (Vp 33 false false hn) λk op x y fl ks nt hn=> ?_
 simp only[dR,aH,uY,ah,Ir];refine AT.Dt (R:=λo=>AT l o (.bad j)) (Wp m2 hn) λk op x y fl ks nt hn=> ?_
 simp only[dR,aH];exact AT.jX hn
theorem aSU(m2:Nat)(hm2:m=m2+1+1)(i:Nat)(nt:fM)(hi:i<=l.length)(hn:nt.length<=i):AT l ((M.fE 37 true false (aF l) (i:Int) false (encS nt)).bind λXD=>
       (bif aj XD.2.2.2.2.2.2.2.2.2 then
        ((M.aO 37 XD.2.2.2.2.2.2.1 XD.2.2.2.2.2.2.2.1 XD.2.2.2.2.2.2.2.2.1 XD.2.2.2.2.2.2.2.2.2).bind λald=>
        (bif aj ald.2.2.2.2 then
         ((M.aP ald.2.1 ald.2.2.1 ald.2.2.2.1 ald.2.2.2.2).bind λale=>
         (bif aj ale.2.2.2 then
          ((M.fE 37 false false ale.1 ale.2.1 ale.2.2.1 ale.2.2.2).bind λXE=>
          (bif aj XE.2.2.2.2.2.2.2.2.2 then
           ((M.aO 37 XE.2.2.2.2.2.2.1 XE.2.2.2.2.2.2.2.1 XE.2.2.2.2.2.2.2.2.1 XE.2.2.2.2.2.2.2.2.2).bind λagX=>
           (bif aj agX.2.2.2.2 then
            ((M.aP agX.2.1 agX.2.2.1 agX.2.2.2.1 agX.2.2.2.2).bind λalf=>
            (bif aj alf.2.2.2 then
             ((M.fE 33 false false alf.1 alf.2.1 alf.2.2.1 alf.2.2.2).bind λXF=>
             (bif aj XF.2.2.2.2.2.2.2.2.2 then
              ((M.aO 33 XF.2.2.2.2.2.2.1 XF.2.2.2.2.2.2.2.1 XF.2.2.2.2.2.2.2.2.1 XF.2.2.2.2.2.2.2.2.2).bind λagY=>
              (bif aj agY.2.2.2.2 then
               ((M.lq (m2+1) agY.2.1 agY.2.2.1 agY.2.2.2.1 agY.2.2.2.2).bind λXG=>
               (bif aj XG.2.2.2.2.2.2.2.2.2 then
                some (31,0,[],[],true,[[D.int .i64 XD.1,D.int .i64 XD.2.1,D.str XD.2.2.1,D.str XD.2.2.2.1,D.sl false 5 (aB XD.2.2.2.2.2.1)],[D.int .i64 XE.1,D.int .i64 XE.2.1,D.str XE.2.2.1,D.str XE.2.2.2.1,D.sl false 5 (aB XE.2.2.2.2.2.1)],[D.int .i64 XF.1,D.int .i64 XF.2.1,D.str XF.2.2.1,D.str XF.2.2.2.1,D.sl false 5 (aB XF.2.2.2.2.2.1)],[D.int .i64 XG.1,D.int .i64 XG.2.1,D.str XG.2.2.1,D.str XG.2.2.2.1,D.sl false 5 (aB XG.2.2.2.2.2.1)]],XG.2.2.2.2.2.2.1,XG.2.2.2.2.2.2.2.1,XG.2.2.2.2.2.2.2.2.1,XG.2.2.2.2.2.2.2.2.2) else none)) else none)) else none)) else none)) else none)) else none)) else none)) else none)) else none)) (aIu l n i nt):=by
 have h:=H n (zaV _) (m2+1) ak;rw[aIu];refine AT.elim (R:=AT l) (apk hl n 37 true hi hn) (λ_=>trivial) (λk op x y fl ks j nt hn=> ?_) (λx fx kx j nt hx ex=> ?_)
 ·simp only[dR,aH,uY,ah,Ir];refine AT.Dt (R:=λo=>AT l o (.bad j)) (Vp 37 false false hn) λk op x y fl ks nt hn=> ?_
  simp only[dR,aH,uY,ah,Ir];refine AT.Dt (R:=λo=>AT l o (.bad j)) (Vp 33 false false hn) λk op x y fl ks nt hn=> ?_
  simp only[dR,aH,uY,ah,Ir];refine AT.Dt (R:=λo=>AT l o (.bad j)) (Wp m2 hn) λk op x y fl ks nt hn=> ?_
  simp only[dR,aH];exact AT.jX hn
 have s1:=rF (Yx hi) ex;simp only[dR,aH];refine MZ (R:=AT l) hl (by decide) ?_ (λ_ hlt=> ?_)
 ·simp only[dR,aH,Ir,ah];have hn:nt.length<=l.length:=ak;refine AT.Dt (R:=λo=>AT l o (.bad j)) (Vp 37 false false hn) λk op x y fl ks nt hn=> ?_
  simp only[dR,aH,uY,ah,Ir];refine AT.Dt (R:=λo=>AT l o (.bad j)) (Vp 33 false false hn) λk op x y fl ks nt hn=> ?_
  simp only[dR,aH,uY,ah,Ir];refine AT.Dt (R:=λo=>AT l o (.bad j)) (Wp m2 hn) λk op x y fl ks nt hn=> ?_
  simp only[dR,aH];exact AT.jX hn
 have g1:=O9 (l:=l) (i:=j+1) (nt:=nt) ak;simp only[dR,aH,RQ hl (j+1) nt ak ak,ah];refine AT.elim (R:=AT l) (apk hl n 37 false ak ak) (λ_=>trivial) (λk op x y fl ks j nt hn=> ?_) (λy fy ky j nt hy ey=> ?_)
 ·simp only[dR,aH,uY,ah,Ir];refine AT.Dt (R:=λo=>AT l o (.bad j)) (Vp 33 false false hn) λk op x y fl ks nt hn=> ?_
  simp only[dR,aH,uY,ah,Ir];refine AT.Dt (R:=λo=>AT l o (.bad j)) (Wp m2 hn) λk op x y fl ks nt hn=> ?_
  simp only[dR,aH];exact AT.jX hn
 have s2:=rF (Yx ak) ey;simp only[dR,aH];refine MZ (R:=AT l) hl (by decide) ?_ (λ_ hlt=> ?_)
 ·simp only[dR,aH,Ir,ah];have hn:nt.length<=l.length:=ak;refine AT.Dt (R:=λo=>AT l o (.bad j)) (Vp 33 false false hn) λk op x y fl ks nt hn=> ?_
  simp only[dR,aH,uY,ah,Ir];refine AT.Dt (R:=λo=>AT l o (.bad j)) (Wp m2 hn) λk op x y fl ks nt hn=> ?_
  simp only[dR,aH];exact AT.jX hn
 have g2:=O9 (l:=l) (i:=j+1) (nt:=nt) ak;simp only[dR,aH,RQ hl (j+1) nt ak ak,ah];refine AT.elim (R:=AT l) (apk hl n 33 false ak ak) (λ_=>trivial) (λk op x y fl ks j nt hn=> ?_) (λz fz kz j nt hz ez=> ?_)
 ·simp only[dR,aH,uY,ah];refine AT.Dt (R:=λo=>AT l o (.bad j)) (Wp m2 hn) λk op x y fl ks nt hn=> ?_
  simp only[dR,aH];exact AT.jX hn
 have s3:=rF (Yx ak) ez;simp only[dR,aH];refine MZ (R:=AT l) hl (by decide) ?_ (λ_ hlt=> ?_)
 ·simp only[dR,aH];have hn:nt.length<=l.length:=ak;refine AT.Dt (R:=λo=>AT l o (.bad j)) (Wp m2 hn) λk op x y fl ks nt hn=> ?_
  simp only[dR,aH];exact AT.jX hn
 simp only[dR,aH];refine AT.elim (R:=AT l) (h.body _ _ ak ak) (λ_=>trivial) (λk op x y fl ks j nt hn=> ?_) (λw fw kw j nt hw ew=> ?_)
 ·simp only[dR,aH];exact AT.jX hn
 ·simp only[dR,aH];exact AT.mk rfl rfl rfl rfl (fz4 (NG hx) (NG hy) (NG hz) (NG hw))
def lpP(l:List Tk)(n i:Nat)(nt:fM):PR Tn:=(qL l 32 i nt).bind λ_ i nt=>(bif dX l i==6 && dX l (i+1)==24 then(nameP l (i+2) nt).bind λs j nt=>(qL l 33 j nt).bind λ_ j nt=>(ER l n j nt).bind λy j nt=> .ok (.mk 32 0 (MS l i) s [y]) j nt else aIu l n i nt)
theorem aEj(i:Nat)(nt:fM)(hi:i<=l.length)(hn:nt.length<=i):AT l (M.CU m (aF l) (i:Int) false (encS nt)) (lpP l n i nt):=by
 obtain⟨m2,hm2⟩:∃m2,m=m2+1+1:=⟨m - 2,ak⟩
 subst hm2;have h:=H n (zaV _) (m2+1) ak;rw[M.aeT,lpP];simp only[M.yj,M.wW,dR,aH];refine MZ (R:=AT l) hl (by decide) ?_ (λ_ hlt=> ?_)
 ·simp only[zaU,bC,dR,aH];exact aST m2 ak
 ·simp only[Bool.not_false,aH,dR,eu,ah,eH];have aIv:=aSU hl H hm m2 rfl (i+1) nt ak ak;cases h6:dX l (i+1)==6 with
  |false=>simp only[bC,Bool.false_and];exact aIv
  |true=>
   have aSV:=fK h6 (by decide);simp only[aH,oG hl aSV,Bool.true_and]
   by_cases hb:i+1+1<l.length
   ·obtain⟨t,ht⟩:∃t,l[i+1+1]? =some t:=⟨l[i+1+1],by simp[hb]⟩
    have e1:dX l (i+1+1)=t.kind:=by rw[dX,ht]
    rw[zdt ak,aH];simp only[cO,pX,ht,MI,ah,cT0,e1];cases h24:t.kind==24 with
    |false=>simp only[bC];exact aIv
    |true=>
     have n1:M.bF (aF l) ((i+1:Nat):Int) false (encS nt)=some (MS l (i+1),aF l,((i+1+1:Nat):Int),false,encS nt):=by simp only[M.bF,M.jf,dR,aH,bC,eu,ah,bne,h6,zaU,MX hl aSV]
     have n2:M.aO 24 (aF l) ((i+1+1:Nat):Int) false (encS nt)=some (true,aF l,((i+1+1+1:Nat):Int),false,encS nt):=by simp only[M.aO,M.uw,dR,aH,bC,eu,ah,bne,e1,h24,zaU,oG hl hb]
     simp only[aH,n1,n2,ah,dR];refine aAA (R:=AT l) hl ?_ (λ_ hlt=> ?_)
     ·simp only[dR,aH,uY,ah];refine AT.Dt (R:=λo=>AT l o (.bad (i+1+1+1))) (Wp m2 ak) λk op x y fl ks nt hn=> ?_
      simp only[dR,aH];exact AT.jX hn
     ·simp only[dR,aH];refine MZ (R:=AT l) hl (by decide) ?_ (λ_ hlt=> ?_)
      ·simp only[dR,aH];refine AT.Dt (R:=λo=>AT l o (.bad (i+1+1+1+1))) (Wp m2 ak) λk op x y fl ks nt hn=> ?_
       simp only[dR,aH];exact AT.jX hn
      ·simp only[dR,aH];refine AT.elim (R:=AT l) (h.body _ _ ak ak) (λ_=>trivial) (λk op x y fl ks j nt hn=> ?_) (λw fw kw j nt hw ew=> ?_)
       ·simp only[dR,aH];exact AT.jX hn
       ·simp only[dR,aH];exact AT.mk rfl rfl rfl rfl (fz1 (NG hw))
   ·have e0:dX l (i+1+1)=0:=by rw[dX,List.getElem?_eq_none ak]
    rw[xK ak,bC,e0];exact aIv
end
variable {l:List Tk}
abbrev B1:=au×Int×Bool×Int×Int×aC×aC×Int×Int×aC×aC×au
abbrev B2:=au×Int×Bool×Int×Int×aC×aC×Int×Int×aC×aC×au×au
def b1(l:List Tk)(i:Nat)(b:Bool)(nt:fM):B1:=(aF l,(i:Int),b,0,0,[],[],33,0,[],[],encS nt)
def b2(l:List Tk)(i:Nat)(b:Bool)(nt:fM)(rows:au):B2:=(aF l,(i:Int),b,0,0,[],[],33,0,[],[],encS nt,rows)
def auC(hl:l.length<=1048576){k:Int}(hk:k≠0){i:Nat}{nt:fM}(h:dX l i=k):M.aO k (aF l) (i:Int) false (encS nt)=some (true,aF l,((i+1:Nat):Int),false,encS nt):=by
 have hlt:i<l.length:=iD (by rw[h];exact hk);have e:(dX l i==k)=true:=by rw[h];exact BEq.rfl
 simp only[M.aO,M.uw,dR,aH,bC,eu,ah,bne,e,zaU,oG hl hlt]
def AB(l:List Tk)(o:Option (B1⊕B2)):PR (List Tn)->Prop
 | .ok L' j ZX=>∃L0 i0 nt0 u,o=some u/\(u=.inl (b1 l i0 false nt0)/\L0=[]\/u=.inr (b2 l i0 false nt0 (dO false L0)))/\L'=L0++Yv nt0/\j=i0+1/\ZX=[]/\dX l i0=31/\nt0.length<=i0/\L0.length<=2 * l.length
 | .bad j=>∃u nt0,o=some u/\nt0.length<=l.length/\(u=.inl (b1 l j true nt0)\/∃rows:au,rows.length<=4 * l.length+4/\u=.inr (b2 l j true nt0 rows))
 | .out=>True
def aAO(hl:l.length<=1048576){i:Nat}{nt:fM}(h:dX l i=0)(hi:i<=l.length)(hn:nt.length<=i):AT l (M.mW (aF l) (i:Int) false (encS nt)) (.bad i):=by
 have e:ex l 20 1 false false i nt=.bad i:=av7 (.inl h) nt 1 (by decide) (by decide) 20 false false (by decide);have ha:=ala hl 20 false false hi hn;rw[e] at ha;have hz:∀k:Int,k≠0->(dX l i==k)=false:=λk h0=>by rw[Rf,h];exact λe=>h0 e.symm
 simp only[M.mW,M.zh,M.xC,M.xE,M.xF,M.xG,M.xH,M.xI,dR,aH,eu,ah,hz 25 (by decide),hz 26 (by decide),hz 20 (by decide),hz 18 (by decide),hz 19 (by decide),hz 21 (by decide),hz 22 (by decide),hz 23 (by decide),bC];refine AP.Dt (R:=λo=>AT l o (.bad i)) ha λk op x y fl ks tg nt hn=> ?_
 simp only[dR,aH];exact AT.jX hn
def aEk(hl:l.length<=1048576)(m:Nat){i:Nat}{nt:fM}(h:dX l i=0)(hi:i<=l.length)(hn:nt.length<=i):AT l (M.jT (m+1) (aF l) (i:Int) false (encS nt)) (.bad i):=by
 have hz:∀k:Int,k≠0->(dX l i==k)=false:=λk h0=>by rw[Rf,h];exact λe=>h0 e.symm
 rw[M.OZ];simp only[M.nY,M.mY,dR,aH,eu,ah,hz 30 (by decide),hz 13 (by decide),hz 15 (by decide),hz 17 (by decide),hz 16 (by decide),bC];refine AT.Dt (R:=λo=>AT l o (.bad i)) (aAO hl h hi hn) λk op x y fl ks nt hn=> ?_
 simp only[zaU,bC,dR,aH];exact AT.jX hn
def asv(hl:l.length<=1048576){f:au->Int->Bool->au->Option TT}(hf0:∀i,dX l i=0->i<=l.length->AT l (f (aF l) (i:Int) false (encS [])) (.bad i)):
  ∀n,(∀n',n'<n->∀i nt,i<=l.length->nt.length<=i->AT l (f (aF l) (i:Int) false (encS nt)) (stP l n' i nt))->
   ∀(L:List Tn) (i:Nat) (nt:fM) (s:B1⊕B2),(s=.inl (b1 l (sep l i nt).1 false (sep l i nt).2)/\L=[]\/s=.inr (b2 l (sep l i nt).1 false (sep l i nt).2 (dO false L)))->i<=l.length->nt.length<=i->L.length+nt.length<=2 * i->
   AB l (M.qI f s) (XC l n L i nt)
 |0,_,_,_,_,_,_,_,_,_=>by rw[XC];trivial
 |n+1,hst,L,i,nt,s,hs,hi,hn,hL=>by
  have hq:=abK (l:=l) (i:=i) (nt:=nt) hi;simp only[XC];generalize hqe:sep l i nt=q at hs hq|-;rw[M.qI];cases h31:dX l q.1==31 with
  |true=>
   have hlt:=fK h31 (by decide);have e31:dX l q.1=31:=by rwa [beq_iff_eq] at h31
   refine⟨L,q.1,q.2,s, ?_,hs,rfl,rfl,rfl,e31,ak,ak⟩;rcases hs with⟨rfl,rfl⟩|rfl<;>refine aV ?_<;>
    simp only[yJ,M.rE,M.rD,b1,b2,Bool.not_false,aH,dR,eu,ah,bne,h31,zaU,bC]
  |false=>
   have hb:M.rE f s=(f (aF l) (q.1:Int) false (encS [])).bind λr=>
     bif(((dO false (L++Yv q.2)).length+[[D.int .i64 r.1,D.int .i64 r.2.1,D.str r.2.2.1,D.str r.2.2.2.1,D.sl false 5 (aB r.2.2.2.2.2.1)]].length) * 72).ble 140737488355328 then
      (bif((dO false (L++Yv q.2)).length+[[D.int .i64 r.1,D.int .i64 r.2.1,D.str r.2.2.1,D.str r.2.2.2.1,D.sl false 5 (aB r.2.2.2.2.2.1)]].length).ble 140737488355328 then
      (bif aj r.2.2.2.2.2.2.2.2.2 then
       ((M.bQ r.2.2.2.2.2.2.1 r.2.2.2.2.2.2.2.1 r.2.2.2.2.2.2.2.2.1 r.2.2.2.2.2.2.2.2.2).bind λr'=>
       (some (.inl (.inr ((r'.1,r'.2.1,r'.2.2.1,0,0,[],[],33,0,[],[],r'.2.2.2,dO false (L++Yv q.2)++[[D.int .i64 r.1,D.int .i64 r.2.1,D.str r.2.2.1,D.str r.2.2.2.1,D.sl false 5 (aB r.2.2.2.2.2.1)]]):B2))))) else none) else none) else none:=by
    have hc:=Di (l:=l) (q.1:Int) false q.2 ak;have hlen:(L.length+q.2.length) * 72<=140737488355328:=ak;rcases hs with⟨rfl,rfl⟩|rfl
    ·simp only[yJ,M.rE,M.rD,b1,Bool.not_false,aH,dR,eu,ah,bne,h31,hc,jv,List.nil_append];rw[show(dO false (Yv q.2)).length=q.2.length by rw[dJ,Dq],bI ak,aH,bI ak,aH]
    ·simp only[yJ,M.rE,M.rD,b2,Bool.not_false,aH,dR,eu,ah,bne,h31,hc,jv,<-AV];rw[show(dO false L).length+(dO false (Yv q.2)).length=L.length+q.2.length by rw[dJ,dJ,Dq],bI ak,aH,bI ak,aH]
   rw[bC];have hbad:∀{j:Nat},AT l (f (aF l) (q.1:Int) false (encS [])) (.bad j)->AB l (fV (M.rE f) s) (.bad j):=by intro j hj;obtain⟨k,op,x,y,fl,ks,ZX,h1,h2⟩:=hj;rw[h2,ah] at hb;simp only[dJ,Ai,Dq,Jj,dR,aH,ak8,ah] at hb;rw[bI ak,aH,bI ak,aH] at hb;rw[bY hb];refine⟨_,ZX,aV rfl,h1,.inr ⟨_, ?_,rfl⟩⟩;simp only[Ai,dJ,Dq,Jj];omega
   cases h0:dX l q.1==0 with
   |true=>
    have e0:dX l q.1=0:=by rwa [beq_iff_eq] at h0
    exact hbad (hf0 q.1 e0 ak)
   |false=>
    rw[bC];have hr:=hst n (Nat.lt_succ_self n) q.1 [] ak (Nat.zero_le _);have asw:=(afZ l n).st q.1 [] ak;generalize stP l n q.1 []=p at hr asw|-;cases p with
    |out=>trivial
    |bad j=>exact hbad hr
    |ok x j m'=>obtain⟨fl,kt,h1,h2⟩:=hr;have aAP:FS l q.1 ([]:fM).length x.size j m'.length:=asw;rw[OT] at aAP;rw[h2,ah] at hb;simp only[af2 h1,dJ,Ai,Dq,Jj,dR,aH,anT hl j m' ak ak,ah] at hb;rw[bI ak,aH,bI ak,aH] at hb;rw[bY hb];refine asv hl hf0 n (λn' h=>hst n' ak) ((L++Yv q.2)++[x]) j m' _ (.inr rfl) ak ak ?_;simp only[Ai,Dq,Jj];omega
section
variable {n m:Nat} (hl:l.length<=1048576) (H:∀n',n'<=n->∀m',3 * n'+10<=m'->RS l n' m') (hm:3 * (n+1)+10<=m+1)
include hl H hm
theorem aIw(i:Nat)(nt:fM)(hi:i<=l.length)(hn:nt.length<=i):AT l (M.nS (m+1) (aF l) (i:Int) false (encS nt)) (MW l (n+1) i nt):=by
 obtain⟨m2,rfl⟩:∃m2,m=m2+1:=⟨m - 1,ak⟩
 rw[M.UZ,MW];simp only[M.rV,dR,aH];refine MZ (R:=AT l) hl (by decide) ?_ (λ_ hlt=> ?_)
 ·simp only[dR,aH,ak8,ah];rw[show M.qI _ _=_ from aV rfl];simp only[ah,kD,dR,aH,uY,Di (l:=l) _ _ nt ak,jv,dJ,Dq];rw[bI ak,aH,bI ak,aH];exact AT.jX (Nat.zero_le _)
 ·simp only[dR,aH,anT hl (i+1) nt ak ak,ah];have hloop:=asv hl (f:=M.jT (m2+1)) (λi h0 hi=>aEk hl m2 h0 hi (Nat.zero_le _)) n (λn' h i nt hi hn=>(H n' ak (m2+1) ak).st i nt hi hn) [] (i+1) nt (.inl (b1 l (sep l (i+1) nt).1 false (sep l (i+1) nt).2)) (.inl ⟨rfl,rfl⟩) ak ak (by rw[OT];omega);generalize XC l n [] (i+1) nt=p at hloop|-;rw[b1] at hloop;cases p with
  |out=>trivial
  |bad j=>
   obtain⟨u,nt0,h1,h2,h3⟩:=hloop;rw[h1,ah];rcases h3 with rfl|⟨rows,h4,rfl⟩
   ·simp only[b1,kD,dR,aH,uY,ah,Di (l:=l) _ _ nt0 ak,jv,dJ,Dq];rw[bI ak,aH,bI ak,aH];exact AT.jX (Nat.zero_le _)
   ·simp only[b2,kD,letE,dR,aH,uY,ah,Di (l:=l) _ _ nt0 ak,jv,dJ,Dq];rw[bI ak,aH,bI ak,aH];exact AT.jX (Nat.zero_le _)
  |ok L' j ZX=>
   obtain⟨L0,i0,nt0,u,h1,h2,rfl,rfl,rfl,h31,h4,h5⟩:=hloop;have hlt0:i0<l.length:=iD (by rw[h31];decide);rw[h1,ah];rcases h2 with⟨rfl,rfl⟩|rfl
   ·simp only[b1,kD,dR,aH,auC hl (by decide) h31,ah,Di (l:=l) _ _ nt0 ak,jv,dJ,Dq];rw[bI ak,aH,bI ak,aH];exact AT.mk rfl rfl rfl rfl (jv _ _)
   ·simp only[b2,kD,letE,dR,aH,auC hl (by decide) h31,ah,Di (l:=l) _ _ nt0 ak,jv,dJ,Dq,<-AV];rw[bI ak,aH,bI ak,aH];exact AT.mk rfl rfl rfl rfl (jv _ _)
theorem aSW(i:Nat)(nt:fM)(hi:i<=l.length)(hn:nt.length<=i):AT l (M.jT (m+1) (aF l) (i:Int) false (encS nt)) (stP l (n+1) i nt):=by
 have h:=H n (zaV _) m ak;have hbr:=axP hl H hm;have hlp:=aEj hl H hm;obtain⟨m2,rfl⟩:∃m2,m=m2+1:=⟨m - 1,ak⟩
 rw[M.OZ];simp only[M.nY,M.mY,dR,aH,eu,ah,stP];cases h30:dX l i==30 with
 |true=>simp only[aH];exact AT.pass (h.blk i nt hi hn) (by intros;simp only[dR,aH])
 |false=>
 cases h13:dX l i==13 with
 |true=>have hlt:=fK h13 (by decide);simp only[aH,bC,oG hl hlt];exact AT.pass (hbr (i+1) nt ak ak) (by intros;simp only[dR,aH])
 |false=>
 cases h15:dX l i==15 with
 |true=>
  have hlt:=fK h15 (by decide);simp only[aH,bC,oG hl hlt];refine AT.elim (R:=AT l) (auB hl n ak ak) (λ_=>trivial) (λk op x y fl ks j nt hn=> ?_) (λx fx kx j nt hx ex=> ?_)
  ·simp only[dR,aH];refine AT.Dt (R:=λo=>AT l o (.bad j)) (Wp m2 hn) λk op x y fl ks nt hn=> ?_
   simp only[dR,aH];exact AT.jX hn
  ·have s1:=rF (ab4 ak) ex;simp only[dR,aH];refine AT.elim (R:=AT l) (h.body j nt ak ak) (λ_=>trivial) (λk op x y fl ks j nt hn=> ?_) (λy fy ky j nt hy ey=> ?_)
   ·simp only[dR,aH];exact AT.jX hn
   ·simp only[dR,aH];exact AT.mk rfl rfl rfl rfl (fz2 (NG hx) (NG hy))
 |false=>
 cases h17:dX l i==17 with
 |true=>
  have hlt:=fK h17 (by decide);simp only[aH,bC,oG hl hlt];refine AT.elim (R:=AT l) (h.body (i+1) nt ak ak) (λ_=>trivial) (λk op x y fl ks j nt hn=> ?_) (λx fx kx j nt hx ex=> ?_)
  ·simp only[dR,aH,ak8,uY,ah];refine AT.Dt (R:=λo=>AT l o (.bad j)) (aAM hn) λk op x y fl ks nt hn=> ?_
   simp only[zaU,bC,dR,aH];exact AT.jX hn
  ·have s1:=rF ((afZ l n).body (i+1) _ ak) ex;have hf:=abK (l:=l) (i:=j) (nt:=nt) ak;simp only[dR,aH,anT hl j nt ak ak,ah];refine MZ (R:=AT l) hl (by decide) ?_ (λ_ hlt=> ?_)
   ·simp only[dR,aH];refine AT.Dt (R:=λo=>AT l o (.bad (sep l j nt).1)) (aAM ak) λk op x y fl ks nt hn=> ?_
    simp only[zaU,bC,dR,aH];exact AT.jX hn
   ·simp only[dR,aH];refine AT.elim (R:=AT l) (auB hl n ak ak) (λ_=>trivial) (λk op x y fl ks j nt hn=> ?_) (λy fy ky j2 nt2 hy ey=> ?_)
    ·simp only[zaU,bC,dR,aH];exact AT.jX hn
    ·have s2:=rF (ab4 ak) ey;simp only[Bool.not_false,aH,dR,auA,ah];exact aAL rfl rfl rfl rfl (fz2 (NG hx) (NG hy)) ak
 |false=>
 cases h16:dX l i==16 with
 |true=>have hlt:=fK h16 (by decide);simp only[aH,bC,oG hl hlt];exact AT.pass (hlp (i+1) nt ak ak) (by intros;simp only[dR,aH])
 |false=>
  simp only[bC];have hs:=aSR hl n hi hn λk hk h=>aSS hl n (iD (by rw[<-hk];rcases h with rfl|rfl<;>decide)) hn k hk h
  refine AT.elim (R:=AT l) hs (λ_=>trivial) (λk op x y fl ks j nt hn=> ?_) (λx fx kx j nt hx ex=> ?_)
  ·simp only[zaU,bC,dR,aH];exact AT.jX hn
  ·have s1:=rF (aAx hi) ex;simp only[Bool.not_false,aH,dR,auA,ah];exact aAL rfl rfl rfl rfl (NG hx) ak
end
def rs(hl:l.length<=1048576):∀N n,n<=N->∀m,3 * n+10<=m->RS l n m:=by
 intro N;induction N with
 |zero=>intro n hn m hm;obtain rfl:n=0:=ak;exact⟨λ_ _ _ _=>by rw[stP];trivial,λ_ _ _ _=>by rw[MW];trivial,λ_ _ _ _=>by rw[ER];trivial⟩
 |succ N ih=>
  intro n hn m hm;cases n with
  |zero=>exact ih 0 ak m hm
  |succ n=>
   cases m with
   |zero=>omega
   |succ m=>
    have H:∀n',n'<=n->∀m',3 * n'+10<=m'->RS l n' m':=λn' h=>ih n' ak
    exact⟨aSW hl H hm,aIw hl H hm,aEi hl H hm⟩
def RS.of(hl:l.length<=1048576)(n:Nat){m:Nat}(hm:3 * n+10<=m):RS l n m:=rs hl n n (zaV _) m hm
def asx(hl:l.length<=1048576)(n:Nat){i:Nat}{nt:fM}(hi:i<=l.length)(hn:nt.length<=i):AT l (M.cZ (aF l) (i:Int) false (encS nt)) (MW l n i nt):=
 AT.lim ((RS.of hl n (zaV _)).blk i nt hi hn) λr h=>M.Um h
def av8(hl:l.length<=1048576){i:Nat}{nt:fM}(hn:nt.length<=l.length):AT l (M.cZ (aF l) (i:Int) true (encS nt)) (.bad i):=
 AT.lim (aEh hl 0 hn) λr h=>M.Um h
variable {l:List Tk}
abbrev G2:=au×Int×Bool×Int×Int×aC×aC×Int×Int×aC×aC×au×au
abbrev G3:=au×Int×Int×Int×aC×aC×Int×Int×aC×aC×au×au
abbrev GO:=G2⊕B1⊕G3⊕G2
def g2(l:List Tk)(x:aC)(i:Nat)(b:Bool)(nt:fM)(rows:au):G2:=(aF l,(i:Int),b,0,0,[],[],44,0,x,[],encS nt,rows)
def g3(l:List Tk)(x:aC)(i:Nat)(nt:fM)(rows:au):G3:=(aF l,(i:Int),0,0,[],[],44,0,x,[],encS nt,rows)
def AQ(l:List Tk)(x:aC)(o:Option GO):PR (List Tn)->Prop
 | .ok L' j ZX=>o=some (.inl (g2 l x j false ZX (dO true L')))
 | .bad j=>∃ZX rows,ZX.length<=l.length/\rows.length<=8/\(o=some (.inl (g2 l x j true ZX rows))\/o=some (.inr (.inr (.inl (g3 l x j ZX rows)))))
 | .out=>True
def alg(hl:l.length<=1048576){i:Nat}{nt:fM}(h:(dX l i==6)=true):M.bF (aF l) (i:Int) false (encS nt)=some (MS l i,aF l,((i+1:Nat):Int),false,encS nt):=by simp only[M.bF,M.jf,dR,aH,bC,eu,ah,bne,h,zaU,MX hl (fK h (by decide))]
def aAQ{i:Nat}{nt:fM}(h:(dX l i==6)=false):M.bF (aF l) (i:Int) false (encS nt)=some ([],aF l,(i:Int),true,encS nt):=by simp only[M.bF,M.jf,dR,aH,bC,eu,ah,bne,h,Bool.not_false]
def af6(L:List Tn)(s:aC):dO true L++[[D.int .i64 1,D.int .i64 0,D.str s,D.str [],D.sl true 5 []]]=dO true (L++[.mk 1 0 s [] []]):=by rw[AV];rfl
def asy(hl:l.length<=1048576)(x:aC):∀(n:Nat) (L:List Tn) (i:Nat) (nt:fM),L.length<6->i<=l.length->nt.length<=i->AQ l x (M.lJ (.inr (g2 l x i false nt (dO true L)))) (Ho l n L i nt)
 |0,_,_,_,_,_,_=>by rw[Ho];trivial
 |n+1,L,i,nt,hL,hi,hn=>by
  rw[Ho,M.lJ,nameP];cases h6:dX l i==6 with
  |false=>
   have hb:M.dW (.inr (g2 l x i false nt (dO true L)))=some (.inr (.inl (g2 l x i true nt (dO true (L++[.mk 1 0 [] [] []]))))):=by simp only[yJ,M.dW,M.iV,g2,Bool.not_false,aH,dR,aAQ h6,ah,af6,dJ,Jj];rw[bI ak,aH,bI ak,aH]
   rw[aV hb];exact⟨nt,_,ak,by rw[dJ,Ai,Jj];omega,.inl rfl⟩
  |true=>
   have hlt:=fK h6 (by decide);simp only[aH,PR.bind];cases hc:dX l (i+1)==36 with
   |false=>
    have hb:M.dW (.inr (g2 l x i false nt (dO true L)))=some (.inr (.inl (g2 l x (i+1) false nt (dO true (L++[.mk 1 0 (MS l i) [] []]))))):=by simp only[yJ,M.dW,M.iV,g2,Bool.not_false,aH,bC,dR,alg hl h6,ah,af6,dJ,Jj,eu,bne,hc];rw[bI ak,aH,bI ak,aH]
    rw[aV hb];rfl
   |true=>
    have hlt':=fK hc (by decide);simp only[aH];cases hs:Nat.beq (L.length+1) 6 with
    |true=>
     have e:=I5 hs;have e':(((L.length+1:Nat):Int)==6)=true:=by rw[e];rfl
     have hb:M.dW (.inr (g2 l x i false nt (dO true L)))=some (.inr (.inr (.inr (.inl (g3 l x (i+1) nt (dO true (L++[.mk 1 0 (MS l i) [] []]))))))):=by simp only[yJ,M.dW,M.iV,g2,g3,Bool.not_false,zaU,aH,bC,dR,alg hl h6,ah,af6,dJ,Jj,Ai,eu,bne,hc,e'];rw[bI ak,aH,bI ak,aH]
     rw[aV hb];exact⟨nt,_,ak,by rw[dJ,Ai,Jj];omega,.inr rfl⟩
    |false=>
     have e:L.length+1≠6:=Nat.ne_of_beq_eq_false hs;have e':(((L.length+1:Nat):Int)==6)=false:=by rw[Rf];omega
     have hf:=O9 (l:=l) (i:=i+1+1) (nt:=nt) ak;have hb:M.dW (.inr (g2 l x i false nt (dO true L)))=some (.inl (.inr (g2 l x (nl l (i+1+1) nt).1 false (nl l (i+1+1) nt).2 (dO true (L++[.mk 1 0 (MS l i) [] []]))))):=by simp only[yJ,M.dW,M.iV,g2,Bool.not_false,zaU,aH,bC,dR,alg hl h6,ah,af6,dJ,Jj,Ai,eu,bne,hc,e',oG hl hlt',RQ hl (i+1+1) nt ak ak];rw[bI ak,aH,bI ak,aH]
     rw[bY hb];exact asy hl x n _ _ _ (by rw[Ai,Jj];omega) ak ak
def axQ(hl:l.length<=1048576)(x:aC)(n:Nat){i:Nat}{nt:fM}(hi:i<=l.length)(hn:nt.length<=i):
  AQ l x (M.lJ (.inl (true,aF l,(i:Int),false,0,0,[],[],44,0,x,[],encS nt))) (Ho l n [] i nt):=by
 cases n with
 |zero=>rw[Ho];trivial
 |succ n=>
  have hrow:∀s:aC,[[D.int .i64 1,D.int .i64 0,D.str s,D.str [],D.sl true 5 []]]=dO true ([]++[Tn.mk 1 0 s [] []]):=λs=>rfl
  rw[Ho,M.lJ,nameP];cases h6:dX l i==6 with
  |false=>
   have hb:M.dW (.inl (true,aF l,(i:Int),false,0,0,[],[],44,0,x,[],encS nt))=some (.inr (.inl (g2 l x i true nt (dO true ([]++[.mk 1 0 [] [] []]))))):=by simp only[yJ,M.dW,M.iV,g2,Bool.not_false,aH,dR,aAQ h6,ah,hrow]
   rw[aV hb];exact⟨nt,_,ak,by rw[dJ];decide,.inl rfl⟩
  |true=>
   have hlt:=fK h6 (by decide);simp only[aH,PR.bind];cases hc:dX l (i+1)==36 with
   |false=>
    have hb:M.dW (.inl (true,aF l,(i:Int),false,0,0,[],[],44,0,x,[],encS nt))=some (.inr (.inl (g2 l x (i+1) false nt (dO true ([]++[.mk 1 0 (MS l i) [] []]))))):=by simp only[yJ,M.dW,M.iV,g2,Bool.not_false,aH,bC,dR,alg hl h6,ah,hrow,eu,bne,hc]
    rw[aV hb];rfl
   |true=>
    have hlt':=fK hc (by decide);have hf:=O9 (l:=l) (i:=i+1+1) (nt:=nt) ak;have hb:M.dW (.inl (true,aF l,(i:Int),false,0,0,[],[],44,0,x,[],encS nt))=some (.inl (.inr (g2 l x (nl l (i+1+1) nt).1 false (nl l (i+1+1) nt).2 (dO true ([]++[.mk 1 0 (MS l i) [] []]))))):=by simp only[yJ,M.dW,M.iV,g2,Bool.not_false,zaU,aH,bC,dR,alg hl h6,ah,hrow,eu,bne,hc,oG hl hlt',RQ hl (i+1+1) nt ak ak]
    rw[bY hb];exact asy hl x n _ _ _ (by simp) ak ak
def anU:∀(n:Nat) (L:List Tn) (i:Nat) (nt:fM),L.length<6->(Ho l n L i nt).sat λL' _ _=>L'.length<=6
 |0,_,_,_,_=>by rw[Ho];trivial
 |n+1,L,i,nt,hL=>by
  rw[Ho,fC,Yw];intro _;rw[eX];refine⟨λ_=> ?_,λ_=> ?_⟩
  ·rw[eX];refine⟨λ_=>trivial,λh=> ?_⟩;have:=Nat.ne_of_beq_eq_false h;exact anU n _ _ _ (by rw[Ai,Jj];omega)
  ·show(L++[_]).length<=6;rw[Ai,Jj];omega
noncomputable def fnC(x:aC)(c:au)(c1:Int)(c2:Bool)(c3:au):Option TT:=
 ((M.aO 32 c c1 c2 c3).bind λalh=>
 (bif !alh.2.2.2.1 then
 (bif aj alh.2.2.2.2 then
 ((M.aA alh.2.1 alh.2.2.1 alh.2.2.2.1 alh.2.2.2.2).bind λamh=>
 (bif amh.1 !=33 then
 ((M.lJ (.inl ((true,amh.2.1,amh.2.2.1,amh.2.2.2.1,0,0,[],[],44,0,x,[],amh.2.2.2.2)))).bind λa04=>
 kD a04 (λaiM=>
 (bif aj aiM.2.2.2.2.2.2.2.2.2.2.2.1 then
 ((M.aO 33 aiM.1 aiM.2.1 aiM.2.2.1 aiM.2.2.2.2.2.2.2.2.2.2.2.1).bind λaAR=>
 (bif aj aAR.2.2.2.2 then
 ((M.aP aAR.2.1 aAR.2.2.1 aAR.2.2.2.1 aAR.2.2.2.2).bind λaAS=>
 (bif aj aAS.2.2.2 then
 ((M.cZ aAS.1 aAS.2.1 aAS.2.2.1 aAS.2.2.2).bind λYz=>
 (bif((aiM.2.2.2.2.2.2.2.2.2.2.2.2.length+[[D.int IntKind.i64 Yz.1,D.int IntKind.i64 Yz.2.1,D.str Yz.2.2.1,D.str Yz.2.2.2.1,D.sl false 5 (aB Yz.2.2.2.2.2.1)]].length) * 72).ble 140737488355328 then
 (bif(aiM.2.2.2.2.2.2.2.2.2.2.2.2.length+[[D.int IntKind.i64 Yz.1,D.int IntKind.i64 Yz.2.1,D.str Yz.2.2.1,D.str Yz.2.2.2.1,D.sl false 5 (aB Yz.2.2.2.2.2.1)]].length).ble 140737488355328 then
 (bif aj Yz.2.2.2.2.2.2.2.2.2 then
 (some ((aiM.2.2.2.2.2.2.2.1,aiM.2.2.2.2.2.2.2.2.1,aiM.2.2.2.2.2.2.2.2.2.1,aiM.2.2.2.2.2.2.2.2.2.2.1,true,aiM.2.2.2.2.2.2.2.2.2.2.2.2++[[D.int IntKind.i64 Yz.1,D.int IntKind.i64 Yz.2.1,D.str Yz.2.2.1,D.str Yz.2.2.2.1,D.sl false 5 (aB Yz.2.2.2.2.2.1)]],Yz.2.2.2.2.2.2.1,Yz.2.2.2.2.2.2.2.1,Yz.2.2.2.2.2.2.2.2.1,Yz.2.2.2.2.2.2.2.2.2))) else none) else none) else none)) else none)) else none)) else none)) λa05=>
 kD a05 (λapl=>
 (bif aj apl.2.2.2.2.2.2.2.2.2.2.2 then
 ((M.aO 33 apl.1 apl.2.1 apl.2.2.1 apl.2.2.2.2.2.2.2.2.2.2.2).bind λaqv=>
 (bif aj aqv.2.2.2.2 then
 ((M.aP aqv.2.1 aqv.2.2.1 aqv.2.2.2.1 aqv.2.2.2.2).bind λaAT=>
 (bif aj aAT.2.2.2 then
 ((M.cZ aAT.1 aAT.2.1 aAT.2.2.1 aAT.2.2.2).bind λami=>
 (bif aj ami.2.2.2.2.2.2.2.2.2 then
 (some ((apl.2.2.2.2.2.2.2.1,apl.2.2.2.2.2.2.2.2.1,apl.2.2.2.2.2.2.2.2.2.1,apl.2.2.2.2.2.2.2.2.2.2.1,true,[[D.int IntKind.i64 ami.1,D.int IntKind.i64 ami.2.1,D.str ami.2.2.1,D.str ami.2.2.2.1,D.sl false 5 (aB ami.2.2.2.2.2.1)]],ami.2.2.2.2.2.2.1,ami.2.2.2.2.2.2.2.1,ami.2.2.2.2.2.2.2.2.1,ami.2.2.2.2.2.2.2.2.2))) else none)) else none)) else none)) else none)) λa06=>
 kD a06 (λali=>
 (bif aj ali.2.2.2.2.2.2.2.2.2.2.1 then
 ((M.aO 33 ali.1 ali.2.1 true ali.2.2.2.2.2.2.2.2.2.2.1).bind λaAU=>
 (bif aj aAU.2.2.2.2 then
 ((M.aP aAU.2.1 aAU.2.2.1 aAU.2.2.2.1 aAU.2.2.2.2).bind λaAV=>
 (bif aj aAV.2.2.2 then
 ((M.cZ aAV.1 aAV.2.1 aAV.2.2.1 aAV.2.2.2).bind λYA=>
 (bif((ali.2.2.2.2.2.2.2.2.2.2.2.length+[[D.int IntKind.i64 YA.1,D.int IntKind.i64 YA.2.1,D.str YA.2.2.1,D.str YA.2.2.2.1,D.sl false 5 (aB YA.2.2.2.2.2.1)]].length) * 72).ble 140737488355328 then
 (bif(ali.2.2.2.2.2.2.2.2.2.2.2.length+[[D.int IntKind.i64 YA.1,D.int IntKind.i64 YA.2.1,D.str YA.2.2.1,D.str YA.2.2.2.1,D.sl false 5 (aB YA.2.2.2.2.2.1)]].length).ble 140737488355328 then
 (bif aj YA.2.2.2.2.2.2.2.2.2 then
 (some ((ali.2.2.2.2.2.2.1,ali.2.2.2.2.2.2.2.1,ali.2.2.2.2.2.2.2.2.1,ali.2.2.2.2.2.2.2.2.2.1,true,ali.2.2.2.2.2.2.2.2.2.2.2++[[D.int IntKind.i64 YA.1,D.int IntKind.i64 YA.2.1,D.str YA.2.2.1,D.str YA.2.2.2.1,D.sl false 5 (aB YA.2.2.2.2.2.1)]],YA.2.2.2.2.2.2.1,YA.2.2.2.2.2.2.2.1,YA.2.2.2.2.2.2.2.2.1,YA.2.2.2.2.2.2.2.2.2))) else none) else none) else none)) else none)) else none)) else none)) λa07=>
 letE a07 λaiN=>
 (bif aj aiN.2.2.2.2.2.2.2.2.2.2.2.1 then
 ((M.aO 33 aiN.1 aiN.2.1 aiN.2.2.1 aiN.2.2.2.2.2.2.2.2.2.2.2.1).bind λatZ=>
 (bif aj atZ.2.2.2.2 then
 ((M.aP atZ.2.1 atZ.2.2.1 atZ.2.2.2.1 atZ.2.2.2.2).bind λat1=>
 (bif aj at1.2.2.2 then
 ((M.cZ at1.1 at1.2.1 at1.2.2.1 at1.2.2.2).bind λWx=>
 (bif((aiN.2.2.2.2.2.2.2.2.2.2.2.2.length+[[D.int IntKind.i64 Wx.1,D.int IntKind.i64 Wx.2.1,D.str Wx.2.2.1,D.str Wx.2.2.2.1,D.sl false 5 (aB Wx.2.2.2.2.2.1)]].length) * 72).ble 140737488355328 then
 (bif(aiN.2.2.2.2.2.2.2.2.2.2.2.2.length+[[D.int IntKind.i64 Wx.1,D.int IntKind.i64 Wx.2.1,D.str Wx.2.2.1,D.str Wx.2.2.2.1,D.sl false 5 (aB Wx.2.2.2.2.2.1)]].length).ble 140737488355328 then
 (bif aj Wx.2.2.2.2.2.2.2.2.2 then
 (some ((aiN.2.2.2.2.2.2.2.1,aiN.2.2.2.2.2.2.2.2.1,aiN.2.2.2.2.2.2.2.2.2.1,aiN.2.2.2.2.2.2.2.2.2.2.1,true,aiN.2.2.2.2.2.2.2.2.2.2.2.2++[[D.int IntKind.i64 Wx.1,D.int IntKind.i64 Wx.2.1,D.str Wx.2.2.1,D.str Wx.2.2.2.1,D.sl false 5 (aB Wx.2.2.2.2.2.1)]],Wx.2.2.2.2.2.2.1,Wx.2.2.2.2.2.2.2.1,Wx.2.2.2.2.2.2.2.2.1,Wx.2.2.2.2.2.2.2.2.2))) else none) else none) else none)) else none)) else none)) else none)) else
 (bif aj amh.2.2.2.2 then
 ((M.aO 33 amh.2.1 amh.2.2.1 amh.2.2.2.1 amh.2.2.2.2).bind λatY=>
 (bif aj atY.2.2.2.2 then
 ((M.aP atY.2.1 atY.2.2.1 atY.2.2.2.1 atY.2.2.2.2).bind λaAW=>
 (bif aj aAW.2.2.2 then
 ((M.cZ aAW.1 aAW.2.1 aAW.2.2.1 aAW.2.2.2).bind λamj=>
 (bif aj amj.2.2.2.2.2.2.2.2.2 then
 (some ((44,0,x,[],true,[[D.int IntKind.i64 amj.1,D.int IntKind.i64 amj.2.1,D.str amj.2.2.1,D.str amj.2.2.2.1,D.sl false 5 (aB amj.2.2.2.2.2.1)]],amj.2.2.2.2.2.2.1,amj.2.2.2.2.2.2.2.1,amj.2.2.2.2.2.2.2.2.1,amj.2.2.2.2.2.2.2.2.2))) else none)) else none)) else none)) else none))) else none) else
 (bif aj alh.2.2.2.2 then
 ((M.aO 33 alh.2.1 alh.2.2.1 alh.2.2.2.1 alh.2.2.2.2).bind λaAX=>
 (bif aj aAX.2.2.2.2 then
 ((M.aP aAX.2.1 aAX.2.2.1 aAX.2.2.2.1 aAX.2.2.2.2).bind λaAY=>
 (bif aj aAY.2.2.2 then
 ((M.cZ aAY.1 aAY.2.1 aAY.2.2.1 aAY.2.2.2).bind λamk=>
 (bif aj amk.2.2.2.2.2.2.2.2.2 then
 (some ((44,0,x,[],true,[[D.int IntKind.i64 amk.1,D.int IntKind.i64 amk.2.1,D.str amk.2.2.1,D.str amk.2.2.2.1,D.sl false 5 (aB amk.2.2.2.2.2.1)]],amk.2.2.2.2.2.2.1,amk.2.2.2.2.2.2.2.1,amk.2.2.2.2.2.2.2.2.1,amk.2.2.2.2.2.2.2.2.2))) else none)) else none)) else none)) else none)))
def fpP(l:List Tk)(n:Nat)(x:aC)(j:Nat)(nt:fM):PR Tn:=(qL l 32 j nt).bind λ_ j nt=>(bif dX l j==33 then .ok [] j nt else Ho l n [] j nt).bind λL j nt=>(qL l 33 j nt).bind λ_ j nt=>(MW l n (nl l j nt).1 (nl l j nt).2).bind λb j nt=> .ok (.mk 44 0 x [] (L++[b])) j nt
def aFY(hl:l.length<=1048576)(n:Nat)(x:aC){i:Nat}{nt:fM}(hi:i<=l.length)(hn:nt.length<=i):AT l (fnC x (aF l) (i:Int) false (encS nt)) (fpP l n x i nt):=by
 rw[fnC,fpP];refine MZ (R:=AT l) hl (by decide) ?_ (λ_ hlt=> ?_)
 ·simp only[zaU,bC,dR,aH,uY,ah,Ir];refine AT.Dt (R:=λo=>AT l o (.bad i)) (av8 hl ak) λk op x y fl ks nt hn=> ?_
  simp only[dR,aH];exact AT.jX hn
 ·simp only[Bool.not_false,aH,dR,eu,ah,bne];cases h33:dX l (i+1)==33 with
  |true=>
   simp only[zaU,bC,dR,aH,PR.bind];have e33:dX l (i+1)=33:=by rwa [beq_iff_eq] at h33
   have hlt':=fK h33 (by decide);have hf:=O9 (l:=l) (i:=i+1+1) (nt:=nt) ak;simp only[qL,h33,aH,auC hl (by decide) e33,ah,dR,RQ hl (i+1+1) nt ak ak];refine AT.elim (R:=AT l) (asx hl n ak ak) (λ_=>trivial) (λk op x y fl ks j nt hn=> ?_) (λb fb kb j nt hb eb=> ?_)
   ·simp only[dR,aH];exact AT.jX hn
   ·simp only[dR,aH];exact AT.mk rfl rfl rfl rfl (fz1 (NG hb))
  |false=>
   simp only[Bool.not_false,aH,bC];have hp:=axQ hl x n (i:=i+1) (nt:=nt) ak ak;have asw:=apf (l:=l) n [] (i+1) nt ak;have h6:(Ho l n [] (i+1) nt).sat λL _ _=>L.length<=6:=anU n [] (i+1) nt (by decide)
   generalize Ho l n [] (i+1) nt=p at hp asw h6|-;cases p with
   |out=>trivial
   |bad j=>
    obtain⟨ZX,rows,h1,h2,h3|h3⟩:=hp
    ·rw[h3,ah];simp only[g2,kD,dR,aH,uY,ah,Ir];refine AT.Dt (R:=λo=>AT l o (.bad j)) (av8 hl h1) λk op x y fl ks nt hn=> ?_
     simp only[Jj,dR,aH];rw[bI ak,aH,bI ak,aH];exact AT.jX hn
    ·rw[h3,ah];simp only[g3,kD,dR,aH,uY,ah,Ir];refine AT.Dt (R:=λo=>AT l o (.bad j)) (av8 hl h1) λk op x y fl ks nt hn=> ?_
     simp only[Jj,dR,aH];rw[bI ak,aH,bI ak,aH];exact AT.jX hn
   |ok L j m=>
    have hp':_=_:=hp;have hs':i+1<j/\FN l (i+1) nt.length j m.length/\sizes L+m.length+6 * (i+1)<=sizes ([]:List Tn)+nt.length+6 * j:=asw;have h6':L.length<=6:=h6;rw[hp',ah];simp only[g2,kD,dR,aH,PR.bind];refine MZ (R:=AT l) hl (by decide) ?_ (λ_ hlt=> ?_)
    ·simp only[dR,aH,Ir,ah];refine AT.Dt (R:=λo=>AT l o (.bad j)) (av8 hl ak) λk op x y fl ks nt hn=> ?_
     simp only[Jj,dJ,dR,aH];rw[bI ak,aH,bI ak,aH];exact AT.jX hn
    ·have hf:=O9 (l:=l) (i:=j+1) (nt:=m) ak;simp only[dR,aH,RQ hl (j+1) m ak ak,ah];refine AT.elim (R:=AT l) (asx hl n ak ak) (λ_=>trivial) (λk op x y fl ks j nt hn=> ?_) (λb fb kb j nt hb eb=> ?_)
     ·simp only[Jj,dJ,dR,aH];rw[bI ak,aH,bI ak,aH];exact AT.jX hn
     ·simp only[Jj,dJ,dR,aH];rw[bI ak,aH,bI ak,aH];exact AT.mk rfl rfl rfl rfl (by rw[ae3,jv,fz1 (NG hb)];exact(AV _ _ _).symm)
def aSX(hl:l.length<=1048576)(n:Nat){i:Nat}{nt:fM}(hi:i<=l.length)(hn:nt.length<=i):AT l (M.oD (aF l) (i:Int) false (encS nt)) (ak5 l n i nt):=by
 simp only[M.oD,M.AU,M.CV,M.CW,M.zy,dR,aH,eu,ah,bne,ak5];cases h6:dX l i==6 with
 |true=>have hlt:=fK h6 (by decide);simp only[zaU,bC,dR,aH,MX hl hlt,ah,Bool.true_or];exact aFY hl n (MS l i) ak ak
 |false=>
  simp only[Bool.not_false,aH,Bool.false_or];cases h7:dX l i==7 with
  |true=>have hlt:=fK h7 (by decide);simp only[zaU,bC,dR,aH,MX hl hlt,ah];exact aFY hl n (MS l i) ak ak
  |false=>simp only[Bool.not_false,aH,bC,dR];exact AT.jX ak
def aAZ{k op:Int}{s s':aC}{fl:Bool}{ks:au}{x:Tn}{j:Nat}{nt:fM}(h1:k=x.kind)(h2:op=x.op)(h3:s=x.text)(h4:s'=x.other)(h5:aB ks=dO false x.kids)(hn:nt.length<=l.length):
  AT l ((M.jo (aF l) (j:Int) false (encS nt)).bind λr=>bif aj r.2.2.2 then some (k,op,s,s',fl,ks,r.1,r.2.1,r.2.2.1,r.2.2.2) else none) (endP l x j nt):=by
 rw[auA,ah];simp only[dR,aH];exact aAL h1 h2 h3 h4 h5 hn
def apm(hl:l.length<=1048576)(n:Nat)(k op:Int){i:Nat}{nt:fM}(hi:i<=l.length)(hn:nt.length<=i):
  AT l ((M.cZ (aF l) (i:Int) false (encS nt)).bind λr=>bif aj r.2.2.2.2.2.2.2.2.2 then some (k,op,[],[],true,[[D.int .i64 r.1,D.int .i64 r.2.1,D.str r.2.2.1,D.str r.2.2.2.1,D.sl false 5 (aB r.2.2.2.2.2.1)]],r.2.2.2.2.2.2.1,r.2.2.2.2.2.2.2.1,r.2.2.2.2.2.2.2.2.1,r.2.2.2.2.2.2.2.2.2) else none)
   ((MW l n i nt).bind λb i nt=> .ok (.mk k op [] [] [b]) i nt):=by
 refine AT.elim (R:=AT l) (asx hl n hi hn) (λ_=>trivial) (λk op x y fl ks j nt hn=> ?_) (λb fb kb j nt hb eb=> ?_)
 ·simp only[dR,aH];exact AT.jX hn
 ·simp only[dR,aH];exact AT.mk rfl rfl rfl rfl (fz1 (NG hb))
def aA0(hl:l.length<=1048576)(n:Nat){i:Nat}{nt:fM}(hi:i<=l.length)(hn:nt.length<=i):AT l (M.mg (aF l) (i:Int) false (encS nt)) (Xj l n i nt):=by
 simp only[M.mg,M.Il,M.FY,M.FZ,dR,aH,eu,ah,Xj];cases h10:dX l i==10 with
 |true=>have hlt:=fK h10 (by decide);simp only[aH,oG hl hlt];exact apm hl n 40 0 ak ak
 |false=>
 cases h11:dX l i==11 with
 |true=>have hlt:=fK h11 (by decide);simp only[aH,bC,oG hl hlt];exact apm hl n 41 0 ak ak
 |false=>
 cases h12:dX l i==12 with
 |true=>have hlt:=fK h12 (by decide);simp only[aH,bC,oG hl hlt];exact AT.pass (aSX hl n ak ak) (by intros;simp only[dR,aH])
 |false=>
 cases h30:dX l i==30 with
 |true=>simp only[aH,bC];exact apm hl n 42 2 hi hn
 |false=>
 simp only[bC];refine AP.elim (R:=AT l) (ala hl n false false hi hn) (λ_=>trivial) (λk op x y fl ks tg j nt hn=> ?_) (λx fx kx j nt hx ex=> ?_)
 ·simp only[zaU,bC,dR,aH];exact AT.jX hn
 ·have s1:=rF (JM ak ak hi) ex;simp only[Bool.not_false,aH,dR,eu,ah];cases h36:dX l j==36 with
  |false=>
   simp only[bC,PR.bind];cases hb:dX l j==30 with
   |false=>simp only[bC];exact aAZ rfl rfl rfl rfl (fz1 (NG hx)) ak
   |true=>
    simp only[aH];refine AT.elim (R:=AT l) (asx hl n ak ak) (λ_=>trivial) (λk op x y fl ks j nt hn=> ?_) (λb fb kb j nt hb eb=> ?_)
    ·simp only[dR,aH];exact AT.jX hn
    ·simp only[dR,aH];exact AT.mk rfl rfl rfl rfl (by rw[ae3,fz1 (NG hx),fz1 (NG hb)];rfl)
  |true=>
   have hlt:=fK h36 (by decide);have hf:=O9 (l:=l) (i:=j+1) (nt:=nt) ak;simp only[aH,oG hl hlt,RQ hl (j+1) nt ak ak,ah,dR];have e:∀p:PR Xp,((p.bind λy i nt=>PR.ok ((43:Int),[x.1,y.1]) i nt).bind λq i nt=>bif dX l i==30 then(MW l n i nt).bind λb i nt=>PR.ok (Tn.mk q.1 3 [] [] (q.2++[b])) i nt else endP l (Tn.mk q.1 1 [] [] q.2) i nt)=
     p.bind λy i nt=>bif dX l i==30 then(MW l n i nt).bind λb i nt=>PR.ok (Tn.mk 43 3 [] [] ([x.1,y.1]++[b])) i nt else endP l (Tn.mk 43 1 [] [] [x.1,y.1]) i nt:=by
    intro p;cases p<;>rfl
   rw[e];refine AP.elim (R:=AT l) (ala hl n false false ak ak) (λ_=>trivial) (λk op x y fl ks tg j nt hn=> ?_) (λy fy ky j nt hy ey=> ?_)
   ·simp only[zaU,bC,dR,aH];exact AT.jX hn
   ·have s2:=rF (JM ak ak ak) ey;simp only[Bool.not_false,aH,dR,eu,ah];cases hb:dX l j==30 with
    |false=>simp only[bC];exact aAZ rfl rfl rfl rfl (by rw[ae3,fz1 (NG hx),fz1 (NG hy)];rfl) ak
    |true=>
     simp only[aH];refine AT.elim (R:=AT l) (asx hl n ak ak) (λ_=>trivial) (λk op x y fl ks j nt hn=> ?_) (λb fb kb j nt hb eb=> ?_)
     ·simp only[dR,aH];exact AT.jX hn
     ·simp only[dR,aH];exact AT.mk rfl rfl rfl rfl (by rw[ae3,ae3,fz1 (NG hx),fz1 (NG hy),fz1 (NG hb)];rfl)
def axR(hl:l.length<=1048576){i:Nat}{nt:fM}(h:dX l i=31)(hi:i<=l.length)(hn:nt.length<=i):AT l (M.mg (aF l) (i:Int) false (encS nt)) (.bad i):=by
 have e:Xj l 20 i nt=.bad i:=by
  have e:ex l 20 1 false false i nt=.bad i:=av7 (.inr h) nt 1 (by decide) (by decide) 20 false false (by decide);have h1:(dX l i==10)=false:=by rw[h];rfl
  have h2:(dX l i==11)=false:=by rw[h];rfl
  have h3:(dX l i==12)=false:=by rw[h];rfl
  have h4:(dX l i==30)=false:=by rw[h];rfl
  simp only[Xj,h1,h2,h3,h4,bC,e];rfl
 have:=aA0 hl 20 hi hn
 rwa [e] at this
variable {l:List Tk}
abbrev P1:=au×Int×Int×au×Int×Bool×Int×Int×aC×aC×au
abbrev P2:=au×Int×Int×au×Int×Bool×Int×Int×aC×aC×au×au
def p1(l:List Tk)(i:Nat)(b:Bool)(nt:fM):P1:=(aF l,0,0,aF l,(i:Int),b,45,0,[],[],encS nt)
def p2(l:List Tk)(i:Nat)(b:Bool)(nt:fM)(rows:au):P2:=(aF l,0,0,aF l,(i:Int),b,45,0,[],[],encS nt,rows)
def AD(l:List Tk)(o:Option (P1⊕P2)):PR (List Tn)->Prop
 | .ok L' j ZX=>∃L0 i0 nt0 u,o=some u/\(u=.inl (p1 l i0 false nt0)/\L0=[]\/u=.inr (p2 l i0 false nt0 (dO false L0)))/\L'=L0++Yv nt0/\nt0.length<=l.length/\L0.length<=2 * l.length
 | .bad j=>∃u nt0,o=some u/\(u=.inl (p1 l j true nt0)\/∃rows:au,u=.inr (p2 l j true nt0 rows))
 | .out=>True
def anV(hl:l.length<=1048576)(hk:∀i,i<l.length->dX l i≠0):
  ∀n,∀(L:List Tn) (i:Nat) (nt:fM) (s:P1⊕P2),(s=.inl (p1 l (sep l i nt).1 false (sep l i nt).2)/\L=[]\/s=.inr (p2 l (sep l i nt).1 false (sep l i nt).2 (dO false L)))->i<=l.length->nt.length<=i->L.length+nt.length<=2 * i->
   AD l (M.Ag s) (O8 l n L i nt)
 |0,_,_,_,_,_,_,_,_=>by rw[O8];trivial
 |n+1,L,i,nt,s,hs,hi,hn,hL=>by
  have hq:=abK (l:=l) (i:=i) (nt:=nt) hi;simp only[O8];generalize hqe:sep l i nt=q at hs hq|-;rw[M.Ag];cases h0:dX l q.1==0 with
  |true=>
   have e0:dX l q.1=0:=by rwa [beq_iff_eq] at h0
   have hge:¬q.1<l.length:=λh=>hk q.1 h e0
   refine⟨L,q.1,q.2,s, ?_,hs,rfl,ak,ak⟩;rcases hs with⟨rfl,rfl⟩|rfl<;>refine aV ?_<;>simp only[yJ,M.sH,M.sG,p1,p2,Bool.not_false,aH,eH]<;>
    rw[xK ak,bC]
  |false=>
   have hlt:q.1<l.length:=iD (by rwa [Rf] at h0);have hb:M.sH s=(M.mg (aF l) (q.1:Int) false (encS [])).bind λr=>
     bif(((dO false (L++Yv q.2)).length+[[D.int .i64 r.1,D.int .i64 r.2.1,D.str r.2.2.1,D.str r.2.2.2.1,D.sl false 5 (aB r.2.2.2.2.2.1)]].length) * 72).ble 140737488355328 then
      (bif((dO false (L++Yv q.2)).length+[[D.int .i64 r.1,D.int .i64 r.2.1,D.str r.2.2.1,D.str r.2.2.2.1,D.sl false 5 (aB r.2.2.2.2.2.1)]].length).ble 140737488355328 then
      (bif aj r.2.2.2.2.2.2.2.2.2 then
       ((M.bQ r.2.2.2.2.2.2.1 r.2.2.2.2.2.2.2.1 r.2.2.2.2.2.2.2.2.1 r.2.2.2.2.2.2.2.2.2).bind λr'=>
       (some (.inl (.inr ((aF l,0,0,r'.1,r'.2.1,r'.2.2.1,45,0,[],[],r'.2.2.2,dO false (L++Yv q.2)++[[D.int .i64 r.1,D.int .i64 r.2.1,D.str r.2.2.1,D.str r.2.2.2.1,D.sl false 5 (aB r.2.2.2.2.2.1)]]):P2))))) else none) else none) else none:=by
    have hc:=Di (l:=l) (q.1:Int) false q.2 ak;have hlen:(L.length+q.2.length) * 72<=140737488355328:=ak;rcases hs with⟨rfl,rfl⟩|rfl
    ·simp only[yJ,M.sH,M.sG,p1,Bool.not_false,aH,eH];rw[zdt ak,aH];simp only[aH,dR,ah,hc,jv,List.nil_append];rw[show(dO false (Yv q.2)).length=q.2.length by rw[dJ,Dq],bI ak,aH,bI ak,aH]
    ·simp only[yJ,M.sH,M.sG,p2,Bool.not_false,aH,eH];rw[zdt ak,aH];simp only[aH,dR,ah,hc,jv,<-AV];rw[show(dO false L).length+(dO false (Yv q.2)).length=L.length+q.2.length by rw[dJ,dJ,Dq],bI ak,aH,bI ak,aH]
   rw[bC];have hbad:∀{j:Nat},AT l (M.mg (aF l) (q.1:Int) false (encS [])) (.bad j)->AD l (fV M.sH s) (.bad j):=by intro j hj;obtain⟨k,op,x,y,fl,ks,ZX,h1,h2⟩:=hj;rw[h2,ah] at hb;simp only[dJ,Ai,Dq,Jj,dR,aH,ak8,ah] at hb;rw[bI ak,aH,bI ak,aH] at hb;rw[bY hb];exact⟨_,ZX,aV rfl,.inr ⟨_,rfl⟩⟩
   cases h31:dX l q.1==31 with
   |true=>
    have e31:dX l q.1=31:=by rwa [beq_iff_eq] at h31
    exact hbad (axR hl e31 ak (Nat.zero_le _))
   |false=>
    rw[bC];have hr:=aA0 hl n (i:=q.1) (nt:=[]) ak (Nat.zero_le _);have asw:=av1 (l:=l) (n:=n) (i:=q.1) (nt:=[]) ak;generalize Xj l n q.1 []=p at hr asw|-;cases p with
    |out=>trivial
    |bad j=>exact hbad hr
    |ok x j m'=>obtain⟨fl,kt,h1,h2⟩:=hr;have aAP:FS l q.1 ([]:fM).length x.size j m'.length:=asw;rw[OT] at aAP;rw[h2,ah] at hb;simp only[af2 h1,dJ,Ai,Dq,Jj,dR,aH,anT hl j m' ak ak,ah] at hb;rw[bI ak,aH,bI ak,aH] at hb;rw[bY hb];refine anV hl hk n ((L++Yv q.2)++[x]) j m' _ (.inr rfl) ak ak ?_;simp only[Ai,Dq,Jj];omega
noncomputable def aEl(rows:au):Option (au×Int×Int):=
 (M.vY 45 0 [] [] rows).bind λr=>bif !bif r.1==0 then bif r.2==0 then true else false else false then some ([],r.1,r.2) else
  (M.qB 45 0 [] [] rows).bind λr'=>bif[[D.sl true 5 r']].all gI then some (r',0,0) else none
def AE(l:List Tk)(o:Option (au×Int×Int)):PR (List Tn)->Prop
 | .ok L _ _=>o=aEl (dO false L)
 | .bad j=>o=(M.pJ (aF l) (j:Int)).bind λr=>some ([],3,r)
 | .out=>True
def aEm(hl:l.length<=1048576)(hk:∀i,i<l.length->dX l i≠0)(h0:M.vX (aF l)=some (0,0))(n:Nat):AE l (M.iW (aF l)) (O8 l n [] 0 []):=by
 have hloop:=anV hl hk n [] 0 [] (.inl (p1 l (sep l 0 []).1 false (sep l 0 []).2)) (.inl ⟨rfl,rfl⟩) (Nat.zero_le _) (zaV _) (zaV _);have hsep:=anT hl 0 [] (Nat.zero_le _) (zaV _);have aSY:M.bQ (aF l) 0 false []=some (aF l,((sep l 0 []).1:Int),false,encS (sep l 0 []).2):=hsep;simp only[M.iW,M.yu,h0,ah,show((0:Int)==0)=true from rfl,aH,zaU,bC,aSY];generalize sep l 0 []=q at hloop;rw[p1] at hloop;generalize O8 l n [] 0 []=p at hloop|-;cases p with
 |out=>trivial
 |bad j=>
  obtain⟨u,nt0,h1,h3⟩:=hloop;rw[h1,ah];show _=(M.pJ (aF l) (j:Int)).bind λr=>some ([],3,r)
  rcases h3 with rfl|⟨rows,rfl⟩
  ·simp only[p1,kD,aH]
  ·simp only[p2,kD,letE,aH]
 |ok L' j ZX=>
  obtain⟨L0,i0,nt0,u,h1,h2,rfl,h4,h5⟩:=hloop;rw[h1,ah];show _=aEl _;rcases h2 with⟨rfl,rfl⟩|rfl
  ·simp only[p1,kD,bC,dR,aH,ah,Di (l:=l) _ _ nt0 ak,jv,dJ,Dq];rw[bI ak,aH,bI ak,aH];rfl
  ·simp only[p2,kD,letE,bC,dR,aH,ah,Di (l:=l) _ _ nt0 ak,jv,dJ,Dq,<-AV];rw[bI ak,aH,bI ak,aH];rfl
def aA1(w:Bool)(t:Tn):jD .i64 (t.row w) 0=some t.kind/\jD .i64 (t.row w) 1=some t.op/\cStr (t.row w) 2=some t.text/\cStr (t.row w) 3=some t.other/\cSl 5 (t.row w) 4=some (dO w t.kids):=by rw[aul];exact⟨rfl,rfl,rfl,rfl,rfl⟩
def anW{w:Bool}{ks:List Tn}{j:Nat}{t:Tn}(h:ks[j]? =some t):(dO w ks)[j]? =some (t.row w):=by rw[X7,List.getElem?_map,h];rfl
def av9(w:Bool):∀(f:Nat) (t:Tn) (a b:Int) (c d:aC),t.size<=f->t.size<=1048576->M.mF f a b c d (dO w t.kids)=some (t.size:Int)
 |0,t,_,_,_,_,hf,_=>by have:=t.size_pos;omega
 |f+1,.mk k op x y ks,a,b,c,d,hf,hs=>by
  rw[Tn.size] at hf hs;have hkl:=DK ks;simp only[M.mF,M.GI,Tn.kids,dJ];have hloop:=uJ (b:=M.F5 (M.mF f) (dO w ks) (ks.length:Int)) (t:=(((1+sizes ks:Nat):Int),(ks.length:Int))) (λj=>(((1+sizes (ks.take j):Nat):Int),(j:Int))) ks.length
   (by
    intro j hj;obtain⟨t,ht⟩:∃t,ks[j]? =some t:=⟨ks[j],by simp⟩
    have hst:=OH ht;obtain⟨r0,r1,r2,r3,r4⟩:=aA1 w t;have hrec:=av9 w f t t.kind t.op t.text t.other ak ak;simp only[yJ,M.F5,M.Af,cO,anW ht,ah,r0,r1,r2,r3,r4,hrec];rw[zdt ak,aH,aJ ak ak,aJ ak ak,List.take_add_one,ht,Option.toList_some,sizes1];congr 3;omega)
   (by simp only[yJ,M.F5,M.Af];rw[xK ak,bC,List.take_length]) 0 (Nat.zero_le _)
  have KJ:M.JK (M.mF f) (dO w ks) (ks.length:Int) (1,0)=_:=hloop;rw[KJ,ah,Tn.size,Nat.add_comm]
def dF:Nat->Tn->Int
 |0,_=>0
 |f+1,t=>mx 0 (t.kids.map (dF f))+1
def asz:∀f t,0<=dF f t/\dF f t<=f
 |0,t=>by simp[dF]
 |f+1,t=>by have:=afT (f:Int) (t.kids.map (dF f)) 0 ak (λx hx=>by obtain⟨k,_,rfl⟩:=List.mem_map.1 hx;exact(asz f k).2);rw[dF];omega
def asA(w:Bool):∀(f:Nat) (t:Tn) (a b:Int) (c d:aC),t.size<=f->f<=1048576->M.iU f a b c d (dO w t.kids)=some (dF f t)
 |0,t,_,_,_,_,hf,_=>by have:=t.size_pos;omega
 |f+1,.mk k op x y ks,a,b,c,d,hf,hs=>by
  rw[Tn.size] at hf;have hkl:=DK ks;have hdr:=asz (f+1) (.mk k op x y ks);simp only[M.iU,M.zA,Tn.kids,dJ];have hloop:=uJ (b:=M.qK (M.iU f) (dO w ks) (ks.length:Int)) (t:=(mx 0 (ks.map (dF f)),(ks.length:Int))) (λj=>(mx 0 ((ks.take j).map (dF f)),(j:Int))) ks.length
   (by
    intro j hj;obtain⟨t,ht⟩:∃t,ks[j]? =some t:=⟨ks[j],by simp⟩
    have hst:=OH ht;obtain⟨r0,r1,r2,r3,r4⟩:=aA1 w t;have hrec:=asA w f t t.kind t.op t.text t.other ak ak;simp only[yJ,M.qK,M.qJ,cO,anW ht,ah,r0,r1,r2,r3,r4,hrec];rw[zdt ak,aH,aJ ak ak,List.take_add_one,ht,Option.toList_some,List.map_append,zmc,List.map_nil,ai4];rfl)
   (by simp only[yJ,M.qK,M.qJ];rw[xK ak,bC,List.take_length]) 0 (Nat.zero_le _)
  have KJ:M.CX (M.iU f) (dO w ks) (ks.length:Int) (0,0)=_:=hloop;rw[KJ,ah];rw[dF] at hdr|-;simp only[Tn.kids] at hdr|-;rw[aJ ak ak]
def asB{l:List Nd}:∀(f:Nat) (t:Tn) (b:Nat),Lies l b t->dep l f (b+sizes t.kids)=dF f t
 |0,_,_,_=>rfl
 |f+1,.mk k op x y ks,b,h=>by
  rw[dep,dF];congr 2;rw[O7 (Lies.root' h)];simp only[Tn.kids];refine List.ext_getElem? λj=> ?_
  rw[List.getElem?_map,List.getElem?_map]
  by_cases hj:j<ks.length
  ·obtain⟨t,ht⟩:∃t,ks[j]? =some t:=⟨ks[j],by simp⟩
   rw[ai5 ht,ht];simp only[MI,ztn];rw[asB f t _ (Lies.ahe h ht)]
  ·have e:(Go.Vm.ends ks b).length=ks.length:=by rw[Go.Vm.jE]
   rw[List.getElem?_eq_none ak,List.getElem?_eq_none ak];rfl
def aA2(t:Tn)(h:t.size<=400):Jg (t.flat 0)=true:=by have hp:=t.size_pos;obtain⟨u,h1,h2⟩:=t.aas 0;rw[Jg,uK,OW,t.flat_length,if_pos ⟨hp,h⟩,WT];simp only[h1];rw[List.getElem?_append_right ak,h2,Nat.sub_self];rfl
def ab5(k:Int):Bool:=k==3||(k==4||(k==5||(k==6||(k==8||(k==33||(k==35||(k==51||(k==52||false))))))))
def auD(k:Int):M.fB k=some (ab5 k)/\M.jl k=some (ab5 k):=by simp only[M.fB,M.xW,M.jl,M.CB,ab5];cases k==3<;>first|exact⟨rfl,rfl⟩|(cases k==4<;>first|exact⟨rfl,rfl⟩|(cases k==5<;>first|exact⟨rfl,rfl⟩|(cases k==6<;>first|exact⟨rfl,rfl⟩|(cases k==8<;>first|exact⟨rfl,rfl⟩|(cases k==33<;>first|exact⟨rfl,rfl⟩|(cases k==35<;>first|exact⟨rfl,rfl⟩|(cases k==51<;>first|exact⟨rfl,rfl⟩|(cases k==52<;>exact⟨rfl,rfl⟩))))))))
def gd(A k7 n32 k2 n1 k5 e k58 k41:Bool):Bool:=A &&((!k7||n32) &&((!k2||n1) &&((!k5|| !e) &&((!k58||e) &&(!k41||e)))))
def n32:List Tk->Bool
 |[]=>false
 |u::_=>u.kind==32
def n1(z:Bool):List Tk->Bool
 |[]=>true
 |u::_=>u.kind==1||(z && u.kind==0)
def gT(z:Bool)(b:Int)(t:Tk)(r:List Tk):Bool:=gd (tX t.kind t.text) (t.kind==7) (n32 r) (t.kind==2) (n1 z r) (t.kind==5) (ab5 b) (t.kind==58) (t.kind==41)
def af7(z:Bool):Int->List Tk->Bool
 |_,[]=>true
 |b,t::r=>gT z b t r && af7 z t.kind r
def aSZ(s:aC):tX 0 s=false:=by
 cases s with
 |nil=>rfl
 |cons c s=>rfl
def aA3:∀(l:List Tk) (b:Int),af7 true b l=af7 false b l
 |[],_=>rfl
 |t::r,b=>by
  rw[af7,af7,aA3 r];cases r with
  |nil=>rfl
  |cons u r=>
   cases h:u.kind==0 with
   |true=>
    have e:u.kind=0:=by rwa [beq_iff_eq] at h
    have:af7 false t.kind (u::r)=false:=by rw[af7,gT,e,aSZ];rfl
    rw[this,Bool.and_false,Bool.and_false]
   |false=>rw[gT,gT,n1,n1,h];rfl
section
variable {l:List Tk} (hl:l.length<=3000) (hf:∀t,t∈l->I64 t.kind/\t.text.length<=1048576)
include hl hf
theorem axS{i:Nat}{t:Tk}(ht:l[i]? =some t)(b:Int):M.CO (aF l) (aF l) (l.length:Int) (b,(i:Int))=some (bif gT true b t (l.drop (i+1)) then .inl (t.kind,((i+1:Nat):Int)) else .inr (.inl ())):=by
 have hi:=(QV.1 ht).1;have hft:=hf t (UK ht);have hw:i64.wrap ((i:Int)+1)=((i+1:Nat):Int):=by rw[aJ ak ak];omega
 have hT:=(aeV t.kind t.text t.at_ hft.2 hft.1).2;have hE:=(auD b).2;simp only[M.CO,M.CJ,M.kE,eH,hw];rw[zdt ak,aH];simp only[cO,pX,ht,MI,ah,cT0,cT1,cT2]
 by_cases h2:i+1<l.length
 ·obtain⟨u,hu⟩:∃u,l[i+1]? =some u:=⟨l[i+1],by simp[h2]⟩
  have hd:l.drop (i+1)=u::l.drop (i+2):=by rw[List.drop_eq_getElem_cons h2];rw[List.getElem?_eq_getElem h2] at hu;rw[Option.some.inj hu]
  rw[hd,gT,n32,n1,zdt ak,aH];simp only[hu,MI,ah,cT0,cT1,cT2,hT,hE,bne,aH,Bool.true_and];cases tX t.kind t.text<;>cases t.kind==7<;>cases u.kind==32<;>cases t.kind==2<;>cases u.kind==1<;>cases u.kind==0<;>cases t.kind==5<;>cases ab5 b<;>cases t.kind==58<;>cases t.kind==41<;>rfl
 ·have hd:l.drop (i+1)=[]:=List.drop_of_length_le ak;rw[hd,gT,n32,n1,xK ak,bC];simp only[hT,hE,ah,bne,bC];cases tX t.kind t.text<;>cases t.kind==7<;>cases t.kind==2<;>cases t.kind==5<;>cases ab5 b<;>cases t.kind==58<;>cases t.kind==41<;>rfl
end
def anX{l:List Tk}{z:Bool}{B:Int×Int->Option ((Int×Int)⊕(Unit⊕(Int×Int)))}(hb:∀(i:Nat) (t:Tk) (b:Int),l[i]? =some t->B (b,(i:Int))=some (bif gT z b t (l.drop (i+1)) then .inl (t.kind,((i+1:Nat):Int)) else .inr (.inl ())))
  (he:∀b,B (b,(l.length:Int))=some (.inr (.inr (b,(l.length:Int))))):∀(n i:Nat) (b:Int),l.length - i=n->i<=l.length->∃b',fV B (b,(i:Int))=some (bif af7 z b (l.drop i) then .inr (b',(l.length:Int)) else .inl ())
 |0,i,b,hn,hi=>by obtain rfl:i=l.length:=ak;rw[List.drop_length,af7];exact⟨b,aV (he b)⟩
 |n+1,i,b,hn,hi=>by
  have h2:i<l.length:=ak;obtain⟨t,ht⟩:∃t,l[i]? =some t:=⟨l[i],by simp[h2]⟩
  have hd:l.drop i=t::l.drop (i+1):=by rw[List.drop_eq_getElem_cons h2];rw[List.getElem?_eq_getElem h2] at ht;rw[Option.some.inj ht]
  have h:=hb i t b ht;rw[hd,af7];cases hg:gT z b t (l.drop (i+1)) with
  |false=>rw[hg,bC] at h;exact⟨0,aV h⟩
  |true=>rw[hg,aH] at h;obtain⟨b',h'⟩:=anX hb he n (i+1) t.kind ak ak;exact⟨b',by rw[bY h,h',Bool.true_and]⟩
def Wq(l:List Tk):Bool:=decide (l.length<=3000) && af7 false 0 l
def alj{z:Bool}:∀(l:List Tk) (b:Int),af7 z b l=true->∀t,t∈l->tX t.kind t.text=true
 |[],_,_,t,h=>by cases h
 |u::r,b,h,t,ht=>by
  rw[af7,BK] at h;rcases List.mem_cons.1 ht with rfl|ht
  ·have:=h.1;rw[gT,gd,BK] at this;exact this.1
  ·exact alj r _ h.2 t ht
def auE{l:List Tk}(h:Wq l=true):∀i,i<l.length->dX l i≠0:=λi hi e=>by
 rw[Wq,BK] at h;obtain⟨t,ht⟩:∃t,l[i]? =some t:=⟨l[i],by simp[hi]⟩
 have:=alj l 0 h.2 t (UK ht);rw[dX,ht] at e;have e':t.kind=0:=e;rw[e',aSZ] at this;cases this
def asC(k:Int):Bool:=k==32||(k==34||k==30)
def auF(k:Int):Bool:=k==33||(k==35||k==31)
def nst(d k:Int):Int:=bif asC k then d+1 else bif auF k then(bif decide (d - 1<0) then 0 else d - 1) else d
def anY:Int->Nat->List Tk->Option Nat
 |_,_,[]=>none
 |d,i,t::r=>bif decide (nst d t.kind>40) then some i else anY (nst d t.kind) (i+1) r
def aS0{d k:Int}(h:asC k=true):nst d k=d+1:=by rw[nst,h];rfl
def aS1{d k:Int}(h:asC k=false)(h2:auF k=true):nst d k=(bif decide (d - 1<0) then 0 else d - 1):=by rw[nst,h,h2];rfl
def aS2{d k:Int}(h:asC k=false)(h2:auF k=false):nst d k=d:=by rw[nst,h,h2];rfl
def axT{d k:Int}(h0:0<=d)(h1:d<=40):0<=nst d k/\nst d k<=41:=by
 rw[nst];cases asC k<;>cases auF k<;>simp only[aH,bC]
 ·omega
 ·cases h:decide (d - 1<0)<;>simp only[decide_eq_true_eq,decide_eq_false_iff_not] at h<;>simp only[aH,bC]<;>omega
 ·omega
 ·omega
section
variable {l:List Tk} (hl:l.length<=3000)
include hl
end
def anZ{l:List Tk}{B:Int×Int->Option ((Int×Int)⊕(Int⊕(Int×Int)))}(hb:∀(i:Nat) (t:Tk) (d:Int),l[i]? =some t->0<=d->d<=40->B (d,(i:Int))=some (bif decide (nst d t.kind>40) then .inr (.inl (i:Int)) else .inl (nst d t.kind,((i+1:Nat):Int))))
  (he:∀d,B (d,(l.length:Int))=some (.inr (.inr (d,(l.length:Int))))):∀(n i:Nat) (d:Int),l.length - i=n->i<=l.length->0<=d->d<=40->∃d',fV B (d,(i:Int))=some (match anY d i (l.drop i) with|some p=> .inl (p:Int)|none=> .inr (d',(l.length:Int)))
 |0,i,d,hn,hi,_,_=>by obtain rfl:i=l.length:=ak;rw[List.drop_length,anY];exact⟨d,aV (he d)⟩
 |n+1,i,d,hn,hi,h0,h1=>by
  have h2:i<l.length:=ak;obtain⟨t,ht⟩:∃t,l[i]? =some t:=⟨l[i],by simp[h2]⟩
  have hd:l.drop i=t::l.drop (i+1):=by rw[List.drop_eq_getElem_cons h2];rw[List.getElem?_eq_getElem h2] at ht;rw[Option.some.inj ht]
  have h:=hb i t d ht h0 h1;have hr:=axT (k:=t.kind) h0 h1;rw[hd,anY]
  by_cases hg:nst d t.kind>40
  ·rw[zdt hg,aH] at h|-;exact⟨0,aV h⟩
  ·rw[xK hg,bC] at h|-;obtain⟨d',h'⟩:=anZ hb he n (i+1) (nst d t.kind) ak ak hr.1 ak;exact⟨d',by rw[bY h,h']⟩
def alk(l:List Tk):Int:=match anY 0 0 l with
 |some p=>p
 |none=> -1
def opF(s:aC):List (aC)->Nat->Int->Nat->Int×Nat
 |[],_,k,m=>(k,m)
 |g::l,i,k,m=>bif Nat.blt m g.length && g.isPrefixOf s then opF s l (i+1) (30+(i:Int)) g.length else opF s l (i+1) k m
def apn(s:aC):∀(l:List (aC)) (i:Nat) (k:Int) (m:Nat),(opF s l i k m).2=anO s l m
 |[],_,_,_=>rfl
 |g::l,i,k,m=>by
  rw[opF,anO];cases(Nat.blt m g.length && g.isPrefixOf s) with
  |true=>rw[aH,aH,apn s l]
  |false=>rw[bC,bC,apn s l]
def apo(s:aC)(L:List (aC)){b:Int×Int×Int->Option (Int×Int×Int⊕Int×Int×Int)}
  (hb:∀(i:Nat) g k (m:Nat),L[i]? =some g->m<=2->b (k,(m:Int),(i:Int))=some (.inl (bif Nat.blt m g.length && g.isPrefixOf s then(30+(i:Int),(g.length:Int),(i:Int)+1) else(k,(m:Int),(i:Int)+1))))
  (he:∀k m,b (k,m,(L.length:Int))=some (.inr (k,m,(L.length:Int)))) (h2:∀g,g∈L->g.length<=2):
  fV b (0,0,0)=some ((opF s L 0 0 0).1,((opF s L 0 0 0).2:Int),(L.length:Int)):=by
 have key:∀(t:List (aC)) (i:Nat) (k:Int) (m:Nat),L.drop i=t->i<=L.length->m<=2->fV b (k,(m:Int),(i:Int))=some ((opF s t i k m).1,((opF s t i k m).2:Int),(L.length:Int)):=by
  intro t;induction t with
  |nil=>
   intro i k m hd hi hm;have:i=L.length:=by have:=congrArg List.length hd;simp at this;omega
   subst this;exact aV (he _ _)
  |cons g t ih=>
   intro i k m hd hi hm;have hx:L[i]? =some g:=by
    have:(L.drop i)[0]? =some g:=by rw[hd];rfl
    simpa using this
   have hlt:i<L.length:=(QV.1 hx).1;have hd':L.drop (i+1)=t:=by rw[<-List.drop_drop,hd];rfl
   have hs:=hb i g k m hx hm;have hg:=h2 g (UK hx);rw[opF];cases hc:(Nat.blt m g.length && g.isPrefixOf s) with
   |true=>rw[hc,aH] at hs;rw[bY hs,aH,show(i:Int)+1=((i+1:Nat):Int) by omega,ih (i+1) _ _ hd' hlt hg]
   |false=>rw[hc,bC] at hs;rw[bY hs,bC,show(i:Int)+1=((i+1:Nat):Int) by omega,ih (i+1) _ _ hd' hlt hm]
 have:=key L 0 0 0 rfl (Nat.zero_le _) ak;rw[ND] at this;exact this
def aS3{α:Type}(s:List α)(n:Nat)(h:n<=s.length):cut s 0 (n:Int)=some (s.take n):=by unfold cut;rw[zdt ak,zdt ak,zdt ak];simp
def pre_eq:∀(g s:aC),g.length<=s.length->(s.take g.length==g)=g.isPrefixOf s
 |[],s,_=>by simp
 |x::g,[],h=>by simp at h
 |x::g,y::s,h=>by
  have hr:=pre_eq g s (by simpa using h);have hxy:(y==x)=(x==y):=by rw[Bool.eq_iff_iff,beq_iff_eq,beq_iff_eq];exact⟨Eq.symm,Eq.symm⟩
  rw[List.isPrefixOf,GX,List.take_succ_cons,<-hr,<-hxy];rfl
def ahl(g s:aC)(h:s.length<g.length):g.isPrefixOf s=false:=by
 cases hp:g.isPrefixOf s with
 |false=>rfl
 |true=>have:=(List.isPrefixOf_iff_prefix.1 hp).length_le;omega
def apq(s g:aC):M.strings_HasPrefix s g=some (g.isPrefixOf s):=by
 simp only[M.strings_HasPrefix,M.FW,M.jG,M.pR]
 by_cases h:g.length<=s.length
 ·rw[zdt ak,aH,aS3 s g.length h,ah,ah,pre_eq g s h]
 ·rw[xK ak,bC,ah,ahl g s ak]
def asD:∀g,g∈UD->g.length<=2:=by decide+kernel
def ai9(m n:Nat):decide ((n:Int)>(m:Int))=Nat.blt m n:=by
 cases hb:Nat.blt m n with
 |true=>rw[Nat.blt_eq] at hb;exact zdt ak
 |false=>
  have:¬m<n:=by rw[<-Nat.blt_eq,hb];simp
  exact xK ak
def aA4{s:aC}(h:s≠[])(hl:s.length<=2000000):∃c,idx s (i64.wrap ((s.length:Int) - 1))=some c/\lastB s=(c.toNat:Int):=by
 have hn:1<=s.length:=by cases s with|nil=>exact absurd rfl h|cons=>simp
 obtain⟨c,hc⟩:∃c,s[s.length - 1]? =some c:=⟨s[s.length - 1],by simp⟩
 refine⟨c, ?_, ?_⟩
 ·rw[aJ ak ak,show((s.length:Int) - 1)=((s.length - 1:Nat):Int) by omega,cO,hc]
 ·rw[lastB,List.getLast?_eq_getElem?,hc]
def aEn{s:aC}(h:s≠[]):∃c,idx s 0=some c/\aun s=(c.toNat:Int):=by
 cases s with
 |nil=>exact absurd rfl h
 |cons c s=>exact⟨c,rfl,rfl⟩
def af8(c:UInt8):i64.wrap (c.toNat:Int)=(c.toNat:Int):=by have:=arZ c;exact aJ ak ak
def asE(a b:Tk):Ur a b=bif a.text==[] then false else bif b.text==[] then false else bif a.kind==2 then false else bif a.kind==1 then false else bif b.kind==1 then false else
 bif isW (lastB a.text) && isW (aun b.text) then true else
 bif a.kind==3 &&(isW (aun b.text)||aun b.text==46) then true else
 bif a.kind==6 && b.kind==32 then true else
 bif !(decide (30<=a.kind) && decide (a.kind<=68)) then false else Nat.blt a.text.length (anO (a.text++b.text) UD 0):=by
 unfold Ur;simp only[ae2]
def apr(s:aC)(h0:s≠[])(hs:s.length<=4000000):M.zn s 0=some ((opF s UD 0 0 0).1,((anO s UD 0:Nat):Int)):=by
 have hl:UD.length=39:=rfl;have hn:1<=s.length:=by cases s with|nil=>exact absurd rfl h0|cons=>simp
 simp only[M.zn,M.Ug,M.Qd,akN,ah];rw[apo s UD (λi g k m hg hm=> ?_) (λk m=> ?_) asD,ah,apn]
 ·have hi:=(QV.1 hg).1;rw[hl] at hi;have hg2:=asD g (UK hg);have hw1:i64.wrap (30+(i:Int))=30+(i:Int):=aJ ak ak;have hw2:i64.wrap ((i:Int)+1)=(i:Int)+1:=aJ ak ak;have hw3:i64.wrap ((s.length:Int) - 0)=(s.length:Int):=by rw[aJ ak ak];omega
  have hw4:i64.wrap (0+(g.length:Int))=(g.length:Int):=by rw[aJ ak ak];omega
  simp only[M.Kr,M.BZ,KI,cO,Yr,ztn,hg,MI,ah,cS0,hw1,hw2,hw3,hw4,hl];rw[zdt (show((i:Int))<((39:Nat):Int) by omega),aH,zdt (show(0:Int)>=0 by omega),aH,zdt (show(0:Int)<=(s.length:Int) by omega),aH]
  by_cases hq:g.length<=s.length
  ·rw[zdt ak,aH,aS3 s g.length hq,ah,pre_eq g s hq,ai9];cases Nat.blt m g.length<;>cases g.isPrefixOf s<;>rfl
  ·rw[xK ak,bC,ahl g s ak,Bool.and_false];rfl
 ·simp only[M.Kr,M.BZ,KI];rw[xK ak,bC]
def YB(a b:Tk)(ha:a.text.length<=2000000)(hb:b.text.length<=2000000):M.sN a.kind a.text a.at_ b.kind b.text b.at_=some (Ur a b):=by
 rw[asE];simp only[M.sN,M.N7,M.BH]
 by_cases h1:a.text=[]
 ·rw[show(a.text==[])=true by simpa using h1,aH,aH]
 ·rw[show(a.text==[])=false by simpa using h1,bC,bC]
  by_cases h2:b.text=[]
  ·rw[show(b.text==[])=true by simpa using h2,aH,aH]
  ·obtain⟨c,hc,hc'⟩:=aA4 h1 ha;obtain⟨d,hd,hd'⟩:=aEn h2;have hop:=apr (a.text++b.text) (by simp[h1]) (by simp only[Ai];omega);rw[show(b.text==[])=false by simpa using h2,bC,bC,hc',hd'];have hnn:∀(c:Bool) (r:Bool),some (bif !c then false else r)=bif c then some r else some false:=by intro c r;cases c<;>rfl
   simp only[hc,hd,ah,af8,Fv,dL,hop,ai9,ge_iff_le,ae2,av3,Yy,hnn,bI (show a.text.length+b.text.length<=9223372036854775807 by omega),aH]
def sub(s:aC)(i e:Nat):aC:=(s.drop i).take (e - i)
def Vq{s:aC}{i e:Nat}(h1:i<=e)(h2:e<=s.length):(sub s i e).length=e - i:=by rw[sub,zlt,List.length_drop];omega
def JO{s:aC}{i e:Nat}(h1:i<=e)(h2:e<=s.length):cut s (i:Int) (e:Int)=some (sub s i e):=by unfold cut;rw[zdt ak,zdt ak,zdt ak];simp[sub]
def aps(s:aC)(i:Nat):sub s i s.length=s.drop i:=by rw[sub,List.take_of_length_le];rw[List.length_drop];omega
def OI(s:aC)(i:Nat):Nat:=i+((s.drop i).takeWhile λc=>isW (c.toNat:Int)).length
def abM(s:aC)(i:Nat):Nat:=i+((s.drop i).takeWhile λc=> !(c==10)).length
def apt{s:aC}{i:Nat}(h:i<=s.length):OI s i<=s.length:=by have:=(List.takeWhile_prefix (l:=s.drop i) λc=>isW (c.toNat:Int)).length_le;rw[List.length_drop] at this;unfold OI;omega
def apu{s:aC}{i:Nat}(h:i<=s.length):abM s i<=s.length:=by have:=(List.takeWhile_prefix (l:=s.drop i) λc=> !(c==10)).length_le;rw[List.length_drop] at this;unfold abM;omega
def asF(p:UInt8->Bool){s:aC}{i:Nat}{c:UInt8}(h:s[i]? =some c):((s.drop i).takeWhile p).length=bif p c then((s.drop (i+1)).takeWhile p).length+1 else 0:=by have hl:=(QV.1 h).1;rw[List.drop_eq_getElem_cons hl];have hc:s[i]=c:=(QV.1 h).2;rw[hc,List.takeWhile_cons];cases p c<;>simp
def ahm{s:aC}{i:Nat}{c:UInt8}(h:s[i]? =some c):OI s i=bif isW (c.toNat:Int) then OI s (i+1) else i:=by
 unfold OI;rw[asF (λc=>isW (c.toNat:Int)) h];cases isW (c.toNat:Int)
 ·rfl
 ·simp only[aH];omega
def an0{s:aC}{i:Nat}{c:UInt8}(h:s[i]? =some c):abM s i=bif c==10 then i else abM s (i+1):=by
 unfold abM;rw[asF (λc=> !(c==10)) h];cases c==10
 ·simp only[Bool.not_false,aH,bC];omega
 ·rfl
def XH(k:Int):Bool:=k==3||(k==4||(k==5||(k==6||(k==8||(k==33||(k==35||(k==51||k==52)))))))
def abN(k:Int):M.fB k=some (XH k)/\M.jl k=some (XH k):=by simp only[M.fB,M.xW,M.jl,M.CB,XH];cases k==3<;>cases k==4<;>cases k==5<;>cases k==6<;>cases k==8<;>cases k==33<;>cases k==35<;>cases k==51<;>cases k==52<;>exact⟨rfl,rfl⟩
def af9(b:Int):Bool:=b==32||b==9
def alm(b:Int):M.Ea b=some (af9 b)/\M.D8 b=some (af9 b):=by simp only[M.Ea,M.QE,M.D8,M.Ql,af9];cases b==32<;>cases b==9<;>exact⟨rfl,rfl⟩
def aga{s:aC}(h:s.length<=1048576){r:Int}(h0:0<=r):r<=Xz s r/\(Xz s r<=r\/Xz s r<=s.length):=by
 have r1:=KH h (a:=r+1) ak;have r2:=KH h (a:=r+1+1) ak;unfold Xz;cases(qh s r==101)||(qh s r==69) with
 |false=>rw[bC];omega
 |true=>
  rw[aH];cases(qh s (r+1)==43)||(qh s (r+1)==45) with
  |true=>
   rw[aH];cases hd:decide (EO s (r+1+1)>r+1+1) with
   |true=>rw[aH];rw[decide_eq_true_eq] at hd;omega
   |false=>rw[bC];omega
  |false=>
   rw[bC];cases hd:decide (EO s (r+1)>r+1) with
   |true=>rw[aH];rw[decide_eq_true_eq] at hd;omega
   |false=>rw[bC];omega
def Xm{s:aC}{a:Int}(h:(s.length:Int)<=a):qh s a= -1:=by unfold qh;rw[if_pos ak,List.getElem?_eq_none ak]
def Vr{s:aC}(h:s.length<=1048576){i:Nat}(hi:i<s.length):Wj s i<0\/((i:Int)<Wj s i/\Wj s i<=s.length):=by
 have r1:=KH h (a:=(i:Int)) ak;have r2:=KH h (a:=EO s i+1) ak;have e1:=aga h (r:=EO s (EO s i+1)) ak;have e2:=aga h (r:=EO s i) ak;unfold Wj;rw[if_neg ak];cases hp:qh s (EO s i)==46 with
 |true=>
  rw[aH];have hlt:EO s i<s.length:=by
   by_cases hc:EO s i<s.length
   ·exact hc
   ·rw[Xm ak] at hp;cases hp
  cases hq:(EO s i==(i:Int)) &&(EO s (EO s i+1)==EO s i+1) with
  |true=>rw[aH];omega
  |false=>rw[bC];omega
 |false=>
  rw[bC];cases hq:EO s i==(i:Int) with
  |true=>rw[aH];omega
  |false=>rw[bC];rw[Rf] at hq;omega
def ae4(q:Int):∀(n:Nat) (l:aC) (i:Int),l.length<=n->0<=i->afQ q l i<0\/(i<afQ q l i/\afQ q l i<=i+(l.length:Int))
 |n,[],i,_,h0=>by rw[afQ];omega
 |0,c::l,i,hn,_=>by simp at hn
 |n+1,c::l,i,hn,h0=>by
  rw[aha];rw[GX] at hn|-
  by_cases h1:(c.toNat:Int)=q
  ·rw[if_pos h1];omega
  rw[if_neg h1]
  by_cases h2:(c.toNat:Int)=10
  ·rw[if_pos h2];omega
  rw[if_neg h2]
  by_cases h3:(c.toNat:Int)=92
  ·rw[if_pos h3];cases l with
   |nil=>simp only[];omega
   |cons d l=>
    simp only[];rw[GX] at hn|-
    by_cases h4:(d.toNat:Int)=10
    ·rw[if_pos h4];omega
    ·rw[if_neg h4];have:=ae4 q n l (i+2) ak ak;omega
  ·rw[if_neg h3];have:=ae4 q n l (i+1) ak ak;omega
def Vs{s:aC}{q:Int}{i:Nat}(hi:i<s.length):quoted s i q<0\/((i:Int)<quoted s i q/\quoted s i q<=s.length):=by
 unfold quoted;split
 ·have:=ae4 q _ (s.drop ((i:Int)+1).toNat) ((i:Int)+1) (zaV _) ak;rw[List.length_drop] at this;omega
 ·omega
def ahn{s:aC}{i:Nat}(hi:i<s.length):XA s i<0\/((i:Int)<XA s i/\XA s i<=s.length):=by
 have:=Vs (s:=s) (q:=47) hi;unfold XA;cases quoted s i 47==(i:Int)+2 with
 |true=>rw[aH];omega
 |false=>rw[bC];exact this
def aln(s:aC):∀(l:List (aC)) (i:Nat) (k:Int) (m:Nat),((k=0/\m=0)\/(30<=k/\1<=m))->(((opF s l i k m).1=0/\(opF s l i k m).2=0)\/(30<=(opF s l i k m).1/\1<=(opF s l i k m).2))
 |[],_,_,_,h=>h
 |g::l,i,k,m,h=>by
  rw[opF];cases hc:(Nat.blt m g.length && g.isPrefixOf s) with
  |false=>rw[bC];exact aln s l (i+1) k m h
  |true=>rw[aH];rw[BK,Nat.blt_eq] at hc;exact aln s l (i+1) _ _ (.inr ak)
def apv(s:aC):∀(l:List (aC)) (i:Nat) (k:Int) (m:Nat),m<=s.length->(opF s l i k m).2<=s.length
 |[],_,_,_,h=>h
 |g::l,i,k,m,h=>by
  rw[opF];cases hc:(Nat.blt m g.length && g.isPrefixOf s) with
  |false=>rw[bC];exact apv s l (i+1) k m h
  |true=>rw[aH];rw[BK] at hc;exact apv s l (i+1) _ _ (List.isPrefixOf_iff_prefix.1 hc.2).length_le
def opK(s:aC)(i:Nat):Int:=(opF (s.drop i) UD 0 0 0).1
def opN(s:aC)(i:Nat):Nat:=(opF (s.drop i) UD 0 0 0).2
def awc(s:aC)(i:Nat):(opK s i=0/\opN s i=0)\/(30<=opK s i/\1<=opN s i):=aln _ _ _ _ _ (.inl ⟨rfl,rfl⟩)
def auG{s:aC}{i:Nat}(h:i<=s.length):i+opN s i<=s.length:=by have:=apv (s.drop i) UD 0 0 0 (Nat.zero_le _);rw[List.length_drop] at this;unfold opN;omega
def apw(s:aC)(i:Nat)(h0:i<s.length)(hs:s.length<=4000000):M.Ld s (i:Int)=some (opK s i,(opN s i:Int)):=by
 have hl:UD.length=39:=rfl;simp only[M.Ld,M.WV,M.Vk,eP,ah];rw[aJ ak ak,zdt ak,zdt ak,Bool.and_self,zaU,bC];have hc:=JO (s:=s) (i:=i) (Nat.le_of_lt h0) (zaV _);rw[aps] at hc;rw[apo (s.drop i) UD (λj g k m hg hm=> ?_) (λk m=> ?_) asD,ah]
 ·rfl
 ·have hi:=(QV.1 hg).1;rw[hl] at hi;have hsc:=avV j hi;simp only[VP,hg] at hsc;simp only[M.aaw,M.Qq,ztn,hsc,ah,hc,apq,ai9];rw[zdt ak,zdt ak,aJ ak ak,aJ ak ak];cases Nat.blt m g.length<;>cases g.isPrefixOf (s.drop i)<;>rfl
 ·rw[hl];rfl
def apx(s:aC)(i:Nat)(h0:i<s.length)(hs:s.length<=4000000):M.zn s (i:Int)=some (opK s i,(opN s i:Int)):=by
 have hl:UD.length=39:=rfl;simp only[M.zn,M.Ug,M.Qd,akN,ah];rw[apo (s.drop i) UD (λj g k m hg hm=> ?_) (λk m=> ?_) asD,ah]
 ·rfl
 ·have hi:=(QV.1 hg).1;rw[hl] at hi;have hg2:=asD g (UK hg);have hw1:i64.wrap (30+(j:Int))=30+(j:Int):=aJ ak ak;have hw2:i64.wrap ((j:Int)+1)=(j:Int)+1:=aJ ak ak;have hw3:i64.wrap ((s.length:Int) - (i:Int))=((s.length - i:Nat):Int):=by rw[aJ ak ak];omega
  have hw4:i64.wrap ((i:Int)+(g.length:Int))=((i+g.length:Nat):Int):=by rw[aJ ak ak];omega
  simp only[M.Kr,M.BZ,KI,cO,Yr,ztn,hg,MI,ah,cS0,hw1,hw2,hw3,hw4,hl];rw[zdt (show((j:Int))<((39:Nat):Int) by omega),aH,zdt (show(i:Int)>=0 by omega),aH,zdt (show(i:Int)<=(s.length:Int) by omega),aH]
  by_cases hq:g.length<=s.length - i
  ·have hcs:=JO (s:=s) (i:=i) (e:=i+g.length) ak ak;have hpe:=pre_eq g (s.drop i) (by rw[List.length_drop];exact hq);have hse:sub s i (i+g.length)=(s.drop i).take g.length:=by rw[sub,show i+g.length - i=g.length by omega]
   rw[zdt ak,aH,hcs,ah,hse,hpe,ai9];cases Nat.blt m g.length<;>cases g.isPrefixOf (s.drop i)<;>rfl
  ·rw[xK ak,bC,ahl g (s.drop i) (by rw[List.length_drop];omega),Bool.and_false];rfl
 ·simp only[M.Kr,M.BZ,KI];rw[xK ak,bC]
def an1{s:aC}{b:(aC×Int×Bool)⊕(aC×Int)->Option (((aC×Int×Bool)⊕(aC×Int))⊕(aC×Int))}(hs:s.length<=1048576)
  (h1:∀(a:Int) (v:Bool),b (.inl (s,a,v))=some (bif isW (qh s a) then .inl (.inr (s,i64.wrap (a+1))) else .inr (s,a)))
  (h2:∀(a:Int),b (.inr (s,a))=some (bif isW (qh s a) then .inl (.inr (s,i64.wrap (a+1))) else .inr (s,a))) (v:Bool) {i:Nat} (hi:i<=s.length):fV b (.inl (s,(i:Int),v))=some (s,(OI s i:Int)):=by
 have key:∀(n i:Nat),s.length - i<=n->i<=s.length->fV b (.inr (s,(i:Int)))=some (s,(OI s i:Int)):=by
  intro n;induction n with
  |zero=>
   intro i hn hi;have e:i=s.length:=ak;subst e;refine aV ?_;rw[h2,Xm (Int.le_refl _)];have:OI s s.length=s.length:=by unfold OI;simp
   rw[this];rfl
  |succ n ih=>
   intro i hn hi
   by_cases hlt:i<s.length
   ·obtain⟨c,hc⟩:∃c,s[i]? =some c:=⟨s[i],by simp[hlt]⟩
    have hb:qh s (i:Int)=(c.toNat:Int):=by rw[Ip,hc]
    have hst:=ahm hc;cases hw:isW (c.toNat:Int) with
    |true=>rw[hw,aH] at hst;have hx:=h2 (i:Int);rw[hb,hw,aH,aJ ak ak] at hx;rw[bY hx,hst,show(i:Int)+1=((i+1:Nat):Int) by omega];exact ih (i+1) ak ak
    |false=>rw[hw,bC] at hst;refine aV ?_;rw[h2,hb,hw,bC,hst]
   ·exact ih i ak hi
 by_cases hlt:i<s.length
 ·obtain⟨c,hc⟩:∃c,s[i]? =some c:=⟨s[i],by simp[hlt]⟩
  have hb:qh s (i:Int)=(c.toNat:Int):=by rw[Ip,hc]
  have hst:=ahm hc;cases hw:isW (c.toNat:Int) with
  |true=>rw[hw,aH] at hst;have hx:=h1 (i:Int) v;rw[hb,hw,aH,aJ ak ak] at hx;rw[bY hx,hst,show(i:Int)+1=((i+1:Nat):Int) by omega];exact key _ (i+1) (zaV _) ak
  |false=>rw[hw,bC] at hst;refine aV ?_;rw[h1,hb,hw,bC,hst]
 ·have e:i=s.length:=ak;subst e;refine aV ?_;rw[h1,Xm (Int.le_refl _)];have:OI s s.length=s.length:=by unfold OI;simp
  rw[this];rfl
def alo{s:aC}(hs:s.length<=1048576){i:Nat}(hi:i<=s.length)(hL:isL (qh s i)=true):M.Az s (i:Int)=some (OI s i:Int)/\M.Au s (i:Int)=some (OI s i:Int):=by
 have hb1:=λa=>CZ hs a
 have hb2:=λa=>C9 hs a
 constructor
 ·simp only[M.Az,M.QG,hb1,ah,(O6 _).1,hL,zaU,bC,M.Oo];rw[an1 hs (λa v=> ?_) (λa=> ?_) false hi,ah]
  ·simp only[M.QF,M.EM,hb1,ah,(Fv _).1];cases isW (qh s a)<;>rfl
  ·simp only[M.QF,M.EM,hb1,ah,(Fv _).1];cases isW (qh s a)<;>rfl
 ·simp only[M.Au,M.Qo,hb2,ah,(O6 _).2,hL,zaU,bC,M.Og];rw[an1 hs (λa v=> ?_) (λa=> ?_) false hi,ah]
  ·simp only[M.Qn,M.Ew,hb2,ah,(Fv _).2];cases isW (qh s a)<;>rfl
  ·simp only[M.Qn,M.Ew,hb2,ah,(Fv _).2];cases isW (qh s a)<;>rfl
def aik(s w:aC)(e:Nat):Int:=bif aiJ w !=0 then aiJ w else bif Xh w then 8 else bif qh s e==40 then 7 else 6
def awd{s:aC}(hs:s.length<=1048576){i e:Nat}(h1:i<=e)(h2:e<=s.length):M.Eb s (i:Int) (e:Int)=some (aik s (sub s i e) e,sub s i e,(i:Int))/\M.vW s (i:Int) (e:Int)=some (aik s (sub s i e) e,sub s i e,(i:Int)):=by
 have hb1:=λa=>CZ hs a
 have hb2:=λa=>C9 hs a
 simp only[M.Eb,M.TJ,M.vW,M.LX,JO h1 h2,(Y7 _).1,(Y7 _).2,(MB _).1,(MB _).2,hb1,hb2,ah,aik];cases aiJ (sub s i e) !=0<;>cases Xh (sub s i e)<;>cases qh s (e:Int)==40<;>exact⟨rfl,rfl⟩
def n10'{c:UInt8}(h:(c.toNat:Int)≠10):(c==10)=false:=Rf.2 λe=>h (by rw[e];rfl)
def aA5(s w:aC)(e:Nat):aik s w e≠0:=by
 unfold aik;cases h:aiJ w !=0 with
 |true=>rw[aH];simpa using h
 |false=>
  rw[bC];cases Xh w
  ·rw[bC];cases qh s (e:Int)==40<;>decide
  ·rw[aH];decide
end Go.Proofs.YtflhkdjglihbmaaGreatDoor
