import Derived.Test.YtgealgmioiepeaaGreatDoorZDepth
set_option linter.defProp false
set_option linter.unusedVariables false
set_option linter.unusedSimpArgs false
open Go.IntKind (i64)
namespace Go.Proofs.YtgealgmioiepeaaGreatDoor
open Go Go.Vm
def Vs{α:Type}(p:Nat->α->Bool):List α->Nat->Bool
 |[],_=>true
 |x::l,i=>p i x && Vs p l (i+1)
def abD{α:Type}(l:List α)(p:Nat->α->Bool){b:Int->Option (Int⊕(Unit⊕Int))}
  (hb:∀(i:Nat) x,l[i]? =some x->b (i:Int)=some (bif p i x then .inl ((i:Int)+1) else .inr (.inl ()))) (he:b (l.length:Int)=some (.inr (.inr (l.length:Int)))):
  fH b 0=some (bif Vs p l 0 then .inr (l.length:Int) else .inl ()):=by
 have key:∀(t:List α) (i:Nat),l.drop i=t->i<=l.length->fH b (i:Int)=some (bif Vs p t i then .inr (l.length:Int) else .inl ()):=by
  intro t;induction t with
  |nil=>
   intro i hd hi;have:i=l.length:=by have:=congrArg List.length hd;simp at this;omega
   subst this;exact aV he
  |cons x t ih=>
   intro i hd hi;have hx:l[i]? =some x:=by
    have:(l.drop i)[0]? =some x:=by rw[hd];rfl
    simpa using this
   have hlt:i<l.length:=(Po.1 hx).1;have hd':l.drop (i+1)=t:=by rw[<-List.drop_drop,hd];rfl
   have hs:=hb i x hx;rw[Vs];cases hw:p i x with
   |true=>rw[hw,aH] at hs;rw[bQ hs,show(i:Int)+1=((i+1:Nat):Int) by omega,ih (i+1) hd' hlt,Bool.true_and]
   |false=>rw[hw,bG] at hs;rw[aV hs];rfl
 exact key l 0 rfl (Nat.zero_le _)
noncomputable def fOk(n:Nd):Bool:=(M.aG n.kind n.op n.text n.other (encI n.kids)).getD false
noncomputable def kOk(n:Nd)(j:Int)(d:Int):Bool:=(M.aW n.kind n.op n.text n.other (encI n.kids) j d).getD false
structure Small(n:Nd):Prop where
 text:n.text.length<=1048576
 other:n.other.length<=1048576
def aon{n:Nd}(hs:Small n)(hk:n.kids.length<=400):M.aG n.kind n.op n.text n.other (encI n.kids)=some (fOk n)/\M.jm n.kind n.op n.text n.other (encI n.kids)=some (fOk n):=by obtain⟨b,h1,h2⟩:=arp n.kind n.op n.text n.other (encI n.kids) hs.text hs.other (by rw[dZ];exact hk);rw[fOk,h1];exact⟨rfl,h2⟩
def atF{n:Nd}(hs:Small n)(hk:n.kids.length<=400)(hf:fOk n=true)(j:Nat)(hj:j<n.kids.length)(d:Int):
  M.aW n.kind n.op n.text n.other (encI n.kids) (j:Int) d=some (kOk n j d)/\M.gI n.kind n.op n.text n.other (encI n.kids) (j:Int) d=some (kOk n j d):=by
 have hc:=aol (k:=n.kind) (op:=n.op) (t:=n.text) (o:=n.other) (kids:=encI n.kids) (by rw[(aon hs hk).1,hf]);obtain⟨b,h1,h2⟩:=aHP n.kind n.op n.text n.other (encI n.kids) (j:Int) d au (by rw[dZ];omega) (by rw[dZ];exact hk) hc;rw[kOk,h1];exact⟨rfl,h2⟩
def avk:∀(l:List Int),(∀x,x∈l->1<=x)->(l.length:Int)<=abB l
 |[],_=>by simp[abB]
 |x::l,h=>by
  have:=avk l λy hy=>h y (zmm _ hy)
  have:=h x zmf;simp only[Pq,abB];omega
section
variable {l:List Nd} {r:List Int} {o:Bool}
def Val.afI(h:Val l r){i:Nat}{n:Nd}(hn:l[i]? =some n):n.kids.length<=400:=by have hil:=(Po.1 hn).1;have h1:=h.sum hn;have h2:=avk (n.kids.map (sz r)) (λx hx=>by obtain⟨k,hk,rfl⟩:=List.mem_map.1 hx;exact(h.Dj (h.kids hn k hk).1).1);rw[zaY] at h2;have h3:=(h.Dj (k:=(i:Int)) au).2;have:=h.le;omega
def Val.akv(h:Val l r):∀n,n∈l->n.kids.length<=400:=λn hn=>by obtain⟨i,hi⟩:=List.mem_iff_getElem?.1 hn;exact h.afI hi
noncomputable def kp(l:List Nd)(n:Nd)(j:Nat)(k:Int):Bool:=kOk n j (ZQ l k.toNat).kind
def akw(h:Val l r)(hsm:∀n,n∈l->Small n){i:Nat}{n:Nd}(hn:l[i]? =some n)(hf:fOk n=true)(v10:ak)(v11 v12:Int):
  M.KG (dJ o l) (i:Int) 0=some (bif Vs (kp l n) n.kids 0 then .inr (n.kids.length:Int) else .inl ())/\
  M.KZ (dJ o l) v10 v11 v12 (encI n.kids) (n.kids.length:Int) n.kind n.op n.text n.other (encI n.kids) 0=some (bif Vs (kp l n) n.kids 0 then .inr (n.kids.length:Int) else .inl ()):=by
 have hkl:=h.afI hn;have hs:=hsm n (Ro hn);have step:∀(j:Nat) k,n.kids[j]? =some k->∃(q:Nat) (m:Nd),k=(q:Int)/\l[q]? =some m/\(ZQ l k.toNat).kind=m.kind:=by
  intro j k hj;have hkr:=h.kids hn k (Ro hj);have hil:=(Po.1 hn).1;obtain⟨q,hq⟩:∃q:Nat,k=q:=⟨k.toNat,au⟩
  obtain⟨m,hm⟩:∃m,l[q]? =some m:=⟨l[q]'au,by simp⟩
  refine⟨q,m,hq,hm, ?_⟩;rw[hq,ztn,ZQ,hm]
 constructor
 ·rw[M.KG];refine abD n.kids (kp l n) (λj k hj=> ?_) ?_
  ·obtain⟨q,m,hq,hm,he⟩:=step j k hj;have hjl:=(Po.1 hj).1;have hok:=(atF hs hkl hf j hjl m.kind).1;rw[kp,he];subst hq;simp only[Fj,M.RQ,M.GH,bZ,qo,hn,hm,MS,ah,cN0,cN1,cN2,cN3,cN4,dZ,yO,hj,cI0,hok];rw[zdt au,aH,aJ au au];cases kOk n j m.kind<;>rfl
  ·simp only[Fj,M.RQ,M.GH,bZ,qo,hn,MS,ah,cN4,dZ];rw[xE au,bG]
 ·rw[M.KZ];refine abD n.kids (kp l n) (λj k hj=> ?_) ?_
  ·obtain⟨q,m,hq,hm,he⟩:=step j k hj;have hjl:=(Po.1 hj).1;have hok:=(atF hs hkl hf j hjl m.kind).2;rw[kp,he];subst hq;simp only[M.RY,M.Hu,bZ,qo,hm,MS,ah,cN0,yO,hj,cI0,hok];rw[zdt au,aH,aJ au au];cases kOk n j m.kind<;>rfl
  ·simp only[M.RY,M.Hu];rw[xE au,bG]
noncomputable def np(l:List Nd)(_:Nat)(n:Nd):Bool:=fOk n && Vs (kp l n) n.kids 0
def ahP(h:Val l r)(hsm:∀n,n∈l->Small n):
  M.KH (dJ o l) 0=some (bif Vs (np l) l 0 then .inr (l.length:Int) else .inl ())/\
  M.La (dJ o l) (dJ o l) (l.length:Int) 0=some (bif Vs (np l) l 0 then .inr (l.length:Int) else .inl ()):=by
 have hle:=h.le;constructor
 ·rw[M.KH];refine abD l (np l) (λi n hi=> ?_) ?_
  ·have hil:=(Po.1 hi).1;have hf:=(aon (hsm n (Ro hi)) (h.afI hi)).1;simp only[Fj,M.RU,M.GI,iV,bZ,qo,hi,MS,ah,cN0,cN1,cN2,cN3,cN4,hf,np];rw[zdt au,aH,aJ au au];cases hff:fOk n with
   |false=>rfl
   |true=>have:=(akw (o:=o) h hsm hi hff [] 0 0).1;rw[zaW,bG,this,ah];cases Vs (kp l n) n.kids 0<;>rfl
  ·simp only[Fj,M.RU,M.GI,iV];rw[xE au,bG]
 ·rw[M.La];refine abD l (np l) (λi n hi=> ?_) ?_
  ·have hil:=(Po.1 hi).1;have hf:=(aon (hsm n (Ro hi)) (h.afI hi)).2;simp only[Fj,M.RZ,M.Hw,bZ,qo,hi,MS,ah,cN0,cN1,cN2,cN3,cN4,hf,np,dZ];rw[zdt au,aH,aJ au au];cases hff:fOk n with
   |false=>rfl
   |true=>have:=(akw (o:=o) h hsm hi hff (dJ o l) (l.length:Int) (i:Int)).2;rw[zaW,bG,this,ah];cases Vs (kp l n) n.kids 0<;>rfl
  ·simp only[Fj,M.RZ,M.Hw];rw[xE au,bG]
end
noncomputable def Dk(l:List Nd):Bool:=Fh l &&(decide (depth l<=40) && Vs (np l) l 0)
section
variable (l:List Nd) (o:Bool) (hl:l.length<=1048576) (hk:∀n,n∈l->n.kids.length<=1048576) (hsm:∀n,n∈l->Small n)
include hl hk hsm
theorem abE:M.Bz (dJ o l)=some (Dk l):=by
 simp only[M.Bz,M.Tt,ZB l o hl hk,aiq l o hl hk,ah,Dk];cases hs:Fh l with
 |false=>rfl
 |true=>
  obtain⟨r,h⟩:=aom hs;rw[zaW,bG,(ahP (o:=o) h hsm).1,ah,Bool.true_and]
  by_cases hd:depth l<=40
  ·rw[xE (show¬depth l>40 by omega),bG,zdt hd,Bool.true_and];cases Vs (np l) l 0<;>rfl
  ·rw[zdt (show depth l>40 by omega),aH,xE hd];rfl
theorem akx:M.Ie (dJ o l)=some (Dk l):=by
 simp only[M.Ie,M.TW,aip l o hl hk,ah,Dk,iV];cases hs:Fh l with
 |false=>rfl
 |true=>
  obtain⟨r,h⟩:=aom hs;have h1:=h.pos;have h2:=h.le;obtain⟨n,hn⟩:∃n,l[l.length - 1]? =some n:=⟨l[l.length - 1]'au,by simp⟩
  have ht:=am4 (o:=o) h h.akv l.length (l.length - 1) n au hn;have hd:=arz h h.akv l.length (l.length - 1) n n.kind n.op n.text n.other au au hn;rw[zaW,bG,(ahP (o:=o) h hsm).2,ah,Bool.true_and];simp only[M.yT,M.NM,iV];rw[aJ au au,show(l.length:Int) - 1=((l.length - 1:Nat):Int) by omega,M.abw ht,ah,ah];simp only;rw[M.Wh hd,ah,depth,if_pos hs];cases Vs (np l) l 0<;>simp[jX,letE]
theorem arA(ht:Dk l=true):∃n,l.getLast? =some n/\idx (dJ o l) (i64.wrap ((l.length:Int) - 1))=some (YR o n):=by
 unfold Dk at ht;rw[zq] at ht;have hp:=agT ht.1;have hn:l≠[]:=by rintro rfl;simp at hp
 obtain⟨n,hn⟩:∃n,l.getLast? =some n:=⟨_,List.getLast?_eq_some_getLast hn⟩
 have hn':l[l.length - 1]? =some n:=by rw[<-List.getLast?_eq_getElem?];exact hn
 refine⟨n,hn, ?_⟩;rw[aJ au au,show(l.length:Int) - 1=((l.length - 1:Nat):Int) by omega,bZ,qo,hn'];rfl
end
@[simp] theorem aJe(l:List Int):I5 (encI l)=true:=by
 induction l with
 |nil=>rfl
 |cons x l ih=>simp only[encI,zmc] at ih|-;simp[I5,fB,D.pure,ih]
@[simp] theorem aJf(l:List Int):[[D.sl true 1 (encI l)]].all fB=true:=by simp[fB,D.pure]
def QO(o:Bool)(a b:List Nd):dJ o (a++b)=dJ o a++dJ o b:=by simp[dJ]
def aoo(w:Bool):∀t:Tn,t.row w=[.int .i64 t.kind,.int .i64 t.op,.str t.text,.str t.other,.sl w 5 (cZ w t.kids)]
 | .mk k o x y ks=>rfl
def yL(w:Bool)(a b:List Tn):cZ w (a++b)=cZ w a++cZ w b:=by simp[RJ]
def dG(w:Bool)(a:List Tn):(cZ w a).length=a.length:=by simp[RJ]
def pz{α:Type}{l:List α}{j:Nat}{t:α}(h:l[j]? =some t):l.take (j+1)=l.take j++[t]:=by rw[List.take_add_one,h];rfl
def arB{α:Type}{l:List α}{j:Nat}{t:α}(h:l[j]? =some t):l=l.take j++t::l.drop (j+1):=by obtain⟨hj,rfl⟩:=Po.1 h;rw[<-List.drop_eq_getElem_cons hj,List.take_append_drop]
def Lh{ks:List Tn}{j:Nat}{t:Tn}(h:ks[j]? =some t):sizes (ks.take j)+t.size<=sizes ks:=by have:=congrArg sizes (arB h);rw[nI,sizes] at this;omega
section
variable {l:List Nd} {b:Nat} {k op:Int} {x y:aC} {ks:List Tn}
def Lies.XD(h:Lies l b (.mk k op x y ks)){j:Nat}{t:Tn}(hj:ks[j]? =some t):Lies l (b+sizes (ks.take j)) t:=by have e:=arB hj;rw[e] at h;exact h.kid
def Y7{j:Nat}{t:Tn}(hj:ks[j]? =some t):(ends ks b)[j]? =some ((b+sizes (ks.take j)+sizes t.kids:Nat):Int):=by have hlt:=(Po.1 hj).1;have hs:=t.X7;rw[ayx hlt,pz hj,nI,sizes,sizes];congr 1;omega
def Lies.root'{t:Tn}(h:Lies l b t):l[b+sizes t.kids]? =some ⟨t.kind,t.op,t.text,t.other,ends t.kids b⟩:=by cases t;exact h.root
def agV{j:Nat}{t:Tn}(hj:ks[j]? =some t):ends (ks.take (j+1)) b=ends (ks.take j) b++[((b+sizes (ks.take j)+t.size:Nat):Int) - 1]:=by rw[pz hj,aan,ends,ends];congr 2<;>omega
def aeT{j:Nat}{t:Tn}(hj:ks[j]? =some t):lX (ks.take (j+1)) b=lX (ks.take j) b++t.flat (b+sizes (ks.take j)):=by rw[pz hj,YS,lX,lX,List.append_nil]
def atG{w:Bool}{j:Nat}{t:Tn}(hj:ks[j]? =some t):cZ w (ks.take (j+1))=cZ w (ks.take j)++[t.row w]:=by rw[pz hj,yL];rfl
def ends_range:∀(ks:List Tn) (b:Nat),∀e,e∈ends ks b->(b:Int)<=e/\e<b+sizes ks
 |[],b,e,h=>by simp[ends] at h
 |t::ts,b,e,h=>by
  have hp:=t.size_pos;rw[ends] at h;have hs:(sizes (t::ts):Int)=t.size+sizes ts:=by rw[sizes];omega
  rcases List.mem_cons.1 h with rfl|h
  ·omega
  ·have:=ends_range ts _ e h;omega
end
mutual
def Pg:∀(t:Tn) (b:Nat),∀n,n∈t.flat b->n.kids.length<=t.size/\∀e,e∈n.kids->(0:Int)<=e/\e<b+t.size
 | .mk k o x y ks,b,n,h=>by
  rw[Tn.flat] at h;rw[Tn.size];rcases List.mem_append.1 h with h|h
  ·have:=aky ks b n h;exact⟨au,λe he=>by have:=this.2 e he;omega⟩
  ·simp only[List.mem_singleton] at h;subst h;refine⟨by simp only[iP];have:=zV ks;omega,λe he=> ?_⟩;have:=ends_range ks b e he;omega
def aky:∀(ks:List Tn) (b:Nat),∀n,n∈lX ks b->n.kids.length<=sizes ks/\∀e,e∈n.kids->(0:Int)<=e/\e<b+sizes ks
 |[],b,n,h=>by simp[lX] at h
 |t::ts,b,n,h=>by
  rw[lX] at h;rw[sizes];rcases List.mem_append.1 h with h|h
  ·have:=Pg t b n h;exact⟨au,λe he=>by have:=this.2 e he;omega⟩
  ·have:=aky ts _ n h;exact⟨au,λe he=>by have:=this.2 e he;omega⟩
end
def aHQ(t:Tn):∀(f:Nat) (w:Bool) (p:List Nd),t.size<=f->p.length+t.size<=1048576->
  M.kQ f t.kind t.op t.text t.other (cZ w t.kids) (dJ true p)=some (dJ true (p++t.flat p.length)):=by
 refine Tn.ind (P:=λt=>∀(f:Nat) (w:Bool) (p:List Nd),t.size<=f->p.length+t.size<=1048576->M.kQ f t.kind t.op t.text t.other (cZ w t.kids) (dJ true p)=some (dJ true (p++t.flat p.length))) ?_ t;intro k op x y ks ih f w p hf hp;cases f with
 |zero=>rw[Tn.size] at hf;omega
 |succ f=>
  rw[Tn.size] at hf hp;have hkl:=zV ks;simp only[Fj,M.kQ,M.Jm,Tn.kids,Tn.kind,Tn.op,Tn.text,Tn.other,dG];have hrec:∀j t,ks[j]? =some t->M.kQ f t.kind t.op t.text t.other (cZ w t.kids) (dJ true (p++lX (ks.take j) p.length))=some (dJ true (p++lX (ks.take (j+1)) p.length)):=by
   intro j t hj;have hst:=Lh hj;have hfl:(p++lX (ks.take j) p.length).length=p.length+sizes (ks.take j):=by rw[Gt,tC]
   have:=ih t (Ro hj) f w (p++lX (ks.take j) p.length) au (by rw[hfl];omega);rw[this,hfl,aeT hj,QW]
  have hloop:=uM (b:=M.yB (M.kQ f))
   (t:=if ks=[] then .inl (cZ w ks,(ks.length:Int),0,dJ true p,k,op,x,y) else .inr (cZ w ks,(ks.length:Int),(ks.length:Int),dJ true (p++lX ks p.length),k,op,x,y,encI (ends ks p.length)))
   (λj=>if j=0 then .inl (cZ w ks,(ks.length:Int),0,dJ true p,k,op,x,y) else .inr (cZ w ks,(ks.length:Int),(j:Int),dJ true (p++lX (ks.take j) p.length),k,op,x,y,encI (ends (ks.take j) p.length))) ks.length
   (by
    intro j hj;obtain⟨t,ht⟩:∃t,ks[j]? =some t:=⟨ks[j],by simp⟩
    have hr:=hrec j t ht;have hst:=Lh ht;have hp1:=t.size_pos;have hg:(cZ w ks)[j]? =some (t.row w):=by rw[RJ];simp[ht]
    have hc0:jq .i64 (t.row w) 0=some t.kind:=by cases t;rfl
    have hc1:jq .i64 (t.row w) 1=some t.op:=by cases t;rfl
    have hc2:cStr (t.row w) 2=some t.text:=by cases t;rfl
    have hc3:cStr (t.row w) 3=some t.other:=by cases t;rfl
    have hc4:cSl 5 (t.row w) 4=some (cZ w t.kids):=by cases t;rfl
    have hfl:(dJ true (p++lX (ks.take (j+1)) p.length)).length=p.length+sizes (ks.take j)+t.size:=by rw[iV,Gt,tC,pz ht,nI,sizes,sizes];omega
    rw[if_neg (show¬j+1=0 by omega),agV ht]
    by_cases h0:j=0
    ·subst h0;rw[if_pos rfl];have hi:idx (cZ w ks) 0=some (t.row w):=by have:=bZ (cZ w ks) 0;rw[Wy] at this;rw[this,hg]
     have hr0:M.kQ f t.kind t.op t.text t.other (cZ w t.kids) (dJ true p)=some (dJ true (p++lX (ks.take (0+1)) p.length)):=by rw[<-hr];simp[lX]
     simp only[Fj,M.yB,M.uK,hi,ah,hc0,hc1,hc2,hc3,hc4,hr0,hfl];rw[zdt au,aH,aJ au au,aJ au au];rfl
    ·rw[if_neg h0];simp only[Fj,M.yB,M.uK,bZ,hg,ah,hc0,hc1,hc2,hc3,hc4,hr,hfl,dZ,iP,zlt,OW];rw[zdt au,aH,bI au,aH,bI au,aH,aJ au au,aJ au au];simp[encI])
   (by
    by_cases h0:ks.length=0
    ·have he:ks=[]:=List.length_eq_zero_iff.1 h0;rw[if_pos h0,if_pos he];simp only[Fj,M.yB,M.uK];rw[xE au,bG]
    ·have he:¬ks=[]:=λe=>h0 (by rw[e];rfl)
     rw[if_neg h0,if_neg he,List.take_length];simp only[Fj,M.yB,M.uK];rw[xE au,bG]) 0 (Nat.zero_le _)
  rw[if_pos rfl] at hloop;rw[M.MI,hloop,ah]
  by_cases he:ks=[]
  ·rw[if_pos he];subst he;simp only[jX,iV,OW];rw[bI au,aH,bI au,aH,QO];rfl
  ·rw[if_neg he];simp only[jX,letE,iV,Gt,tC,OW,RH,aH];rw[bI au,aH,bI au,aH,Tn.flat,<-QW];simp only[QO];rfl
def avl{t:Tn}{w:Bool}(h:t.size<=1048576):M.nT t.kind t.op t.text t.other (cZ w t.kids)=some (dJ true (t.flat 0)):=by have:=M.agP (aHQ t t.size w [] (zaX _) (by simpa using h));simp only[M.nT,M.MJ];have e:dJ true ([]:List Nd)=[]:=rfl;rw[e] at this;rw[this,ah];simp
def wK:List Nd->Nat
 |[]=>0
 |n::l=>4+n.kids.length+wK l
def Y8:∀l:List Nd,I5 (dJ true l)=true
 |[]=>rfl
 |n::l=>by have:dJ true (n::l)=YR true n::dJ true l:=rfl;rw[this,I5,Y8 l];simp[YR,fB,D.pure]
def am5(l:List Nd):[[D.sl true 5 (dJ true l)]].all fB=true:=by simp[fB,D.pure,Y8]
structure Ps where
 level:Int
 FV:Bool
 Y9:Bool
 Za:Bool
 FW:Bool
 deriving DecidableEq,Inhabited
def Ps.top:Ps:=⟨1,false,false,false,false⟩
def Ps.zero:Ps:=⟨0,false,false,false,false⟩
def ug(op:Int):Int:=bif op==44 then 3 else bif op==45 then 4 else bif op==67||op==46 then 6 else
 bif op==63||(op==48||(op==47||(op==50||(op==62||op==49)))) then 7 else bif op==99 then 8 else bif op==55||op==56 then 9 else
 bif op==57||(op==58||op==59) then 10 else bif op==60 then 12 else 0
def lvl(k op:Int):Int:=bif k==15 then 1 else bif k==14 then 2 else bif k==13 then 5 else bif k==12 then ug op else bif k==11 then 11 else
 bif k==9||k==10 then 13 else bif k==6 then 14 else bif k==1||(k==2||(k==3||(k==4||(k==5||(k==7||k==8))))) then 15 else 0
def am6(p:Ps):Bool:=(decide (1<=p.level) && decide (p.level<=15)) &&(!p.FV||p.level==14)
def fits(k op:Int)(p:Ps):Bool:=bif !(am6 p)||lvl k op==0 then false else bif p.Y9 && k==13 then false else bif p.Za &&(k==12 && op==62) then false else
 bif p.FW &&(k==11||(k==9||k==4)) then false else(p.FV && k==9)||decide (p.level<=lvl k op)
def sides(op:Int):Int×Int:=bif ug op==3 then(3,4) else bif ug op==4 then(4,5) else bif ug op==6 then(7,7) else bif ug op==7 then(8,8) else
 bif ug op==8 then(8,9) else bif ug op==9 then(9,10) else bif ug op==10 then(10,11) else(13,11)
def atH(k op:Int)(j:Nat):Int:=bif k==15 then(bif Nat.beq j 0 then 14 else 1) else bif k==14 then(bif Nat.beq j 0 then 3 else 2) else bif k==13 then 5 else bif k==11 then 11 else
 bif k==12 then(bif Nat.beq j 0 then(sides op).1 else(sides op).2) else 14
def akz(k op:Int)(n j:Nat)(p:Ps):Ps:=bif !(am6 p)||(!(Nat.blt j n)||lvl k op==0) then .zero else bif lvl k op==15||(k==13 && Nat.blt 1 n) then .top else
 ⟨atH k op j,k==6,p.Y9,p.Za,bif k==11||(k==9||(k==10||k==6)) then false else(Nat.beq j 0 && p.FW)||(Nat.beq j 1 &&(k==12 && op==99))⟩
def tok(k:Int):Tk:=⟨k,spell k,0⟩
def dtx(s:aC):Tn:=.mk 1 0 s [] []
def akA:Tn:=.mk 2 0 [] [] []
def am7(s:aC):List (aC)->Nat->Nat
 |[],m=>m
 |g::l,m=>am7 s l (bif Nat.blt m g.length && g.isPrefixOf s then g.length else m)
def lastB(s:aC):Int:=match s.getLast? with|some c=>(c.toNat:Int)|none=> -1
def atI(s:aC):Int:=match s with|c::_=>(c.toNat:Int)|[]=> -1
def afJ(a b:Tk):Bool:=
 bif a.text==[]||(b.text==[]||(a.kind==2||(a.kind==1||b.kind==1))) then false else
 bif isW (lastB a.text) && isW (atI b.text) then true else
 bif a.kind==3 &&(isW (atI b.text)||atI b.text==46) then true else
 bif a.kind==6 && b.kind==32 then true else
 bif !(decide (30<=a.kind) && decide (a.kind<=68)) then false else Nat.blt a.text.length (am7 (a.text++b.text) UL 0)
structure Cnt(k op:Int)(y:aC)(n:Nat):Prop where
 one:k=6\/k=9\/k=10\/k=11\/k=20\/k=32\/k=40\/k=41->n=1
 two:k=12\/k=15\/k=29\/k=30->n=2
 some_:k=5\/k=13\/k=44->1<=n
 three:k=14->n=3
 four:k=31->n=4
 cnd:k=28->n=2\/n=3
 prn:k=21->(op=0\/op=1)/\(y≠[]->1<=n)
 wrd:k=23\/k=24->n<=1
 non:k=1\/k=2\/k=3\/k=4\/k=16\/k=22\/k=25\/k=26\/k=34->n=0
 rule:k=42->(op=1/\n=1)\/(op=2/\n=1)\/(op=3/\n=2)
 range:k=43->(op=1/\n=2)\/(op=3/\n=3)
 few:k≠33->k≠45->n<=7
 bin:k=12->ug op≠0/\op≠61
 asg:k=15->op=54\/(38<=op/\op<=43)
 stp:k=9\/k=10->op=51\/op=52
 una:k=11->op=55\/op=56\/op=61
def cls(k op:Int)(n j:Nat):Nat:=
 if k=9\/k=10\/(k=15/\j=0) then 6 else if k=28\/k=29 then(if j=0 then 0 else 1) else if k=30 then(if j=0 then 1 else 0) else
 if k=31 then(if j<3 then 3 else 1) else if k=32\/k=40\/k=41 then 1 else if k=33 then 2 else if k=42 then(if op=2\/(op=3/\j+1=n) then 1 else 0) else
 if k=43 then(if j=2 then 1 else 0) else if k=44 then(if j+1=n then 1 else 4) else if k=45 then 5 else 0
def zJ(c:Nat)(d:Int):Prop:=match c with
 |0=>1<=d/\d<=15
 |1=>d=33
 |2=>20<=d/\d<=34
 |3=>d=16\/(1<=d/\d<=15)
 |4=>d=1
 |5=>(40<=d/\d<=44)\/d=34
 |_=>d=1\/d=5\/d=6
def agW(k:Int):Prop:=(1<=k/\k<=16)\/(20<=k/\k<=34)\/(40<=k/\k<=45)
mutual
def UD:Tn->Prop
 | .mk k op x y ks=>agW k/\Cnt k op y ks.length/\oks k op ks.length ks 0
def oks(k op:Int)(n:Nat):List Tn->Nat->Prop
 |[],_=>True
 |t::ts,j=>zJ (cls k op n j) t.kind/\(UD t)/\oks k op n ts (j+1)
end
def avm{k op:Int}{n:Nat}:∀{ks:List Tn} {j i:Nat} {t:Tn},oks k op n ks j->ks[i]? =some t->zJ (cls k op n (j+i)) t.kind/\(UD t)
 |[],_,i,_,_,h=>by simp at h
 |u::ts,j,0,t,h,e=>by rw[oks] at h;cases e;exact⟨h.1,h.2.1⟩
 |u::ts,j,i+1,t,h,e=>by rw[oks] at h;rw[List.getElem?_cons_succ] at e;have:=avm h.2.2 e;rw[show j+1+i=j+(i+1) by omega] at this;exact this
def aop{k op:Int}{x y:aC}{ks:List Tn}(h:(UD (Tn.mk k op x y ks))){i:Nat}{t:Tn}(e:ks[i]? =some t):zJ (cls k op ks.length i) t.kind/\(UD t):=by
 rw[UD] at h;have:=avm h.2.2 e
 rwa [Nat.zero_add] at this
def atJ{k op:Int}{x y:aC}{ks:List Tn}(h:(UD (Tn.mk k op x y ks))):Cnt k op y ks.length:=by rw[UD] at h;exact h.2.1
def isE(t:Tn):Prop:=1<=t.kind/\t.kind<=15
def aFr{k op:Int}{x y:aC}{ks:List Tn}(h:(UD (Tn.mk k op x y ks)))(he:1<=k/\k<=15){i:Nat}{t:Tn}(e:ks[i]? =some t):(isE t)/\(UD t):=by
 obtain⟨h1,h2⟩:=aop h e;refine⟨?_,h2⟩;unfold isE;have:cls k op ks.length i=6\/cls k op ks.length i=0:=by
  unfold cls;split
  ·exact .inl rfl
  ·repeat(rw[if_neg au])
   exact .inr rfl
 rcases this with h|h<;>rw[h] at h1<;>simp only[zJ] at h1<;>omega
def abG{a b lo hi:Int}(c:Bool)(ha:lo<=a/\a<=hi)(hb:lo<=b/\b<=hi):lo<=(bif c then a else b)/\(bif c then a else b)<=hi:=by cases c<;>assumption
def arC(op:Int):0<=ug op/\ug op<=12:=by unfold ug;exact abG _ ⟨by decide,by decide⟩ (abG _ ⟨by decide,by decide⟩ (abG _ ⟨by decide,by decide⟩ (abG _ ⟨by decide,by decide⟩ (abG _ ⟨by decide,by decide⟩ (abG _ ⟨by decide,by decide⟩ (abG _ ⟨by decide,by decide⟩ (abG _ ⟨by decide,by decide⟩ ⟨by decide,by decide⟩)))))))
def aDf{k op:Int}{y:aC}{n:Nat}(he:1<=k/\k<=15)(hc:Cnt k op y n):1<=lvl k op/\lvl k op<=15:=by
 obtain⟨h1,h2⟩:=he;have hk:k=1\/k=2\/k=3\/k=4\/k=5\/k=6\/k=7\/k=8\/k=9\/k=10\/k=11\/k=13\/k=14\/k=15\/k=12:=au;rcases hk with rfl|rfl|rfl|rfl|rfl|rfl|rfl|rfl|rfl|rfl|rfl|rfl|rfl|rfl|rfl
 case inr.inr.inr.inr.inr.inr.inr.inr.inr.inr.inr.inr.inr.inr=>have hb:=(hc.bin rfl).1;have:=arC op;change 1<=ug op/\ug op<=15;omega
 all_goals simp[lvl]
inductive PR(α:Type) where
 |ok (a:α) (i:Nat) (nt:List (aC))
 |bad (i:Nat)
 |out
def PR.bind{α β:Type}(x:PR α)(f:α->Nat->List (aC)->PR β):PR β:=match x with
 | .ok a i nt=>f a i nt
 | .bad i=> .bad i
 | .out=> .out
abbrev dO:=List (aC)
def dP(l:List Tk)(i:Nat):Int:=match l[i]? with|some t=>t.kind|none=>0
def Np(l:List Tk)(i:Nat):aC:=match l[i]? with|some t=>t.text|none=>[]
def o7(l:List Tk)(k:Int)(i:Nat)(nt:dO):PR Unit:=bif dP l i==k then .ok () (i+1) nt else .bad i
def nameP(l:List Tk)(i:Nat)(nt:dO):PR (aC):=bif dP l i==6 then .ok (Np l i) (i+1) nt else .bad i
def nlR:List Tk->Nat->dO->Nat×dO
 |[],i,nt=>(i,nt)
 |t::r,i,nt=>bif t.kind==1 then nlR r (i+1) nt else bif t.kind==2 then nlR r (i+1) (nt++[t.text]) else(i,nt)
def nl(l:List Tk)(i:Nat)(nt:dO):Nat×dO:=nlR (l.drop i) i nt
def Ux:List Tk->Nat->dO->Nat×dO
 |[],i,nt=>(i,nt)
 |t::r,i,nt=>bif t.kind==1||t.kind==37 then Ux r (i+1) nt else bif t.kind==2 then Ux r (i+1) (nt++[t.text]) else(i,nt)
def sep(l:List Tk)(i:Nat)(nt:dO):Nat×dO:=Ux (l.drop i) i nt
def akB(k:Int):Bool:=k==32||(k==34||k==30)
def akC(k:Int):Bool:=k==33||(k==35||k==31)
def ahead:List Tk->Int->Bool
 |[],_=>false
 |t::r,d=>bif akB t.kind then ahead r (d+1) else bif akC t.kind then(bif decide (d - 1<=0) then false else ahead r (d - 1)) else
   bif t.kind==36 && d==1 then true else bif decide (d<=0) then false else ahead r d
def isStep(k:Int):Bool:=k==51||k==52
def azL(k:Int):Bool:=k==3||(k==4||(k==6||(k==7||(k==8||(k==32||k==68)))))
abbrev Xp:=Tn×Bool
def tgt(x:Xp):Bool:= !x.2 && Pn x.1.kind
def adU(k:Int)(l:List Tk)(i:Nat)(nt:dO):PR Xp:=.ok (.mk k 0 (Np l i) [] [],false) (i+1) nt
def QS(lv:Nat)(b:Bool)(k:Int):Bool:=bif Nat.beq lv 8 then azL k else ug k==(lv:Int) && !(b && k==62)
mutual
def ex(l:List Tk):Nat->Nat->Bool->Bool->Nat->dO->PR Xp
 |0,_,_,_,_,_=> .out
 |n+1,lv,a,b,i,nt=>match lv with
  |1=>(ex l n 2 a b i nt).bind λx i nt=>bif tgt x && Xh (dP l i) then(ex l n 1 a b (i+1) nt).bind λy j nt=> .ok (.mk 15 (dP l i) [] [] [x.1,y.1],false) j nt else .ok x i nt
  |2=>(ex l n 3 a b i nt).bind λx i nt=>bif dP l i==65 then(ex l n 2 a b (i+1) nt).bind λy i nt=>(o7 l 66 i nt).bind λ_ i nt=>(ex l n 2 a b i nt).bind λz i nt=>.ok (.mk 14 0 [] [] [x.1,y.1,z.1],false) i nt else .ok x i nt
  |3=>(ex l n 4 a b i nt).bind λx i nt=>chP l n 3 a b x i nt
  |4=>(ex l n 5 a b i nt).bind λx i nt=>chP l n 4 a b x i nt
  |5=>bif(dP l i==32 && !a) && ahead (l.drop i) 0 then
    (QT l n 33 (i+1) nt).bind λL i nt=>(o7 l 24 i nt).bind λ_ i nt=>(nameP l i nt).bind λs i nt=>inP l n a (.mk 13 0 s [] L,false) i nt
   else(ex l n 6 a b i nt).bind λx i nt=>inP l n a x i nt
  |6=>(ex l n 7 a b i nt).bind λx i nt=>bif dP l i==67||dP l i==46 then(ex l n 7 a b (i+1) nt).bind λy j nt=> .ok (.mk 12 (dP l i) [] [] [x.1,y.1],false) j nt else .ok x i nt
  |7=>(ex l n 8 a b i nt).bind λx i nt=>bif QS 7 b (dP l i) then(ex l n 8 a b (i+1) nt).bind λy j nt=> .ok (.mk 12 (dP l i) [] [] [x.1,y.1],false) j nt else .ok x i nt
  |8=>(ex l n 9 a b i nt).bind λx i nt=>chP l n 8 a b x i nt
  |9=>(ex l n 10 a b i nt).bind λx i nt=>chP l n 9 a b x i nt
  |10=>(ex l n 11 a b i nt).bind λx i nt=>chP l n 10 a b x i nt
  |11=>bif dP l i==55||(dP l i==56||dP l i==61) then(ex l n 11 a b (i+1) nt).bind λx j nt=> .ok (.mk 11 (dP l i) [] [] [x.1],false) j nt
   else ex l n 12 a b i nt
  |12=>(ex l n 13 a b i nt).bind λx i nt=>bif dP l i==60 then(ex l n 11 a b (i+1) nt).bind λy j nt=> .ok (.mk 12 60 [] [] [x.1,y.1],false) j nt else .ok x i nt
  |13=>bif isStep (dP l i) then UM l n i nt else(ex l n 14 a b i nt).bind λx i nt=>bif tgt x && isStep (dP l i) then .ok (.mk 10 (dP l i) [] [] [x.1],false) (i+1) nt else .ok x i nt
  |14=>bif dP l i==68 then
    (bif isStep (dP l (i+1)) then UM l n (i+1) nt else ex l n 14 a b (i+1) nt).bind λx i nt=> .ok (.mk 6 0 [] [] [x.1],false) i nt
   else ex l n 15 a b i nt
  |_=>bif dP l i==3 then adU 2 l i nt else bif dP l i==4 then adU 3 l i nt else bif dP l i==5 then adU 4 l i nt else
   bif dP l i==6 then
    (bif dP l (i+1)==34 then(Ua l n false false [] (i+2) nt).bind λL j nt=>(o7 l 35 j nt).bind λ_ j nt=> .ok (.mk 5 0 (Np l i) [] L,false) j nt
     else adU 1 l i nt) else
   bif dP l i==7||dP l i==8 then
    (bif dP l i==8 &&(Np l i==[108,101,110,103,116,104] && !(dP l (i+1)==32)) then adU 8 l i nt else
     (o7 l 32 (i+1) nt).bind λ_ j nt=>(QT l n 33 j nt).bind λL j nt=> .ok (.mk (dP l i) 0 (Np l i) [] L,false) j nt) else
   bif dP l i==32 then(ex l n 1 false false (i+1) nt).bind λx i nt=>(o7 l 33 i nt).bind λ_ i nt=> .ok (x.1,true) i nt else .bad i
def chP(l:List Tk):Nat->Nat->Bool->Bool->Xp->Nat->dO->PR Xp
 |0,_,_,_,_,_,_=> .out
 |n+1,lv,a,b,x,i,nt=>bif QS lv (b && Nat.beq lv 7) (dP l i) then
   (let op:=bif Nat.beq lv 8 then 99 else dP l i
    let q:=bif Nat.beq lv 8 then(i,nt) else bif Nat.ble lv 4 then nl l (i+1) nt else(i+1,nt)
    (ex l n (lv+1) a b q.1 q.2).bind λy i nt=>chP l n lv a b (.mk 12 op [] [] [x.1,y.1],false) i nt)
  else .ok x i nt
def inP(l:List Tk):Nat->Bool->Xp->Nat->dO->PR Xp
 |0,_,_,_,_=> .out
 |n+1,a,x,i,nt=>bif dP l i==24 && !a then(nameP l (i+1) nt).bind λs i nt=>inP l n a (.mk 13 0 s [] [x.1],false) i nt else .ok x i nt
def UM(l:List Tk):Nat->Nat->dO->PR Xp
 |0,_,_=> .out
 |n+1,i,nt=>bif dP l (i+1)==68||dP l (i+1)==6 then(ex l n 14 false false (i+1) nt).bind λx j nt=> .ok (.mk 9 (dP l i) [] [] [x.1],false) j nt else .bad (i+1)
def QT(l:List Tk):Nat->Int->Nat->dO->PR (List Tn)
 |0,_,_,_=> .out
 |n+1,e,i,nt=>bif dP l i==e then .ok [] (i+1) nt else(Ua l n false false [] i nt).bind λL i nt=>(o7 l e i nt).bind λ_ i nt=> .ok L i nt
def Ua(l:List Tk):Nat->Bool->Bool->List Tn->Nat->dO->PR (List Tn)
 |0,_,_,_,_,_=> .out
 |n+1,a,b,L,i,nt=>(ex l n 1 a b i nt).bind λx i nt=>bif dP l i==36 then(bif Nat.beq (L.length+1) 6 then .bad i else Ua l n a b (L++[x.1]) (nl l (i+1) nt).1 (nl l (i+1) nt).2) else .ok (L++[x.1]) i nt
end
def Uy(k:Int):Bool:=k==0||(k==1||(k==2||(k==37||k==31)))
def IY(k:Int):Bool:=k==62||(k==53||k==64)
def WA(nt:dO):List Tn:=nt.map λs=> .mk 34 0 s [] []
def endP{α:Type}(l:List Tk)(x:α)(i:Nat)(nt:dO):PR α:=bif Uy (dP l i) then .ok x i nt else .bad i
def Rk(l:List Tk)(n i:Nat)(nt:dO):PR Tn:=(o7 l 32 i nt).bind λ_ i nt=>(ex l n 1 false false i nt).bind λx i nt=>(o7 l 33 i nt).bind λ_ i nt=> .ok x.1 i nt
def Jy(l:List Tk)(n:Nat)(e:Int)(a:Bool)(i:Nat)(nt:dO):PR Tn:=bif dP l i==e then .ok (.mk 16 0 [] [] []) i nt else(ex l n 1 a false i nt).bind λx i nt=> .ok x.1 i nt
def aeU(l:List Tk)(n i:Nat)(nt:dO):PR Tn:=
 (bif dP l i==26|| !(Uy (dP l (i+1))||IY (dP l (i+1))) then Ua l n false true [] (i+1) nt else .ok [] (i+1) nt).bind λL j nt=>
  bif IY (dP l j) then(ex l n 9 false false (j+1) nt).bind λx k nt=> .ok (.mk 21 (dP l i - 25) [] (Np l j) (L++[x.1])) k nt
  else .ok (.mk 21 (dP l i - 25) [] [] L) j nt
def Xi(l:List Tk)(n:Nat)(k:Int)(i:Nat)(nt:dO):PR Tn:=
 bif Uy (dP l (i+1)) then .ok (.mk k 0 [] [] []) (i+1) nt else(ex l n 1 false false (i+1) nt).bind λx i nt=> .ok (.mk k 0 [] [] [x.1]) i nt
def agX(l:List Tk)(n i:Nat)(nt:dO):PR Tn:=(nameP l (i+1) nt).bind λs i nt=>bif dP l i==34 then(Ua l n false false [] (i+1) nt).bind λL i nt=>(o7 l 35 i nt).bind λ_ i nt=> .ok (.mk 27 0 s [] L) i nt else .ok (.mk 27 0 s [] []) i nt
def agY(l:List Tk)(n i:Nat)(nt:dO):PR Tn:=
 bif dP l i==25||dP l i==26 then aeU l n i nt else bif dP l i==20 then .ok (.mk 22 0 [] [] []) (i+1) nt else bif dP l i==18 then .ok (.mk 25 0 [] [] []) (i+1) nt else
 bif dP l i==19 then .ok (.mk 26 0 [] [] []) (i+1) nt else bif dP l i==21 then Xi l n 23 i nt else bif dP l i==22 then Xi l n 24 i nt else
 bif dP l i==23 then agX l n i nt else(ex l n 1 false false i nt).bind λx i nt=> .ok (.mk 20 0 [] [] [x.1]) i nt
mutual
def stP(l:List Tk):Nat->Nat->dO->PR Tn
 |0,_,_=> .out
 |n+1,i,nt=>
  bif dP l i==30 then Jz l n i nt else
  bif dP l i==13 then(Rk l n (i+1) nt).bind λx i nt=>(Aq l n i nt).bind λy i nt=>
   (let q:=sep l i nt
    bif dP l q.1==14 then(Aq l n (q.1+1) q.2).bind λz i nt=> .ok (.mk 28 0 [] [] [x,y,z]) i nt else .ok (.mk 28 0 [] [] [x,y]) i nt) else
  bif dP l i==15 then(Rk l n (i+1) nt).bind λx i nt=>(Aq l n i nt).bind λy i nt=> .ok (.mk 29 0 [] [] [x,y]) i nt else
  bif dP l i==17 then(Aq l n (i+1) nt).bind λx i nt=>(o7 l 15 (sep l i nt).1 (sep l i nt).2).bind λ_ i nt=>(Rk l n i nt).bind λy i nt=>endP l (.mk 30 0 [] [] [x,y]) i nt else
  bif dP l i==16 then(o7 l 32 (i+1) nt).bind λ_ i nt=>
   (bif dP l i==6 && dP l (i+1)==24 then(nameP l (i+2) nt).bind λs j nt=>(o7 l 33 j nt).bind λ_ j nt=>(Aq l n j nt).bind λy j nt=> .ok (.mk 32 0 (Np l i) s [y]) j nt
    else(Jy l n 37 true i nt).bind λx i nt=>(o7 l 37 i nt).bind λ_ i nt=>(Jy l n 37 false (nl l i nt).1 (nl l i nt).2).bind λy i nt=>
    (o7 l 37 i nt).bind λ_ i nt=>(Jy l n 33 false (nl l i nt).1 (nl l i nt).2).bind λz i nt=>(o7 l 33 i nt).bind λ_ i nt=>
    (Aq l n i nt).bind λw i nt=> .ok (.mk 31 0 [] [] [x,y,z,w]) i nt) else
  (agY l n i nt).bind λx i nt=>endP l x i nt
def Jz(l:List Tk):Nat->Nat->dO->PR Tn
 |0,_,_=> .out
 |n+1,i,nt=>(o7 l 30 i nt).bind λ_ i nt=>(UN l n [] i nt).bind λL i nt=> .ok (.mk 33 0 [] [] L) i nt
def UN(l:List Tk):Nat->List Tn->Nat->dO->PR (List Tn)
 |0,_,_,_=> .out
 |n+1,L,i,nt=>
  (let q:=sep l i nt
   bif dP l q.1==31 then .ok (L++WA q.2) (q.1+1) [] else bif dP l q.1==0 then .bad q.1 else
   (stP l n q.1 []).bind λs i nt=>UN l n ((L++WA q.2)++[s]) i nt)
def Aq(l:List Tk):Nat->Nat->dO->PR Tn
 |0,_,_=> .out
 |n+1,i,nt=>
  (let q:=nl l i nt
   bif dP l q.1==30 then Jz l n q.1 q.2 else bif dP l q.1==37 then .ok (.mk 33 0 [] [] (WA q.2)) (q.1+1) [] else
   (stP l n q.1 []).bind λs i nt=> .ok (.mk 33 0 [] [] (WA q.2++[s])) i nt)
end
def Fb(l:List Tk):Nat->List Tn->Nat->dO->PR (List Tn)
 |0,_,_,_=> .out
 |n+1,L,i,nt=>(nameP l i nt).bind λs i nt=>bif dP l i==36 then(bif Nat.beq (L.length+1) 6 then .bad i else Fb l n (L++[.mk 1 0 s [] []]) (nl l (i+1) nt).1 (nl l (i+1) nt).2) else .ok (L++[.mk 1 0 s [] []]) i nt
def agZ(l:List Tk)(n i:Nat)(nt:dO):PR Tn:=
 bif dP l i==6||dP l i==7 then
  (o7 l 32 (i+1) nt).bind λ_ j nt=>(bif dP l j==33 then .ok [] j nt else Fb l n [] j nt).bind λL j nt=>(o7 l 33 j nt).bind λ_ j nt=>(Jz l n (nl l j nt).1 (nl l j nt).2).bind λb j nt=> .ok (.mk 44 0 (Np l i) [] (L++[b])) j nt
 else .bad i
def Rl(l:List Tk)(n i:Nat)(nt:dO):PR Tn:=
 bif dP l i==10 then(Jz l n (i+1) nt).bind λb i nt=> .ok (.mk 40 0 [] [] [b]) i nt else
 bif dP l i==11 then(Jz l n (i+1) nt).bind λb i nt=> .ok (.mk 41 0 [] [] [b]) i nt else
 bif dP l i==12 then agZ l n (i+1) nt else
 bif dP l i==30 then(Jz l n i nt).bind λb i nt=> .ok (.mk 42 2 [] [] [b]) i nt else
 (ex l n 1 false false i nt).bind λx i nt=>(bif dP l i==36 then(ex l n 1 false false (nl l (i+1) nt).1 (nl l (i+1) nt).2).bind λy i nt=> .ok (43,[x.1,y.1]) i nt else .ok (42,[x.1]) i nt:PR (Int×List Tn)).bind λq i nt=>bif dP l i==30 then(Jz l n i nt).bind λb i nt=> .ok (.mk q.1 3 [] [] (q.2++[b])) i nt else endP l (.mk q.1 1 [] [] q.2) i nt
def Ig(l:List Tk):Nat->List Tn->Nat->dO->PR (List Tn)
 |0,_,_,_=> .out
 |n+1,L,i,nt=>
  (let q:=sep l i nt
   bif dP l q.1==0 then .ok (L++WA q.2) q.1 [] else bif dP l q.1==31 then .bad q.1 else
   (Rl l n q.1 []).bind λs i nt=>Ig l n ((L++WA q.2)++[s]) i nt)
def PR.sat{α:Type}(P:α->Nat->dO->Prop)(x:PR α):Prop:=match x with
 | .ok a i nt=>P a i nt
 |_=>True
def PR.tot{α:Type}(P:α->Nat->dO->Prop)(x:PR α):Prop:=match x with
 | .ok a i nt=>P a i nt
 | .bad _=>True
 | .out=>False
section
variable {α β:Type} {P Q:α->Nat->dO->Prop} {R:β->Nat->dO->Prop} {x y:PR α} {f:α->Nat->dO->PR β} {c:Bool}
def fV:(x.bind f).tot R↔x.tot λa i nt=>(f a i nt).tot R:=by cases x<;>exact Iff.rfl
def bW(h:x.tot P)(k:∀a i nt,P a i nt->Q a i nt):x.tot Q:=by
 cases x with
 |ok a i nt=>exact k a i nt h
 |bad _=>trivial
 |out=>exact h
def fF:(bif c then x else y).tot P↔(c=true->x.tot P)/\(c=false->y.tot P):=by cases c<;>simp
end
variable {l:List Tk}
def gZ{i:Nat}(h:dP l i≠0):i<l.length:=by
 unfold dP at h;cases hq:l[i]? with
 |none=>rw[hq] at h;exact absurd rfl h
 |some t=>exact(Po.1 hq).1
def Fe{P:Unit->Nat->dO->Prop}{k:Int}{i:Nat}{nt:dO}:(o7 l k i nt).tot P↔(dP l i=k->P () (i+1) nt):=by unfold o7;rw[fF];simp[PR.tot]
def abH{P:aC->Nat->dO->Prop}{i:Nat}{nt:dO}:(nameP l i nt).tot P↔(dP l i=6->P (Np l i) (i+1) nt):=by unfold nameP;rw[fF];simp[PR.tot]
def aoq:∀(r:List Tk) (i:Nat) (nt:dO),i<=(nlR r i nt).1
 |[],i,nt=>by rw[nlR];exact zaX _
 |t::r,i,nt=>by
  rw[nlR];cases t.kind==1<;>cases t.kind==2<;>simp only[aH,bG]
  ·exact zaX _
  ·have:=aoq r (i+1) (nt++[t.text]);omega
  ·have:=aoq r (i+1) nt;omega
  ·have:=aoq r (i+1) nt;omega
def ahQ(i:Nat)(nt:dO):i<=(nl l i nt).1:=aoq _ _ _
def aiL:∀(r:List Tk) (i:Nat) (nt:dO),i<=(Ux r i nt).1
 |[],i,nt=>by rw[Ux];exact zaX _
 |t::r,i,nt=>by
  rw[Ux];cases(t.kind==1||t.kind==37)<;>cases t.kind==2<;>simp only[aH,bG]
  ·exact zaX _
  ·have:=aiL r (i+1) (nt++[t.text]);omega
  ·have:=aiL r (i+1) nt;omega
  ·have:=aiL r (i+1) nt;omega
def aor(i:Nat)(nt:dO):i<=(sep l i nt).1:=aiL _ _ _
structure Ends(l:List Tk)(n:Nat):Prop where
 ex:∀lv a b i nt,1<=lv->lv<=15->40 * (l.length - i)+(2 * (16 - lv)+2)<=n->(ex l n lv a b i nt).tot λ_ j _=>i<j
 ch:∀lv a b x i nt,3<=lv->lv<=10->40 * (l.length - i)+(2 * (16 - lv)+1)<=n->(chP l n lv a b x i nt).tot λ_ j _=>i<=j
 inp:∀a x i nt,40 * (l.length - i)+1<=n->(inP l n a x i nt).tot λ_ j _=>i<=j
 pre:∀i nt,i<l.length->40 * (l.length - i)+1<=n->(UM l n i nt).tot λ_ j _=>i<j
 lst:∀e i nt,e≠0->40 * (l.length - i)+36<=n->(QT l n e i nt).tot λ_ j _=>i<j
 it:∀a b L i nt,40 * (l.length - i)+35<=n->(Ua l n a b L i nt).tot λ_ j _=>i<j
def atK{k:Int}(h:Xh k=true):k≠0:=by rintro rfl;exact absurd h (by decide)
def Xj{k:Int}(h:isStep k=true):k≠0:=by rintro rfl;exact absurd h (by decide)
def afK{lv:Nat}{b:Bool}{k:Int}(h3:3<=lv)(h:QS lv b k=true):k≠0:=by
 rintro rfl;unfold QS at h;cases hb:Nat.beq lv 8 with
 |true=>rw[hb,aH] at h;exact absurd h (by decide)
 |false=>
  rw[hb,bG,zq] at h;have h1:(0:Int)=(lv:Int):=by simpa[ug] using h.1
  omega
section
variable {n:Nat} (h:Ends l n)
include h
theorem aDg(lv:Nat)(a b:Bool)(i:Nat)(nt:dO)(h1:1<=lv)(h2:lv<=15)(hn:40 * (l.length - i)+(2 * (16 - lv)+2)<=n+1):(ex l (n+1) lv a b i nt).tot λ_ j _=>i<j:=by
 have hlt:∀{j:Nat} {k:Int},(dP l j==k)=true->k≠0->j<l.length:=λe hk=>gZ (by rw[beq_iff_eq] at e;rw[e];exact hk)
 have hc:lv=1\/lv=2\/lv=3\/lv=4\/lv=5\/lv=6\/lv=7\/lv=8\/lv=9\/lv=10\/lv=11\/lv=12\/lv=13\/lv=14\/lv=15:=au;rcases hc with rfl|rfl|rfl|rfl|rfl|rfl|rfl|rfl|rfl|rfl|rfl|rfl|rfl|rfl|rfl<;>simp only[ex,fV]
 ·refine bW (h.ex 2 a b i nt au au au) λx j m hj=> ?_
  rw[fF];refine⟨λhc=> ?_,λ_=>hj⟩;rw[zq] at hc;have:=gZ (atK hc.2);rw[fV];exact bW (h.ex 1 a b (j+1) m au au au) λy j' m' hj'=>(show i<j' by omega)
 ·refine bW (h.ex 3 a b i nt au au au) λx j m hj=> ?_
  rw[fF];refine⟨λhc=> ?_,λ_=>hj⟩;have:=hlt hc (by decide);simp only[fV,Fe];refine bW (h.ex 2 a b (j+1) m au au au) λy j2 m2 hj2=>λhk=> ?_
  exact bW (h.ex 2 a b (j2+1) m2 au au au) λz j3 m3 hj3=>(show i<j3 by omega)
 ·refine bW (h.ex 4 a b i nt au au au) λx j m hj=> ?_
  exact bW (h.ch 3 a b x j m au au au) λy j' m' hj'=>(show i<j' by omega)
 ·refine bW (h.ex 5 a b i nt au au au) λx j m hj=> ?_
  exact bW (h.ch 4 a b x j m au au au) λy j' m' hj'=>(show i<j' by omega)
 ·rw[fF];refine⟨λhc=> ?_,λ_=> ?_⟩
  ·rw[zq,zq] at hc;have:=hlt hc.1.1 (by decide);simp only[fV,Fe,abH];refine bW (h.lst 33 (i+1) nt (by decide) au) λL j m hj=>λh24 h6=> ?_
   have:=gZ (l:=l) (i:=j) (by rw[h24];decide);exact bW (h.inp a _ (j+1+1) m au) λy j' m' hj'=>(show i<j' by omega)
  ·rw[fV];refine bW (h.ex 6 a b i nt au au au) λx j m hj=> ?_
   exact bW (h.inp a x j m au) λy j' m' hj'=>(show i<j' by omega)
 ·refine bW (h.ex 7 a b i nt au au au) λx j m hj=> ?_
  rw[fF];refine⟨λhc=> ?_,λ_=>hj⟩;have:j<l.length:=by rw[Bool.or_eq_true] at hc;rcases hc with hc|hc<;>exact hlt hc (by decide)
  rw[fV];exact bW (h.ex 7 a b (j+1) m au au au) λy j' m' hj'=>(show i<j' by omega)
 ·refine bW (h.ex 8 a b i nt au au au) λx j m hj=> ?_
  rw[fF];refine⟨λhc=> ?_,λ_=>hj⟩;have:=gZ (afK au hc);rw[fV];exact bW (h.ex 8 a b (j+1) m au au au) λy j' m' hj'=>(show i<j' by omega)
 ·refine bW (h.ex 9 a b i nt au au au) λx j m hj=> ?_
  exact bW (h.ch 8 a b x j m au au au) λy j' m' hj'=>(show i<j' by omega)
 ·refine bW (h.ex 10 a b i nt au au au) λx j m hj=> ?_
  exact bW (h.ch 9 a b x j m au au au) λy j' m' hj'=>(show i<j' by omega)
 ·refine bW (h.ex 11 a b i nt au au au) λx j m hj=> ?_
  exact bW (h.ch 10 a b x j m au au au) λy j' m' hj'=>(show i<j' by omega)
 ·rw[fF];refine⟨λhc=> ?_,λ_=>h.ex 12 a b i nt au au au⟩;have:i<l.length:=by simp only[Bool.or_eq_true] at hc;rcases hc with hc|hc|hc<;>exact hlt hc (by decide)
  rw[fV];exact bW (h.ex 11 a b (i+1) nt au au au) λy j' m' hj'=>(show i<j' by omega)
 ·refine bW (h.ex 13 a b i nt au au au) λx j m hj=> ?_
  rw[fF];refine⟨λhc=> ?_,λ_=>hj⟩;have:=hlt hc (by decide);rw[fV];exact bW (h.ex 11 a b (j+1) m au au au) λy j' m' hj'=>(show i<j' by omega)
 ·rw[fF];refine⟨λhc=> ?_,λ_=> ?_⟩
  ·have:=gZ (Xj hc);exact h.pre i nt this au
  ·rw[fV];refine bW (h.ex 14 a b i nt au au au) λx j m hj=> ?_
   rw[fF];exact⟨λ_=>(show i<j+1 by omega),λ_=>hj⟩
 ·rw[fF];refine⟨λhc=> ?_,λ_=>h.ex 15 a b i nt au au au⟩;have:=hlt hc (by decide);rw[fV,fF];refine⟨λhs=> ?_,λ_=> ?_⟩
  ·have:=gZ (Xj hs);exact bW (h.pre (i+1) nt this au) λx j m hj=>(show i<j by omega)
  ·exact bW (h.ex 14 a b (i+1) nt au au au) λx j m hj=>(show i<j by omega)
 ·have abI:∀k,(adU k l i nt).tot λ_ j _=>i<j:=λk=>(show i<i+1 by omega)
  rw[fF];refine⟨λ_=>abI 2,λ_=> ?_⟩;rw[fF];refine⟨λ_=>abI 3,λ_=> ?_⟩;rw[fF];refine⟨λ_=>abI 4,λ_=> ?_⟩;rw[fF];refine⟨λhc=> ?_,λ_=> ?_⟩
  ·rw[fF];refine⟨λhd=> ?_,λ_=>abI 1⟩;have:=hlt hd (by decide);simp only[fV,Fe];exact bW (h.it false false [] (i+2) nt au) λL j m hj=>λ_=>(show i<j+1 by omega)
  rw[fF];refine⟨λhc=> ?_,λ_=> ?_⟩
  ·have:i<l.length:=by rw[Bool.or_eq_true] at hc;rcases hc with hc|hc<;>exact hlt hc (by decide)
   rw[fF];refine⟨λ_=>abI 8,λ_=> ?_⟩;simp only[fV,Fe];intro h32;have:=gZ (l:=l) (i:=i+1) (by rw[h32];decide);exact bW (h.lst 33 (i+1+1) nt (by decide) au) λL j m hj=>(show i<j by omega)
  rw[fF];refine⟨λhc=> ?_,λ_=>trivial⟩;have:=hlt hc (by decide);simp only[fV,Fe];exact bW (h.ex 1 false false (i+1) nt au au au) λx j m hj=>λ_=>(show i<j+1 by omega)
theorem aDh(lv:Nat)(a b:Bool)(x:Xp)(i:Nat)(nt:dO)(h3:3<=lv)(h10:lv<=10)(hn:40 * (l.length - i)+(2 * (16 - lv)+1)<=n+1):(chP l (n+1) lv a b x i nt).tot λ_ j _=>i<=j:=by
 rw[chP,fF];refine⟨λhc=> ?_,λ_=>zaX i⟩;have hlt:=gZ (afK h3 hc);simp only;cases h8:Nat.beq lv 8 with
 |true=>
  have:=Kr h8;subst this;simp only[aH,fV];refine bW (h.ex 9 a b i nt au au au) λy j m hj=> ?_
  exact bW (h.ch 8 a b _ j m au au au) λy j' m' hj'=>(show i<=j' by omega)
 |false=>
  simp only[bG];cases h4:Nat.ble lv 4 with
  |true=>
   simp only[aH,fV];have hg:=ahQ (l:=l) (i+1) nt;refine bW (h.ex (lv+1) a b _ _ au au au) λy j m hj=> ?_
   exact bW (h.ch lv a b _ j m au au au) λy j' m' hj'=>(show i<=j' by omega)
  |false=>
   simp only[bG,fV];refine bW (h.ex (lv+1) a b (i+1) nt au au au) λy j m hj=> ?_
   exact bW (h.ch lv a b _ j m au au au) λy j' m' hj'=>(show i<=j' by omega)
theorem azM(a:Bool)(x:Xp)(i:Nat)(nt:dO)(hn:40 * (l.length - i)+1<=n+1):(inP l (n+1) a x i nt).tot λ_ j _=>i<=j:=by rw[inP,fF];refine⟨λhc=> ?_,λ_=>zaX i⟩;rw[zq] at hc;have:i<l.length:=gZ (by have:=hc.1;rw[beq_iff_eq] at this;rw[this];decide);rw[fV,abH];intro h6;exact bW (h.inp a _ (i+1+1) nt au) λy j' m' hj'=>(show i<=j' by omega)
theorem azN(i:Nat)(nt:dO)(hi:i<l.length)(hn:40 * (l.length - i)+1<=n+1):(UM l (n+1) i nt).tot λ_ j _=>i<j:=by rw[UM,fF];refine⟨λhc=> ?_,λ_=>trivial⟩;rw[fV];exact bW (h.ex 14 false false (i+1) nt au au au) λy j' m' hj'=>(show i<j' by omega)
theorem azO(e:Int)(i:Nat)(nt:dO)(he:e≠0)(hn:40 * (l.length - i)+36<=n+1):(QT l (n+1) e i nt).tot λ_ j _=>i<j:=by rw[QT,fF];refine⟨λhc=>(show i<i+1 by omega),λ_=> ?_⟩;simp only[fV,Fe];exact bW (h.it false false [] i nt au) λL j m hj=>λ_=>(show i<j+1 by omega)
theorem aDi(a b:Bool)(L:List Tn)(i:Nat)(nt:dO)(hn:40 * (l.length - i)+35<=n+1):(Ua l (n+1) a b L i nt).tot λ_ j _=>i<j:=by
 rw[Ua,fV];refine bW (h.ex 1 a b i nt au au au) λx j m hj=> ?_
 rw[fF];refine⟨λhc=> ?_,λ_=>hj⟩;have:j<l.length:=gZ (by rw[beq_iff_eq] at hc;rw[hc];decide);rw[fF];refine⟨λ_=>trivial,λ_=> ?_⟩;have hg:=ahQ (l:=l) (j+1) m;exact bW (h.it a b _ _ _ au) λy j' m' hj'=>(show i<j' by omega)
end
def adV(l:List Tk):∀n,Ends l n
 |0=>⟨λlv a b i nt h1 h2 hn=>by omega,λlv a b x i nt h1 h2 hn=>by omega,λa x i nt hn=>by omega,λi nt h hn=>by omega,λe i nt he hn=>by omega,λa b L i nt hn=>by omega⟩
 |n+1=>have h:=adV l n
  ⟨aDg h,aDh h,azM h,azN h,azO h,aDi h⟩
variable {l:List Tk}
def fG{i:Nat}{k:Int}(e:(dP l i==k)=true)(hk:k≠0):i<l.length:=gZ (by rw[beq_iff_eq] at e;rw[e];exact hk)
def akD{k:Int}(h:IY k=true):k≠0:=by rintro rfl;exact absurd h (by decide)
def akE{n i:Nat}{nt:dO}(hn:40 * (l.length - i)+34<=n):(Rk l n i nt).tot λ_ j _=>i<j:=by simp only[Rk,fV,Fe];intro h;exact bW ((adV l n).ex 1 false false (i+1) nt au au au) λx j m hj=>λ_=>(show i<j+1 by omega)
def ag0{n i:Nat}{nt:dO}{e:Int}{a:Bool}(hn:40 * (l.length - i)+34<=n):(Jy l n e a i nt).tot λ_ j _=>i<=j:=by rw[Jy,fF];refine⟨λ_=>zaX i,λ_=> ?_⟩;rw[fV];exact bW ((adV l n).ex 1 a false i nt au au au) λx j m hj=>(show i<=j by omega)
def arD{n i:Nat}{k:Int}{nt:dO}(hn:40 * (l.length - i)+34<=n):(Xi l n k i nt).tot λ_ j _=>i<j:=by rw[Xi,fF];refine⟨λ_=>Nat.lt_succ_self i,λ_=> ?_⟩;rw[fV];exact bW ((adV l n).ex 1 false false (i+1) nt au au au) λx j m hj=>(show i<j by omega)
def aDj{n i:Nat}{nt:dO}(hn:40 * (l.length - i)+40<=n):(agX l n i nt).tot λ_ j _=>i<j:=by rw[agX,fV,abH];intro h;rw[fF];refine⟨λhc=> ?_,λ_=>(show i<i+1+1 by omega)⟩;simp only[fV,Fe];exact bW ((adV l n).it false false [] (i+1+1+1) nt au) λx j m hj=>λ_=>(show i<j+1 by omega)
def aDk{n i:Nat}{nt:dO}(hn:40 * (l.length - i)+40<=n):(aeU l n i nt).tot λ_ j _=>i<j:=by
 rw[aeU,fV];have h1:(bif dP l i==26|| !(Uy (dP l (i+1))||IY (dP l (i+1))) then Ua l n false true [] (i+1) nt else .ok [] (i+1) nt:PR (List Tn)).tot λ_ j _=>i<j:=by rw[fF];exact⟨λ_=>bW ((adV l n).it false true [] (i+1) nt au) λx j m hj=>(show i<j by omega),λ_=>Nat.lt_succ_self i⟩
 refine bW h1 λL j m hj=> ?_
 rw[fF];refine⟨λhc=> ?_,λ_=>hj⟩;rw[fV];exact bW ((adV l n).ex 9 false false (j+1) m au au au) λx j' m hj'=>(show i<j' by omega)
def aDl{n i:Nat}{nt:dO}(hn:40 * (l.length - i)+40<=n):(agY l n i nt).tot λ_ j _=>i<j:=by rw[agY,fF];refine⟨λ_=>aDk hn,λ_=> ?_⟩;rw[fF];refine⟨λ_=>Nat.lt_succ_self i,λ_=> ?_⟩;rw[fF];refine⟨λ_=>Nat.lt_succ_self i,λ_=> ?_⟩;rw[fF];refine⟨λ_=>Nat.lt_succ_self i,λ_=> ?_⟩;rw[fF];refine⟨λ_=>arD au,λ_=> ?_⟩;rw[fF];refine⟨λ_=>arD au,λ_=> ?_⟩;rw[fF];refine⟨λ_=>aDj au,λ_=> ?_⟩;rw[fV];exact bW ((adV l n).ex 1 false false i nt au au au) λx j m hj=>hj
def aos{α:Type}{x:α}{i j:Nat}{nt:dO}(h:i<j):(endP l x j nt).tot λ_ j _=>i<j:=by rw[endP,fF];exact⟨λ_=>h,λ_=>trivial⟩
structure aFs(l:List Tk)(n:Nat):Prop where
 st:∀i nt,60 * (l.length - i)+50<=n->(stP l n i nt).tot λ_ j _=>i<j
 blk:∀i nt,60 * (l.length - i)+42<=n->(Jz l n i nt).tot λ_ j _=>i<j
 lines:∀L i nt,60 * (l.length - i)+52<=n->(UN l n L i nt).tot λ_ j _=>i<j
 body:∀i nt,60 * (l.length - i)+52<=n->(Aq l n i nt).tot λ_ j _=>i<j
section
variable {n:Nat} (h:aFs l n)
include h
theorem aDm(i:Nat)(nt:dO)(hn:60 * (l.length - i)+50<=n+1):(stP l (n+1) i nt).tot λ_ j _=>i<j:=by
 rw[stP,fF];refine⟨λ_=>h.blk i nt au,λ_=> ?_⟩;rw[fF];refine⟨λhc=> ?_,λ_=> ?_⟩
 ·have:=fG hc (by decide);simp only[fV];refine bW (akE au) λx j m hj=> ?_
  refine bW (h.body j m au) λy j2 m2 hj2=> ?_
  rw[fF];refine⟨λhc=> ?_,λ_=>(show i<j2 by omega)⟩;have hs:=aor (l:=l) j2 m2;rw[fV];exact bW (h.body _ _ au) λz j3 m3 hj3=>(show i<j3 by omega)
 rw[fF];refine⟨λhc=> ?_,λ_=> ?_⟩
 ·have:=fG hc (by decide);simp only[fV];refine bW (akE au) λx j m hj=> ?_
  exact bW (h.body j m au) λy j2 m2 hj2=>(show i<j2 by omega)
 rw[fF];refine⟨λhc=> ?_,λ_=> ?_⟩
 ·have:=fG hc (by decide);simp only[fV,Fe];refine bW (h.body (i+1) nt au) λx j m hj=>λhk=> ?_
  have hs:=aor (l:=l) j m;refine bW (akE au) λy j2 m2 hj2=> ?_
  exact aos au
 rw[fF];refine⟨λhc=> ?_,λ_=> ?_⟩
 ·have:=fG hc (by decide);simp only[fV,Fe];intro h32;rw[fF];refine⟨λhd=> ?_,λ_=> ?_⟩
  ·simp only[fV,Fe,abH];intro h6 h33;exact bW (h.body _ nt au) λy j2 m2 hj2=>(show i<j2 by omega)
  ·simp only[fV,Fe];refine bW (ag0 au) λx j m hj=>λhk=> ?_
   have g1:=ahQ (l:=l) (j+1) m;refine bW (ag0 au) λy j2 m2 hj2=>λhk2=> ?_
   have g2:=ahQ (l:=l) (j2+1) m2;refine bW (ag0 au) λz j3 m3 hj3=>λhk3=> ?_
   exact bW (h.body _ _ au) λw j4 m4 hj4=>(show i<j4 by omega)
 rw[fV];exact bW (aDl au) λx j m hj=>aos hj
theorem azP(i:Nat)(nt:dO)(hn:60 * (l.length - i)+42<=n+1):(Jz l (n+1) i nt).tot λ_ j _=>i<j:=by simp only[Jz,fV,Fe];intro hk;have:=gZ (l:=l) (i:=i) (by rw[hk];decide);exact bW (h.lines [] (i+1) nt au) λL j m hj=>(show i<j by omega)
theorem atL(L:List Tn)(i:Nat)(nt:dO)(hn:60 * (l.length - i)+52<=n+1):(UN l (n+1) L i nt).tot λ_ j _=>i<j:=by
 have hs:=aor (l:=l) i nt;rw[UN,fF];refine⟨λhc=>(show i<(sep l i nt).1+1 by omega),λ_=> ?_⟩;rw[fF];refine⟨λ_=>trivial,λhc=> ?_⟩;have hlt:(sep l i nt).1<l.length:=gZ (by simpa using hc);rw[fV];refine bW (h.st _ _ au) λs j m hj=> ?_
 exact bW (h.lines _ j m au) λL j2 m2 hj2=>(show i<j2 by omega)
theorem aw7(i:Nat)(nt:dO)(hn:60 * (l.length - i)+52<=n+1):(Aq l (n+1) i nt).tot λ_ j _=>i<j:=by have hs:=ahQ (l:=l) i nt;rw[Aq,fF];refine⟨λhc=>bW (h.blk _ _ au) λs j m hj=>(show i<j by omega),λ_=> ?_⟩;rw[fF];refine⟨λ_=>(show i<(nl l i nt).1+1 by omega),λ_=> ?_⟩;rw[fV];exact bW (h.st _ _ au) λs j m hj=>(show i<j by omega)
end
def avn(l:List Tk):∀n,aFs l n
 |0=>⟨λi nt hn=>by omega,λi nt hn=>by omega,λL i nt hn=>by omega,λi nt hn=>by omega⟩
 |n+1=>have h:=avn l n
  ⟨aDm h,azP h,atL h,aw7 h⟩
def arE:∀(n:Nat) (L:List Tn) (i:Nat) (nt:dO),l.length - i+1<=n->(Fb l n L i nt).tot λ_ j _=>i<j
 |0,_,_,_,hn=>by omega
 |n+1,L,i,nt,hn=>by rw[Fb,fV,abH];intro h6;have:=gZ (l:=l) (i:=i) (by rw[h6];decide);rw[fF];refine⟨λhc=> ?_,λ_=>Nat.lt_succ_self i⟩;rw[fF];refine⟨λ_=>trivial,λ_=> ?_⟩;have hs:=ahQ (l:=l) (i+1+1) nt;exact bW (arE n _ _ _ au) λs j m hj=>(show i<j by omega)
def aDn{n i:Nat}{nt:dO}(hn:60 * (l.length - i)+50<=n):(agZ l n i nt).tot λ_ j _=>i<j:=by
 rw[agZ,fF];refine⟨λhc=> ?_,λ_=>trivial⟩;simp only[fV,Fe];intro h32;have h1:(bif dP l (i+1+1)==33 then .ok [] (i+1+1) nt else Fb l n [] (i+1+1) nt:PR (List Tn)).tot λ_ j _=>i<j:=by rw[fF];exact⟨λ_=>(show i<i+1+1 by omega),λ_=>bW (arE n [] _ nt au) λx j m hj=>(show i<j by omega)⟩
 refine bW h1 λL j m hj=>λh33=> ?_
 have hs:=ahQ (l:=l) (j+1) m;exact bW ((avn l n).blk _ _ au) λx j m hj=>(show i<j by omega)
def azQ{n i:Nat}{nt:dO}(hn:60 * (l.length - i)+50<=n):(Rl l n i nt).tot λ_ j _=>i<j:=by
 have hb:∀(i:Nat) (nt:dO) (k o:Int),60 * (l.length - i)+50<=n->((Jz l n i nt).bind λb i nt=>PR.ok (Tn.mk k o [] [] [b]) i nt).tot λ_ j _=>i<j:=by intro i nt k o hn;rw[fV];exact bW ((avn l n).blk i nt au) λx j m hj=>hj
 rw[Rl,fF];refine⟨λhc=>bW (hb (i+1) nt 40 0 au) λx j m hj=>(show i<j by omega),λ_=> ?_⟩;rw[fF];refine⟨λhc=>bW (hb (i+1) nt 41 0 au) λx j m hj=>(show i<j by omega),λ_=> ?_⟩;rw[fF];refine⟨λhc=>bW (aDn au) λx j m hj=>(show i<j by omega),λ_=> ?_⟩;rw[fF];refine⟨λhc=>hb i nt 42 2 au,λ_=> ?_⟩;rw[fV];refine bW ((adV l n).ex 1 false false i nt au au au) λx j m hj=> ?_
 rw[fV];have h1:(bif dP l j==36 then(ex l n 1 false false (nl l (j+1) m).1 (nl l (j+1) m).2).bind λy i nt=> .ok (43,[x.1,y.1]) i nt else .ok (42,[x.1]) j m:PR (Int×List Tn)).tot λ_ j _=>i<j:=by rw[fF];refine⟨λhc=> ?_,λ_=>hj⟩;have hs:=ahQ (l:=l) (j+1) m;rw[fV];exact bW ((adV l n).ex 1 false false _ _ au au au) λy j2 m2 hj2=>(show i<j2 by omega)
 refine bW h1 λq j2 m2 hj2=> ?_
 rw[fF];refine⟨λhc=> ?_,λ_=>aos hj2⟩;rw[fV];exact bW ((avn l n).blk j2 m2 au) λy j3 m3 hj3=>(show i<j3 by omega)
def arF:∀(n:Nat) (L:List Tn) (i:Nat) (nt:dO),60 * (l.length - i)+52<=n->(Ig l n L i nt).tot λ_ j _=>i<=j
 |0,_,_,_,hn=>by omega
 |n+1,L,i,nt,hn=>by
  have hs:=aor (l:=l) i nt;rw[Ig,fF];refine⟨λ_=>hs,λhc=> ?_⟩;have hlt:(sep l i nt).1<l.length:=gZ (by simpa using hc);rw[fF];refine⟨λ_=>trivial,λ_=> ?_⟩;rw[fV];refine bW (azQ au) λs j m hj=> ?_
  exact bW (arF n _ j m au) λL j2 m2 hj2=>(show i<=j2 by omega)
section
variable {α β:Type} {P Q:α->Nat->dO->Prop} {R:β->Nat->dO->Prop} {x y:PR α} {f:α->Nat->dO->PR β} {c:Bool}
def eY:(x.bind f).sat R↔x.sat λa i nt=>(f a i nt).sat R:=by cases x<;>exact Iff.rfl
def bK(h:x.sat P)(k:∀a i nt,P a i nt->Q a i nt):x.sat Q:=by
 cases x with
 |ok a i nt=>exact k a i nt h
 |bad _=>trivial
 |out=>trivial
def dX:(bif c then x else y).sat P↔(c=true->x.sat P)/\(c=false->y.sat P):=by cases c<;>simp
def rM{a:α}{i:Nat}{nt:dO}(h:x.sat P)(e:x=.ok a i nt):P a i nt:=by rw[e] at h;exact h
end
variable {l:List Tk}
def Dl{P:Unit->Nat->dO->Prop}{k:Int}{i:Nat}{nt:dO}:(o7 l k i nt).sat P↔(dP l i=k->P () (i+1) nt):=by unfold o7;rw[dX];simp[PR.sat]
def Yr{P:aC->Nat->dO->Prop}{i:Nat}{nt:dO}:(nameP l i nt).sat P↔(dP l i=6->P (Np l i) (i+1) nt):=by unfold nameP;rw[dX];simp[PR.sat]
abbrev FN(l:List Tk)(i n0 j n:Nat):Prop:=i<=j/\j<=l.length/\n+i<=n0+j
abbrev FE(l:List Tk)(i n0 s j n:Nat):Prop:=i<j/\j<=l.length/\n+i<=n0+j/\s+2 * i+1<=2 * j
def aot:∀(r:List Tk) (i:Nat) (nt:dO),i<=(nlR r i nt).1/\(nlR r i nt).1<=i+r.length/\(nlR r i nt).2.length+i<=nt.length+(nlR r i nt).1
 |[],i,nt=>by rw[nlR];exact⟨zaX _,zaX _,zaX _⟩
 |t::r,i,nt=>by
  rw[nlR,Pq];cases t.kind==1<;>cases t.kind==2<;>simp only[aH,bG]
  ·omega
  ·have:=aot r (i+1) (nt++[t.text]);rw[Gt,OW] at this;omega
  ·have:=aot r (i+1) nt;omega
  ·have:=aot r (i+1) nt;omega
def Ph{i:Nat}{nt:dO}(h:i<=l.length):FN l i nt.length (nl l i nt).1 (nl l i nt).2.length:=by have:=aot (l.drop i) i nt;rw[List.length_drop] at this;unfold nl;omega
def aiM:∀(r:List Tk) (i:Nat) (nt:dO),i<=(Ux r i nt).1/\(Ux r i nt).1<=i+r.length/\(Ux r i nt).2.length+i<=nt.length+(Ux r i nt).1
 |[],i,nt=>by rw[Ux];exact⟨zaX _,zaX _,zaX _⟩
 |t::r,i,nt=>by
  rw[Ux,Pq];cases(t.kind==1||t.kind==37)<;>cases t.kind==2<;>simp only[aH,bG]
  ·omega
  ·have:=aiM r (i+1) (nt++[t.text]);rw[Gt,OW] at this;omega
  ·have:=aiM r (i+1) nt;omega
  ·have:=aiM r (i+1) nt;omega
def abJ{i:Nat}{nt:dO}(h:i<=l.length):FN l i nt.length (sep l i nt).1 (sep l i nt).2.length:=by have:=aiM (l.drop i) i nt;rw[List.length_drop] at this;unfold sep;omega
structure aSp(l:List Tk)(n:Nat):Prop where
 ex:∀lv a b i nt,1<=lv->lv<=15->i<=l.length->(ex l n lv a b i nt).sat λx j m=>FE l i nt.length x.1.size j m.length
 ch:∀lv a b x i nt,3<=lv->lv<=10->i<=l.length->(chP l n lv a b x i nt).sat λy j m=>FN l i nt.length j m.length/\y.1.size+2 * i<=x.1.size+2 * j
 inp:∀a x i nt,i<=l.length->(inP l n a x i nt).sat λy j m=>FN l i nt.length j m.length/\y.1.size+2 * i<=x.1.size+2 * j
 pre:∀i nt,i<l.length->(UM l n i nt).sat λx j m=>FE l i nt.length x.1.size j m.length
 lst:∀e i nt,e≠0->i<=l.length->(QT l n e i nt).sat λL j m=>FE l i nt.length (sizes L) j m.length
 it:∀a b L i nt,i<=l.length->(Ua l n a b L i nt).sat λL' j m=>i<j/\FN l i nt.length j m.length/\sizes L'+2 * i+1<=sizes L+2 * j
def ZC(k o:Int)(x y:aC)(t:Tn):(Tn.mk k o x y [t]).size=t.size+1:=by simp only[Tn.size,sizes,Nat.add_zero]
def size2(k o:Int)(x y:aC)(t u:Tn):(Tn.mk k o x y [t,u]).size=t.size+u.size+1:=by simp only[Tn.size,sizes,Nat.add_zero]
def size3(k o:Int)(x y:aC)(t u v:Tn):(Tn.mk k o x y [t,u,v]).size=t.size+u.size+v.size+1:=by simp only[Tn.size,sizes,Nat.add_zero];omega
def aSq(k o:Int)(x y:aC)(t u v w:Tn):(Tn.mk k o x y [t,u,v,w]).size=t.size+u.size+v.size+w.size+1:=by simp only[Tn.size,sizes];omega
def ZE(k o:Int)(x y:aC)(L:List Tn):(Tn.mk k o x y L).size=sizes L+1:=by rw[Tn.size]
def ahR(k o:Int)(x y:aC):(Tn.mk k o x y []).size=1:=by rw[Tn.size,sizes]
def sizes1(L:List Tn)(t:Tn):sizes (L++[t])=sizes L+t.size:=by rw[nI,sizes,sizes];omega
section
variable {n:Nat} (h:aSp l n)
include h
theorem aDo(lv:Nat)(a b:Bool)(i:Nat)(nt:dO)(h1:1<=lv)(h2:lv<=15)(hi:i<=l.length):(ex l (n+1) lv a b i nt).sat λx j m=>FE l i nt.length x.1.size j m.length:=by
 have hlt:∀{j:Nat} {k:Int},(dP l j==k)=true->k≠0->j<l.length:=λe hk=>gZ (by rw[beq_iff_eq] at e;rw[e];exact hk)
 have hc:lv=1\/lv=2\/lv=3\/lv=4\/lv=5\/lv=6\/lv=7\/lv=8\/lv=9\/lv=10\/lv=11\/lv=12\/lv=13\/lv=14\/lv=15:=au;rcases hc with rfl|rfl|rfl|rfl|rfl|rfl|rfl|rfl|rfl|rfl|rfl|rfl|rfl|rfl|rfl<;>simp only[ex,eY]
 ·refine bK (h.ex 2 a b i nt au au hi) λx j m hj=> ?_
  rw[dX];refine⟨λhc=> ?_,λ_=>hj⟩;rw[zq] at hc;have:=gZ (atK hc.2);rw[eY];exact bK (h.ex 1 a b (j+1) m au au au) λy j' m' hj'=>by show FE l i nt.length (Tn.size _) j' m'.length;rw[size2];omega
 ·refine bK (h.ex 3 a b i nt au au hi) λx j m hj=> ?_
  rw[dX];refine⟨λhc=> ?_,λ_=>hj⟩;have:=hlt hc (by decide);simp only[eY,Dl];refine bK (h.ex 2 a b (j+1) m au au au) λy j2 m2 hj2=>λhk=> ?_
  have:=gZ (l:=l) (i:=j2) (by rw[hk];decide);exact bK (h.ex 2 a b (j2+1) m2 au au au) λz j3 m3 hj3=>by show FE l i nt.length (Tn.size _) j3 m3.length;rw[size3];omega
 ·refine bK (h.ex 4 a b i nt au au hi) λx j m hj=> ?_
  exact bK (h.ch 3 a b x j m au au au) λy j' m' hj'=>by omega
 ·refine bK (h.ex 5 a b i nt au au hi) λx j m hj=> ?_
  exact bK (h.ch 4 a b x j m au au au) λy j' m' hj'=>by omega
 ·rw[dX];refine⟨λhc=> ?_,λ_=> ?_⟩
  ·rw[zq,zq] at hc;have:=hlt hc.1.1 (by decide);simp only[eY,Dl,Yr];refine bK (h.lst 33 (i+1) nt (by decide) au) λL j m hj=>λh24 h6=> ?_
   have:=gZ (l:=l) (i:=j) (by rw[h24];decide);have:=gZ (l:=l) (i:=j+1) (by rw[h6];decide);exact bK (h.inp a _ (j+1+1) m au) λy j' m' hj'=>by rw[ZE] at hj';omega
  ·rw[eY];refine bK (h.ex 6 a b i nt au au hi) λx j m hj=> ?_
   exact bK (h.inp a x j m au) λy j' m' hj'=>by omega
 ·refine bK (h.ex 7 a b i nt au au hi) λx j m hj=> ?_
  rw[dX];refine⟨λhc=> ?_,λ_=>hj⟩;have:j<l.length:=by rw[Bool.or_eq_true] at hc;rcases hc with hc|hc<;>exact hlt hc (by decide)
  rw[eY];exact bK (h.ex 7 a b (j+1) m au au au) λy j' m' hj'=>by show FE l i nt.length (Tn.size _) j' m'.length;rw[size2];omega
 ·refine bK (h.ex 8 a b i nt au au hi) λx j m hj=> ?_
  rw[dX];refine⟨λhc=> ?_,λ_=>hj⟩;have:=gZ (afK au hc);rw[eY];exact bK (h.ex 8 a b (j+1) m au au au) λy j' m' hj'=>by show FE l i nt.length (Tn.size _) j' m'.length;rw[size2];omega
 ·refine bK (h.ex 9 a b i nt au au hi) λx j m hj=> ?_
  exact bK (h.ch 8 a b x j m au au au) λy j' m' hj'=>by omega
 ·refine bK (h.ex 10 a b i nt au au hi) λx j m hj=> ?_
  exact bK (h.ch 9 a b x j m au au au) λy j' m' hj'=>by omega
 ·refine bK (h.ex 11 a b i nt au au hi) λx j m hj=> ?_
  exact bK (h.ch 10 a b x j m au au au) λy j' m' hj'=>by omega
 ·rw[dX];refine⟨λhc=> ?_,λ_=>h.ex 12 a b i nt au au hi⟩;have:i<l.length:=by simp only[Bool.or_eq_true] at hc;rcases hc with hc|hc|hc<;>exact hlt hc (by decide)
  rw[eY];exact bK (h.ex 11 a b (i+1) nt au au au) λy j' m' hj'=>by show FE l i nt.length (Tn.size _) j' m'.length;rw[ZC];omega
 ·refine bK (h.ex 13 a b i nt au au hi) λx j m hj=> ?_
  rw[dX];refine⟨λhc=> ?_,λ_=>hj⟩;have:=hlt hc (by decide);rw[eY];exact bK (h.ex 11 a b (j+1) m au au au) λy j' m' hj'=>by show FE l i nt.length (Tn.size _) j' m'.length;rw[size2];omega
 ·rw[dX];refine⟨λhc=> ?_,λ_=> ?_⟩
  ·have:=gZ (Xj hc);exact h.pre i nt this
  ·rw[eY];refine bK (h.ex 14 a b i nt au au hi) λx j m hj=> ?_
   rw[dX];refine⟨λhs=> ?_,λ_=>hj⟩;rw[zq] at hs;have:=gZ (Xj hs.2);show FE l i nt.length (Tn.size _) (j+1) m.length;rw[ZC];omega
 ·rw[dX];refine⟨λhc=> ?_,λ_=>h.ex 15 a b i nt au au hi⟩;have:=hlt hc (by decide);rw[eY,dX];refine⟨λhs=> ?_,λ_=> ?_⟩
  ·have:=gZ (Xj hs);exact bK (h.pre (i+1) nt this) λx j m hj=>by show FE l i nt.length (Tn.size _) j m.length;rw[ZC];omega
  ·exact bK (h.ex 14 a b (i+1) nt au au au) λx j m hj=>by show FE l i nt.length (Tn.size _) j m.length;rw[ZC];omega
 ·have abI:∀k,i<l.length->(adU k l i nt).sat λx j m=>FE l i nt.length x.1.size j m.length:=λk hl=>by show FE l i nt.length (Tn.size _) (i+1) nt.length;rw[ahR];omega
  rw[dX];refine⟨λhc=>abI 2 (hlt hc (by decide)),λ_=> ?_⟩;rw[dX];refine⟨λhc=>abI 3 (hlt hc (by decide)),λ_=> ?_⟩;rw[dX];refine⟨λhc=>abI 4 (hlt hc (by decide)),λ_=> ?_⟩;rw[dX];refine⟨λhc=> ?_,λ_=> ?_⟩
  ·have h0:=hlt hc (by decide);rw[dX];refine⟨λhd=> ?_,λ_=>abI 1 h0⟩;have:=hlt hd (by decide);simp only[eY,Dl];exact bK (h.it false false [] (i+2) nt au) λL j m hj=>λhk=>by have:=gZ (l:=l) (i:=j) (by rw[hk];decide);show FE l i nt.length (Tn.size _) (j+1) m.length;rw[ZE];have e:sizes ([]:List Tn)=0:=rfl;omega
  rw[dX];refine⟨λhc=> ?_,λ_=> ?_⟩
  ·have:i<l.length:=by rw[Bool.or_eq_true] at hc;rcases hc with hc|hc<;>exact hlt hc (by decide)
   rw[dX];refine⟨λ_=>abI 8 this,λ_=> ?_⟩;simp only[eY,Dl];intro h32;have:=gZ (l:=l) (i:=i+1) (by rw[h32];decide);exact bK (h.lst 33 (i+1+1) nt (by decide) au) λL j m hj=>by show FE l i nt.length (Tn.size _) j m.length;rw[ZE];omega
  rw[dX];refine⟨λhc=> ?_,λ_=>trivial⟩;have:=hlt hc (by decide);simp only[eY,Dl];exact bK (h.ex 1 false false (i+1) nt au au au) λx j m hj=>λhk=>by have:=gZ (l:=l) (i:=j) (by rw[hk];decide);show FE l i nt.length x.1.size (j+1) m.length;omega
theorem aDp(lv:Nat)(a b:Bool)(x:Xp)(i:Nat)(nt:dO)(h3:3<=lv)(h10:lv<=10)(hi:i<=l.length):(chP l (n+1) lv a b x i nt).sat λy j m=>FN l i nt.length j m.length/\y.1.size+2 * i<=x.1.size+2 * j:=by
 rw[chP,dX];refine⟨λhc=> ?_,λ_=>(show FN l i nt.length i nt.length/\x.1.size+2 * i<=x.1.size+2 * i by omega)⟩;have hlt:=gZ (afK h3 hc);simp only;cases h8:Nat.beq lv 8 with
 |true=>
  have:=Kr h8;subst this;simp only[aH,eY];refine bK (h.ex 9 a b i nt au au au) λy j m hj=> ?_
  exact bK (h.ch 8 a b _ j m au au au) λy j' m' hj'=>by rw[size2] at hj';omega
 |false=>
  simp only[bG];cases h4:Nat.ble lv 4 with
  |true=>
   simp only[aH,eY];have hg:=Ph (l:=l) (i:=i+1) (nt:=nt) au;refine bK (h.ex (lv+1) a b _ _ au au au) λy j m hj=> ?_
   exact bK (h.ch lv a b _ j m au au au) λy j' m' hj'=>by rw[size2] at hj';omega
  |false=>
   simp only[bG,eY];refine bK (h.ex (lv+1) a b (i+1) nt au au au) λy j m hj=> ?_
   exact bK (h.ch lv a b _ j m au au au) λy j' m' hj'=>by rw[size2] at hj';omega
theorem azR(a:Bool)(x:Xp)(i:Nat)(nt:dO)(hi:i<=l.length):(inP l (n+1) a x i nt).sat λy j m=>FN l i nt.length j m.length/\y.1.size+2 * i<=x.1.size+2 * j:=by rw[inP,dX];refine⟨λhc=> ?_,λ_=>(show FN l i nt.length i nt.length/\x.1.size+2 * i<=x.1.size+2 * i by omega)⟩;rw[eY,Yr];intro h6;have:=gZ (l:=l) (i:=i+1) (by rw[h6];decide);exact bK (h.inp a _ (i+1+1) nt au) λy j' m' hj'=>by rw[ZC] at hj';omega
theorem azS(i:Nat)(nt:dO)(hi:i<l.length):(UM l (n+1) i nt).sat λx j m=>FE l i nt.length x.1.size j m.length:=by rw[UM,dX];refine⟨λhc=> ?_,λ_=>trivial⟩;rw[eY];exact bK (h.ex 14 false false (i+1) nt au au au) λy j' m' hj'=>by show FE l i nt.length (Tn.size _) j' m'.length;rw[ZC];omega
theorem azT(e:Int)(i:Nat)(nt:dO)(he:e≠0)(hi:i<=l.length):(QT l (n+1) e i nt).sat λL j m=>FE l i nt.length (sizes L) j m.length:=by
 have e0:sizes ([]:List Tn)=0:=rfl;rw[QT,dX];refine⟨λhc=> ?_,λ_=> ?_⟩
 ·have:=gZ (l:=l) (i:=i) (by rw[beq_iff_eq] at hc;rw[hc];exact he);show FE l i nt.length (sizes []) (i+1) nt.length;omega
 simp only[eY,Dl];exact bK (h.it false false [] i nt hi) λL j m hj=>λhk=>by have:=gZ (l:=l) (i:=j) (by rw[hk];exact he);show FE l i nt.length (sizes L) (j+1) m.length;omega
theorem aDq(a b:Bool)(L:List Tn)(i:Nat)(nt:dO)(hi:i<=l.length):(Ua l (n+1) a b L i nt).sat λL' j m=>i<j/\FN l i nt.length j m.length/\sizes L'+2 * i+1<=sizes L+2 * j:=by
 rw[Ua,eY];refine bK (h.ex 1 a b i nt au au hi) λx j m hj=> ?_
 rw[dX];refine⟨λhc=> ?_,λ_=> ?_⟩
 ·have:j<l.length:=gZ (by rw[beq_iff_eq] at hc;rw[hc];decide);rw[dX];refine⟨λ_=>trivial,λ_=> ?_⟩;have hg:=Ph (l:=l) (i:=j+1) (nt:=m) au;exact bK (h.it a b _ _ _ au) λy j' m' hj'=>by rw[sizes1] at hj';omega
 ·show i<j/\FN l i nt.length j m.length/\sizes (L++[x.1])+2 * i+1<=sizes L+2 * j;rw[sizes1];omega
end
def sats(l:List Tk):∀n,aSp l n
 |0=>⟨λ_ _ _ _ _ _ _ _=>by rw[ex];trivial,λ_ _ _ _ _ _ _ _ _=>by rw[chP];trivial,λ_ _ _ _ _=>by rw[inP];trivial,λ_ _ _=>by rw[UM];trivial,λ_ _ _ _ _=>by rw[QT];trivial,λ_ _ _ _ _ _=>by rw[Ua];trivial⟩
 |n+1=>have h:=sats l n
  ⟨aDo h,aDp h,azR h,azS h,azT h,aDq h⟩
variable {l:List Tk}
abbrev FB(l:List Tk)(i n0 s j n:Nat):Prop:=i<j/\j<=l.length/\n+i<=n0+j/\s+n+6 * i+5<=n0+6 * j
abbrev FS(l:List Tk)(i n0 s j n:Nat):Prop:=i<j/\j<=l.length/\n+i<=n0+j/\s+n+6 * i+3<=n0+6 * j
def sizes0:sizes ([]:List Tn)=0:=rfl
def Dw(nt:dO):(WA nt).length=nt.length:=by rw[WA,zaY]
def Zb:∀nt:dO,sizes (WA nt)=nt.length
 |[]=>rfl
 |s::r=>by rw[show WA (s::r)=Tn.mk 34 0 s [] []::WA r from rfl,sizes,ahR,Zb r,Pq];omega
def Ko{n lv i:Nat}{a b:Bool}{nt:dO}(h1:1<=lv)(h2:lv<=15)(hi:i<=l.length):(ex l n lv a b i nt).sat λx j m=>FE l i nt.length x.1.size j m.length:=(sats l n).ex lv a b i nt h1 h2 hi
def am8{n i:Nat}{a b:Bool}{nt:dO}(hi:i<=l.length):(Ua l n a b [] i nt).sat λL j m=>FE l i nt.length (sizes L) j m.length:=
 bK ((sats l n).it a b [] i nt hi) λL j m hj=>by rw[sizes0] at hj;omega
def abY{n i:Nat}{nt:dO}(hi:i<=l.length):(Rk l n i nt).sat λx j m=>FE l i nt.length x.size j m.length:=by simp only[Rk,eY,Dl];intro hk;have:=gZ (l:=l) (i:=i) (by rw[hk];decide);exact bK (Ko au au au) λx j m hj=>λhk=>by have:=gZ (l:=l) (i:=j) (by rw[hk];decide);show FE l i nt.length x.1.size (j+1) m.length;omega
def Yt{n i:Nat}{nt:dO}{e:Int}{a:Bool}(hi:i<=l.length):(Jy l n e a i nt).sat λx j m=>FN l i nt.length j m.length/\x.size+2 * i<=2 * j+1:=by
 rw[Jy,dX];refine⟨λ_=> ?_,λ_=> ?_⟩
 ·show FN l i nt.length i nt.length/\(Tn.size _)+2 * i<=2 * i+1;rw[ahR];omega
 rw[eY];exact bK (Ko au au hi) λx j m hj=>by show FN l i nt.length j m.length/\x.1.size+2 * i<=2 * j+1;omega
def avo{n i:Nat}{k:Int}{nt:dO}(hi:i<l.length):(Xi l n k i nt).sat λx j m=>FS l i nt.length x.size j m.length:=by
 rw[Xi,dX];refine⟨λ_=> ?_,λ_=> ?_⟩
 ·show FS l i nt.length (Tn.size _) (i+1) nt.length;rw[ahR];omega
 rw[eY];exact bK (Ko au au au) λx j m hj=>by show FS l i nt.length (Tn.size _) j m.length;rw[ZC];omega
def aHR{n i:Nat}{nt:dO}:(agX l n i nt).sat λx j m=>FS l i nt.length x.size j m.length:=by
 rw[agX,eY,Yr];intro h;have:=gZ (l:=l) (i:=i+1) (by rw[h];decide);rw[dX];refine⟨λhc=> ?_,λ_=> ?_⟩
 ·have:=fG hc (by decide);simp only[eY,Dl];exact bK (am8 au) λx j m hj=>λhk=>by have:=gZ (l:=l) (i:=j) (by rw[hk];decide);show FS l i nt.length (Tn.size _) (j+1) m.length;rw[ZE];omega
 ·show FS l i nt.length (Tn.size _) (i+1+1) nt.length;rw[ahR];omega
def aHS{n i:Nat}{nt:dO}(hi:i<l.length):(aeU l n i nt).sat λx j m=>FS l i nt.length x.size j m.length:=by
 rw[aeU,eY];have h1:(bif dP l i==26|| !(Uy (dP l (i+1))||IY (dP l (i+1))) then Ua l n false true [] (i+1) nt else .ok [] (i+1) nt:PR (List Tn)).sat λL j m=>FN l (i+1) nt.length j m.length/\sizes L+2 * (i+1)<=2 * j:=by rw[dX];refine⟨λ_=>bK (am8 au) λx j m hj=>by omega,λ_=> ?_⟩;show FN l (i+1) nt.length (i+1) nt.length/\sizes []+2 * (i+1)<=2 * (i+1);rw[sizes0];omega
 refine bK h1 λL j m hj=> ?_
 rw[dX];refine⟨λhc=> ?_,λ_=> ?_⟩
 ·have:=gZ (akD hc);rw[eY];exact bK (Ko au au au) λx j' m' hj'=>by show FS l i nt.length (Tn.size _) j' m'.length;rw[ZE,sizes1];omega
 ·show FS l i nt.length (Tn.size _) j m.length;rw[ZE];omega
def azU{n i:Nat}{nt:dO}(hi:i<=l.length):(agY l n i nt).sat λx j m=>FS l i nt.length x.size j m.length:=by
 have hw:∀k,i<l.length->(PR.ok (Tn.mk k 0 [] [] []) (i+1) nt).sat λx j m=>FS l i nt.length x.size j m.length:=λk hl=>by show FS l i nt.length (Tn.size _) (i+1) nt.length;rw[ahR];omega
 rw[agY,dX];refine⟨λhc=> ?_,λ_=> ?_⟩
 ·have:i<l.length:=by rw[Bool.or_eq_true] at hc;rcases hc with hc|hc<;>exact fG hc (by decide)
  exact aHS this
 rw[dX];refine⟨λhc=>hw 22 (fG hc (by decide)),λ_=> ?_⟩;rw[dX];refine⟨λhc=>hw 25 (fG hc (by decide)),λ_=> ?_⟩;rw[dX];refine⟨λhc=>hw 26 (fG hc (by decide)),λ_=> ?_⟩;rw[dX];refine⟨λhc=>avo (fG hc (by decide)),λ_=> ?_⟩;rw[dX];refine⟨λhc=>avo (fG hc (by decide)),λ_=> ?_⟩;rw[dX];refine⟨λ_=>aHR,λ_=> ?_⟩;rw[eY];exact bK (Ko au au hi) λx j m hj=>by show FS l i nt.length (Tn.size _) j m.length;rw[ZC];omega
def atM{α:Type}{P:α->Nat->dO->Prop}{x:α}{j:Nat}{nt:dO}(h:P x j nt):(endP l x j nt).sat P:=by rw[endP,dX];exact⟨λ_=>h,λ_=>trivial⟩
structure aFt(l:List Tk)(n:Nat):Prop where
 st:∀i nt,i<=l.length->(stP l n i nt).sat λx j m=>FS l i nt.length x.size j m.length
 blk:∀i nt,i<=l.length->(Jz l n i nt).sat λx j m=>FB l i nt.length x.size j m.length
 lines:∀L i nt,i<=l.length->(UN l n L i nt).sat λL' j m=>i<j/\FN l i nt.length j m.length/\sizes L'+m.length+6 * i<=sizes L+nt.length+6 * j
 body:∀i nt,i<=l.length->(Aq l n i nt).sat λx j m=>i<j/\FN l i nt.length j m.length/\x.size+m.length+6 * i+1<=nt.length+6 * j
section
variable {n:Nat} (h:aFt l n)
include h
theorem aDr(i:Nat)(nt:dO)(hi:i<=l.length):(stP l (n+1) i nt).sat λx j m=>FS l i nt.length x.size j m.length:=by
 rw[stP,dX];refine⟨λ_=>bK (h.blk i nt hi) λx j m hj=>by omega,λ_=> ?_⟩;rw[dX];refine⟨λhc=> ?_,λ_=> ?_⟩
 ·have:=fG hc (by decide);simp only[eY];refine bK (abY au) λx j m hj=> ?_
  refine bK (h.body j m au) λy j2 m2 hj2=> ?_
  rw[dX];have hs:=abJ (l:=l) (i:=j2) (nt:=m2) au;refine⟨λhc=> ?_,λ_=> ?_⟩
  ·have:=fG hc (by decide);rw[eY];exact bK (h.body _ _ au) λz j3 m3 hj3=>by show FS l i nt.length (Tn.size _) j3 m3.length;rw[size3];omega
  ·show FS l i nt.length (Tn.size _) j2 m2.length;rw[size2];omega
 rw[dX];refine⟨λhc=> ?_,λ_=> ?_⟩
 ·have:=fG hc (by decide);simp only[eY];refine bK (abY au) λx j m hj=> ?_
  exact bK (h.body j m au) λy j2 m2 hj2=>by show FS l i nt.length (Tn.size _) j2 m2.length;rw[size2];omega
 rw[dX];refine⟨λhc=> ?_,λ_=> ?_⟩
 ·have:=fG hc (by decide);simp only[eY,Dl];refine bK (h.body (i+1) nt au) λx j m hj=>λhk=> ?_
  have hs:=abJ (l:=l) (i:=j) (nt:=m) au;have:=gZ (l:=l) (i:=(sep l j m).1) (by rw[hk];decide);refine bK (abY au) λy j2 m2 hj2=> ?_
  refine atM (?_:FS l i nt.length (Tn.size _) j2 m2.length);rw[size2];omega
 rw[dX];refine⟨λhc=> ?_,λ_=> ?_⟩
 ·have:=fG hc (by decide);simp only[eY,Dl];intro h32;have:=gZ (l:=l) (i:=i+1) (by rw[h32];decide);rw[dX];refine⟨λhd=> ?_,λ_=> ?_⟩
  ·simp only[eY,Dl,Yr];intro h6 h33;have:=gZ (l:=l) (i:=i+1+1+2+1) (by rw[h33];decide);exact bK (h.body _ nt au) λy j2 m2 hj2=>by show FS l i nt.length (Tn.size _) j2 m2.length;rw[ZC];omega
  ·simp only[eY,Dl];refine bK (Yt au) λx j m hj=>λhk=> ?_
   have:=gZ (l:=l) (i:=j) (by rw[hk];decide);have g1:=Ph (l:=l) (i:=j+1) (nt:=m) au;refine bK (Yt au) λy j2 m2 hj2=>λhk2=> ?_
   have:=gZ (l:=l) (i:=j2) (by rw[hk2];decide);have g2:=Ph (l:=l) (i:=j2+1) (nt:=m2) au;refine bK (Yt au) λz j3 m3 hj3=>λhk3=> ?_
   have:=gZ (l:=l) (i:=j3) (by rw[hk3];decide);exact bK (h.body _ _ au) λw j4 m4 hj4=>by show FS l i nt.length (Tn.size _) j4 m4.length;rw[aSq];omega
 rw[eY];exact bK (azU hi) λx j m hj=>atM hj
theorem azV(i:Nat)(nt:dO)(hi:i<=l.length):(Jz l (n+1) i nt).sat λx j m=>FB l i nt.length x.size j m.length:=by simp only[Jz,eY,Dl];intro hk;have:=gZ (l:=l) (i:=i) (by rw[hk];decide);exact bK (h.lines [] (i+1) nt au) λL j m hj=>by rw[sizes0] at hj;show FB l i nt.length (Tn.size _) j m.length;rw[ZE];omega
theorem atN(L:List Tn)(i:Nat)(nt:dO)(hi:i<=l.length):(UN l (n+1) L i nt).sat λL' j m=>i<j/\FN l i nt.length j m.length/\sizes L'+m.length+6 * i<=sizes L+nt.length+6 * j:=by
 have hs:=abJ (l:=l) (i:=i) (nt:=nt) hi;rw[UN,dX];refine⟨λhc=> ?_,λ_=> ?_⟩
 ·have:=fG hc (by decide);show i<(sep l i nt).1+1/\FN l i nt.length ((sep l i nt).1+1) ([]:dO).length/\sizes (L++WA (sep l i nt).2)+([]:dO).length+6 * i<=sizes L+nt.length+6 * ((sep l i nt).1+1);rw[nI,Zb,UR];omega
 rw[dX];refine⟨λ_=>trivial,λhc=> ?_⟩;have hlt:(sep l i nt).1<l.length:=gZ (by simpa using hc);rw[eY];refine bK (h.st _ _ au) λs j m hj=> ?_
 rw[UR] at hj;exact bK (h.lines _ j m au) λL' j2 m2 hj2=>by rw[sizes1,nI,Zb] at hj2;omega
theorem aw8(i:Nat)(nt:dO)(hi:i<=l.length):(Aq l (n+1) i nt).sat λx j m=>i<j/\FN l i nt.length j m.length/\x.size+m.length+6 * i+1<=nt.length+6 * j:=by
 have hs:=Ph (l:=l) (i:=i) (nt:=nt) hi;rw[Aq,dX];refine⟨λhc=>bK (h.blk _ _ au) λs j m hj=>by omega,λ_=> ?_⟩;rw[dX];refine⟨λhc=> ?_,λ_=> ?_⟩
 ·have:=fG hc (by decide);show i<(nl l i nt).1+1/\FN l i nt.length ((nl l i nt).1+1) ([]:dO).length/\(Tn.size _)+([]:dO).length+6 * i+1<=nt.length+6 * ((nl l i nt).1+1);rw[ZE,Zb,UR];omega
 rw[eY];exact bK (h.st _ _ au) λs j m hj=>by rw[UR] at hj;show i<j/\FN l i nt.length j m.length/\(Tn.size _)+m.length+6 * i+1<=nt.length+6 * j;rw[ZE,sizes1,Zb];omega
end
def afL(l:List Tk):∀n,aFt l n
 |0=>⟨λ_ _ _=>by rw[stP];trivial,λ_ _ _=>by rw[Jz];trivial,λ_ _ _ _=>by rw[UN];trivial,λ_ _ _=>by rw[Aq];trivial⟩
 |n+1=>have h:=afL l n
  ⟨aDr h,azV h,atN h,aw8 h⟩
def aou:∀(n:Nat) (L:List Tn) (i:Nat) (nt:dO),i<=l.length->(Fb l n L i nt).sat λL' j m=>i<j/\FN l i nt.length j m.length/\sizes L'+m.length+6 * i<=sizes L+nt.length+6 * j
 |0,_,_,_,_=>trivial
 |n+1,L,i,nt,hi=>by
  rw[Fb,eY,Yr];intro h6;have:=gZ (l:=l) (i:=i) (by rw[h6];decide);rw[dX];refine⟨λhc=> ?_,λ_=> ?_⟩
  ·have:=fG hc (by decide);rw[dX];refine⟨λ_=>trivial,λ_=> ?_⟩;have hs:=Ph (l:=l) (i:=i+1+1) (nt:=nt) au;exact bK (aou n _ _ _ au) λs j m hj=>by rw[sizes1,ahR] at hj;omega
  ·show i<i+1/\FN l i nt.length (i+1) nt.length/\sizes (L++[Tn.mk 1 0 (Np l i) [] []])+nt.length+6 * i<=sizes L+nt.length+6 * (i+1);rw[sizes1,ahR];omega
def aHT{n i:Nat}{nt:dO}(hi:i<=l.length):(agZ l n i nt).sat λx j m=>FS l i nt.length x.size j m.length:=by
 rw[agZ,dX];refine⟨λhc=> ?_,λ_=>trivial⟩;simp only[eY,Dl];intro h32;have:=gZ (l:=l) (i:=i+1) (by rw[h32];decide);have h1:(bif dP l (i+1+1)==33 then .ok [] (i+1+1) nt else Fb l n [] (i+1+1) nt:PR (List Tn)).sat λL j m=>FN l (i+2) nt.length j m.length/\sizes L+m.length+6 * (i+2)<=nt.length+6 * j:=by rw[dX];refine⟨λ_=> ?_,λ_=>bK (aou n [] _ nt au) λx j m hj=>by rw[sizes0] at hj;omega⟩;show FN l (i+2) nt.length (i+1+1) nt.length/\sizes []+nt.length+6 * (i+2)<=nt.length+6 * (i+1+1);rw[sizes0];omega
 refine bK h1 λL j m hj=>λh33=> ?_
 have:=gZ (l:=l) (i:=j) (by rw[h33];decide);have hs:=Ph (l:=l) (i:=j+1) (nt:=m) au;exact bK ((afL l n).blk _ _ au) λx j' m' hj'=>by show FS l i nt.length (Tn.size _) j' m'.length;rw[ZE,sizes1];omega
def avp{n i:Nat}{nt:dO}(hi:i<=l.length):(Rl l n i nt).sat λx j m=>FS l i nt.length x.size j m.length:=by
 rw[Rl,dX];refine⟨λhc=> ?_,λ_=> ?_⟩
 ·have:=fG hc (by decide);rw[eY];exact bK ((afL l n).blk (i+1) nt au) λx j m hj=>by show FS l i nt.length (Tn.size _) j m.length;rw[ZC];omega
 rw[dX];refine⟨λhc=> ?_,λ_=> ?_⟩
 ·have:=fG hc (by decide);rw[eY];exact bK ((afL l n).blk (i+1) nt au) λx j m hj=>by show FS l i nt.length (Tn.size _) j m.length;rw[ZC];omega
 rw[dX];refine⟨λhc=> ?_,λ_=> ?_⟩
 ·have:=fG hc (by decide);exact bK (aHT au) λx j m hj=>by omega
 rw[dX];refine⟨λhc=> ?_,λ_=> ?_⟩
 ·rw[eY];exact bK ((afL l n).blk i nt hi) λx j m hj=>by show FS l i nt.length (Tn.size _) j m.length;rw[ZC];omega
 rw[eY];refine bK (Ko au au hi) λx j m hj=> ?_
 rw[eY];have h1:(bif dP l j==36 then(ex l n 1 false false (nl l (j+1) m).1 (nl l (j+1) m).2).bind λy i nt=> .ok (43,[x.1,y.1]) i nt else .ok (42,[x.1]) j m:PR (Int×List Tn)).sat λq j m=>FE l i nt.length (sizes q.2) j m.length:=by
  rw[dX];refine⟨λhc=> ?_,λ_=> ?_⟩
  ·have:=fG hc (by decide);have hs:=Ph (l:=l) (i:=j+1) (nt:=m) au;rw[eY];exact bK (Ko au au au) λy j2 m2 hj2=>by show FE l i nt.length (sizes [x.1,y.1]) j2 m2.length;simp only[sizes];omega
  ·show FE l i nt.length (sizes [x.1]) j m.length;simp only[sizes];omega
 refine bK h1 λq j2 m2 hj2=> ?_
 rw[dX];refine⟨λhc=> ?_,λ_=> ?_⟩
 ·rw[eY];exact bK ((afL l n).blk j2 m2 au) λy j3 m3 hj3=>by show FS l i nt.length (Tn.size _) j3 m3.length;rw[ZE,sizes1];omega
 ·refine atM (?_:FS l i nt.length (Tn.size _) j2 m2.length);rw[ZE];omega
def avq:∀(n:Nat) (L:List Tn) (i:Nat) (nt:dO),i<=l.length->(Ig l n L i nt).sat λL' j m=>FN l i nt.length j m.length/\m=[]/\sizes L'+6 * i<=sizes L+nt.length+6 * j
 |0,_,_,_,_=>trivial
 |n+1,L,i,nt,hi=>by
  have hs:=abJ (l:=l) (i:=i) (nt:=nt) hi;rw[Ig,dX];refine⟨λ_=> ?_,λhc=> ?_⟩
  ·show FN l i nt.length (sep l i nt).1 ([]:dO).length/\([]:dO)=[]/\sizes (L++WA (sep l i nt).2)+6 * i<=sizes L+nt.length+6 * (sep l i nt).1;rw[nI,Zb,UR];refine⟨au,rfl,au⟩
  have hlt:(sep l i nt).1<l.length:=gZ (by simpa using hc);rw[dX];refine⟨λ_=>trivial,λ_=> ?_⟩;rw[eY];refine bK (avp au) λs j m hj=> ?_
  rw[UR] at hj;exact bK (avq n _ j m au) λL' j2 m2 hj2=>by rw[sizes1,nI,Zb] at hj2;exact⟨au,hj2.2.1,au⟩
def aeV{α:Type}(a b:Bool)(x y:α):(bif a||b then x else y)=bif a then x else bif b then x else y:=by cases a<;>rfl
def avr{α:Type}(a b:Bool)(x y:α):(bif a && b then x else y)=bif a then(bif b then x else y) else y:=by cases a<;>rfl
def Yu{α:Type}(a:Bool)(x y:α):some (bif a then x else y)=bif a then some x else some y:=by cases a<;>rfl
def am9(op:Int):M.vV op=some (ug op):=by
 simp only[M.vV,M.P9,ug,aeV,Yu]
 first|done|rfl
def Sj(op:Int):M.nM op=some (ug op)/\M.vV op=some (ug op):=by
 refine⟨?_,am9 op⟩;simp only[M.nM,M.KP,ug,aeV,Yu]
 first|done|rfl
def ana(k op:Int)(x y:aC)(r:ak):M.nK k op x y r=some (lvl k op):=by
 simp only[M.nK,M.Qa,lvl,aeV,Yu,am9,ah]
 first|done|rfl
def avs(p:Ps):M.xU p.level p.FV p.Y9 p.Za p.FW=some (am6 p):=by simp only[M.xU,M.Vk,dL,ah,am6,ge_iff_le];cases(decide (1<=p.level) && decide (p.level<=15))<;>cases p.FV<;>rfl
def avt:M.oD=some (1,false,false,false,false):=rfl
def aDs(k op:Int)(p:Ps):fits k op p=bif !(am6 p) then false else bif lvl k op==0 then false else bif p.Y9 && k==13 then false else bif p.Za &&(k==12 && op==62) then false else
  bif p.FW &&(k==11||(k==9||k==4)) then false else bif p.FV && k==9 then true else decide (p.level<=lvl k op):=by
 unfold fits;rw[aeV];cases(p.FV && k==9)<;>rfl
def azW(k op:Int)(x y:aC)(r:ak)(p:Ps):M.Jq k op x y r p.level p.FV p.Y9 p.Za p.FW=some (fits k op p):=by
 rw[aDs];simp only[M.Jq,M.WT,M.Ey,ana k op x y r,avs p,ah,aeV,avr,Yu]
 first|done|rfl
def nb0(j:Nat):((j:Int)==0)=Nat.beq j 0:=by cases j<;>rfl
def gt0(j:Nat):decide ((j:Int)>0)= !(Nat.beq j 0):=by
 cases j with
 |zero=>rfl
 |succ j=>rw[zdt au];rfl
def atO(op:Int):M.AA op=some (sides op):=by simp only[M.AA,M.Qg,(Sj op).2,ah,sides,Yu]
def Ps.Zl(p:Ps):Int×Bool×Bool×Bool×Bool:=(p.level,p.FV,p.Y9,p.Za,p.FW)
def aDt(j n:Nat)(h:n<=1048576):(decide ((j:Int)>=0) && decide ((j:Int)<=i64.wrap ((n:Int) - 1)))=Nat.blt j n:=by
 rw[aJ au au];cases hb:Nat.blt j n with
 |true=>rw[Nat.blt_eq] at hb;rw[zdt au,zdt au];rfl
 |false=>
  have:¬j<n:=by rw[<-Nat.blt_eq,hb];simp
  rw[xE (show¬(j:Int)<=(n:Int) - 1 by omega),Bool.and_false]
def many(n:Nat):decide ((n:Int)>1)=Nat.blt 1 n:=by
 cases hb:Nat.blt 1 n with
 |true=>rw[Nat.blt_eq] at hb;exact zdt au
 |false=>
  have:¬1<n:=by rw[<-Nat.blt_eq,hb];simp
  exact xE au
def atP(k:Int)(hk:I64 k):M.gq k=some (k,spell k,0):=by simp only[M.gq,M.TA,(Si k hk).1,(Si k hk).2,ah]
def dR(l:List (aC)):aj (encS l)=true:=by simp[aj,encS,D.flat]
def snS(l:List (aC))(s:aC):encS l++[[D.str s]]=encS (l++[s]):=by simp[encS]
def lnS(l:List (aC)):(encS l).length=l.length:=by simp[encS]
abbrev TP:=Int×Int×aC×aC×Bool×ak×Bool×ak×Int×Bool×ak
abbrev TT:=Int×Int×aC×aC×Bool×ak×ak×Int×Bool×ak
abbrev TL:=Bool×ak×ak×Int×Bool×ak
def AP(l:List Tk)(o:Option TP):PR Xp->Prop
 | .ok x j nt=>∃fl ks,aB ks=cZ false x.1.kids/\o=some (x.1.kind,x.1.op,x.1.text,x.1.other,fl,ks,tgt x,aF l,(j:Int),false,encS nt)
 | .bad j=>∃k op x y fl ks tg nt,nt.length<=l.length/\o=some (k,op,x,y,fl,ks,tg,aF l,(j:Int),true,encS nt)
 | .out=>True
def AT(l:List Tk)(o:Option TT):PR Tn->Prop
 | .ok x j nt=>∃fl ks,aB ks=cZ false x.kids/\o=some (x.kind,x.op,x.text,x.other,fl,ks,aF l,(j:Int),false,encS nt)
 | .bad j=>∃k op x y fl ks nt,nt.length<=l.length/\o=some (k,op,x,y,fl,ks,aF l,(j:Int),true,encS nt)
 | .out=>True
def AL(l:List Tk)(o:Option TL):PR (List Tn)->Prop
 | .ok L j nt=>∃fl,o=some (fl,cZ false L,aF l,(j:Int),false,encS nt)
 | .bad j=>∃fl ks nt,nt.length<=l.length/\o=some (fl,ks,aF l,(j:Int),true,encS nt)
 | .out=>True
variable {l:List Tk}
section
variable {β γ:Type} {R:Option β->PR γ->Prop}
def AP.elim{o:Option TP}{p:PR Xp}(h:AP l o p){f:TP->Option β}{g:Xp->Nat->dO->PR γ}(hout:∀o,R o .out)
  (hbad:∀k op x y fl ks tg j nt,nt.length<=l.length->R (f (k,op,x,y,fl,ks,tg,aF l,((j:Nat):Int),true,encS nt)) (.bad j))
  (hok:∀x fl ks j nt,aB ks=cZ false x.1.kids->p=.ok x j nt->R (f (x.1.kind,x.1.op,x.1.text,x.1.other,fl,ks,tgt x,aF l,(j:Int),false,encS nt)) (g x j nt)):R (o.bind f) (p.bind g):=by
 cases p with
 |ok x j nt=>obtain⟨fl,ks,h1,rfl⟩:=h;exact hok x fl ks j nt h1 rfl
 |bad j=>obtain⟨k,op,x,y,fl,ks,tg,nt,h1,rfl⟩:=h;exact hbad k op x y fl ks tg j nt h1
 |out=>exact hout _
def AT.elim{o:Option TT}{p:PR Tn}(h:AT l o p){f:TT->Option β}{g:Tn->Nat->dO->PR γ}(hout:∀o,R o .out)
  (hbad:∀k op x y fl ks j nt,nt.length<=l.length->R (f (k,op,x,y,fl,ks,aF l,((j:Nat):Int),true,encS nt)) (.bad j))
  (hok:∀x fl ks j nt,aB ks=cZ false x.kids->p=.ok x j nt->R (f (x.kind,x.op,x.text,x.other,fl,ks,aF l,(j:Int),false,encS nt)) (g x j nt)):R (o.bind f) (p.bind g):=by
 cases p with
 |ok x j nt=>obtain⟨fl,ks,h1,rfl⟩:=h;exact hok x fl ks j nt h1 rfl
 |bad j=>obtain⟨k,op,x,y,fl,ks,nt,h1,rfl⟩:=h;exact hbad k op x y fl ks j nt h1
 |out=>exact hout _
def AL.elim{o:Option TL}{p:PR (List Tn)}(h:AL l o p){f:TL->Option β}{g:List Tn->Nat->dO->PR γ}(hout:∀o,R o .out)
  (hbad:∀fl ks j nt,nt.length<=l.length->R (f (fl,ks,aF l,((j:Nat):Int),true,encS nt)) (.bad j))
  (hok:∀L fl j nt,p=.ok L j nt->R (f (fl,cZ false L,aF l,(j:Int),false,encS nt)) (g L j nt)):R (o.bind f) (p.bind g):=by
 cases p with
 |ok L j nt=>obtain⟨fl,rfl⟩:=h;exact hok L fl j nt rfl
 |bad j=>obtain⟨fl,ks,nt,h1,rfl⟩:=h;exact hbad fl ks j nt h1
 |out=>exact hout _
end
def PR.bind_ok{α:Type}(p:PR α):(p.bind λa i nt=> .ok a i nt)=p:=by cases p<;>rfl
def AP.pass{o:Option TP}{p:PR Xp}(h:AP l o p){f:TP->Option TP}
  (hf:∀k op x y fl ks tg j b nt,f (k,op,x,y,fl,ks,tg,aF l,j,b,encS nt)=some (k,op,x,y,false,aB ks,tg,aF l,j,b,encS nt)):AP l (o.bind f) p:=by
 rw[<-PR.bind_ok p];refine AP.elim (R:=AP l) h (λ_=>trivial) (λk op x y fl ks tg j nt hn=> ?_) (λx fl ks j nt hk _=> ?_)
 ·rw[hf];exact⟨_,_,_,_,_,_,_,_,hn,rfl⟩
 ·rw[hf];exact⟨_,_,by rw[hk,iQ],rfl⟩
def AT.pass{o:Option TT}{p:PR Tn}(h:AT l o p){f:TT->Option TT}
  (hf:∀k op x y fl ks j b nt,f (k,op,x,y,fl,ks,aF l,j,b,encS nt)=some (k,op,x,y,false,aB ks,aF l,j,b,encS nt)):AT l (o.bind f) p:=by
 rw[<-PR.bind_ok p];refine AT.elim (R:=AT l) h (λ_=>trivial) (λk op x y fl ks j nt hn=> ?_) (λx fl ks j nt hk _=> ?_)
 ·rw[hf];exact⟨_,_,_,_,_,_,_,hn,rfl⟩
 ·rw[hf];exact⟨_,_,by rw[hk,iQ],rfl⟩
def dY(i:Nat)(b:Bool)(nt:dO):M.aA (aF l) (i:Int) b (encS nt)=some (dP l i,aF l,(i:Int),b,encS nt):=by
 simp only[M.aA,M.IE,jI,dR,aH,dP]
 by_cases h:i<l.length
 ·rw[xE au,bG];obtain⟨t,ht⟩:∃t,l[i]? =some t:=⟨l[i],by simp[h]⟩
  simp only[bZ,o8,ht,MS,ah,cT0]
 ·rw[zdt au,aH,List.getElem?_eq_none au]
def oI(hl:l.length<=1048576){i:Nat}(h:i<l.length):i64.wrap ((i:Int)+1)=((i+1:Nat):Int):=by rw[aJ au au];omega
def Nq(hl:l.length<=1048576){i:Nat}(h:i<l.length)(b:Bool)(nt:dO):M.fE (aF l) (i:Int) b (encS nt)=some (Np l i,aF l,((i+1:Nat):Int),b,encS nt):=by
 obtain⟨t,ht⟩:∃t,l[i]? =some t:=⟨l[i],by simp[h]⟩
 simp only[M.fE,M.IJ,bZ,o8,ht,MS,ah,cT1,dR,aH,oI hl h,Np]
def atQ(k:Int):M.iw k=some (isStep k):=by simp only[M.iw,M.mV,isStep];cases k==51<;>rfl
def aFu(k:Int):M.mP k=some (azL k):=by simp only[M.mP,M.EP,azL];cases k==3<;>cases k==4<;>cases k==6<;>cases k==7<;>cases k==8<;>cases k==32<;>cases k==68<;>rfl
def aov(k:Int):M.lJ k=some (Uy k):=by simp only[M.lJ,M.Oy,Uy];cases k==0<;>cases k==1<;>cases k==2<;>cases k==37<;>rfl
def aiN(k:Int):M.FK k=some (IY k):=by simp only[M.FK,M.Vq,IY];cases k==62<;>cases k==53<;>rfl
def Xk(k:Int):M.zO k=some (akB k):=by simp only[M.zO,M.Qz,akB];cases k==32<;>cases k==34<;>rfl
def Zc(k:Int):M.zQ k=some (akC k):=by simp only[M.zQ,M.QA,akC];cases k==33<;>cases k==35<;>rfl
def atS(i:Nat)(b:Bool)(nt:dO):M.jB (aF l) (i:Int) b (encS nt)=some (0,0,[],[],true,[],false,aF l,(i:Int),true,encS nt):=by simp only[M.jB,M.II,dR,aH]
def vk(k:Int)(i:Nat)(nt:dO):M.aO k (aF l) (i:Int) true (encS nt)=some (false,aF l,(i:Int),true,encS nt):=by simp only[M.aO,M.uz,dR,aH]
section
variable {β γ:Type} {R:Option β->PR γ->Prop}
def Ns(hl:l.length<=1048576){k:Int}(hk:k≠0){i:Nat}{nt:dO}{f:Bool×ak×Int×Bool×ak->Option β}{g:Unit->Nat->dO->PR γ}
  (hbad:R (f (false,aF l,(i:Int),true,encS nt)) (.bad i))
  (hok:dP l i=k->i<l.length->R (f (true,aF l,((i+1:Nat):Int),false,encS nt)) (g () (i+1) nt)):
  R ((M.aO k (aF l) (i:Int) false (encS nt)).bind f) ((o7 l k i nt).bind g):=by
 have e:M.aO k (aF l) (i:Int) false (encS nt)=bif dP l i==k then some (true,aF l,i64.wrap ((i:Int)+1),false,encS nt) else some (false,aF l,(i:Int),true,encS nt):=by simp only[M.aO,M.uz,dR,aH,bG,dY,ah,bne];cases dP l i==k<;>rfl
 rw[e,o7];cases hc:dP l i==k with
 |true=>
  have h1:dP l i=k:=by rwa [beq_iff_eq] at hc
  have h2:i<l.length:=gZ (by rw[h1];exact hk);simp only[aH,oI hl h2,ah];exact hok h1 h2
 |false=>exact hbad
def azX(hl:l.length<=1048576){i:Nat}{nt:dO}{f:aC×ak×Int×Bool×ak->Option β}{g:aC->Nat->dO->PR γ}
  (hbad:R (f ([],aF l,(i:Int),true,encS nt)) (.bad i))
  (hok:dP l i=6->i<l.length->R (f (Np l i,aF l,((i+1:Nat):Int),false,encS nt)) (g (Np l i) (i+1) nt)):
  R ((M.bF (aF l) (i:Int) false (encS nt)).bind f) ((nameP l i nt).bind g):=by
 rw[nameP];cases hc:dP l i==6 with
 |true=>
  have h1:dP l i=6:=by rwa [beq_iff_eq] at hc
  have h2:i<l.length:=gZ (by rw[h1];decide);simp only[M.bF,M.iY,dR,aH,bG,dY,ah,bne,hc,zaW,Nq hl h2];exact hok h1 h2
 |false=>simp only[M.bF,M.iY,dR,aH,bG,dY,ah,bne,hc,Bool.not_false];exact hbad
end
def afM{α:Type}{L:List α}{i:Nat}{t:α}(h:L[i]? =some t):L.drop i=t::L.drop (i+1):=by obtain⟨hi,rfl⟩:=Po.1 h;exact List.drop_eq_getElem_cons hi
def anb(i:Nat)(nt:dO):nl l i nt=bif dP l i==1 then nl l (i+1) nt else bif dP l i==2 then nl l (i+1) (nt++[Np l i]) else(i,nt):=by
 unfold nl;cases h:l[i]? with
 |none=>
  have e:dP l i=0:=by rw[dP,h]
  rw[e,List.drop_eq_nil_of_le (List.getElem?_eq_none_iff.1 h)];rfl
 |some t=>
  have e1:dP l i=t.kind:=by rw[dP,h]
  have e2:Np l i=t.text:=by rw[Np,h]
  rw[afM h,nlR,e1,e2]
def atT(i:Nat)(nt:dO):sep l i nt=bif dP l i==1||dP l i==37 then sep l (i+1) nt else bif dP l i==2 then sep l (i+1) (nt++[Np l i]) else(i,nt):=by
 unfold sep;cases h:l[i]? with
 |none=>
  have e:dP l i=0:=by rw[dP,h]
  rw[e,List.drop_eq_nil_of_le (List.getElem?_eq_none_iff.1 h)];rfl
 |some t=>
  have e1:dP l i=t.kind:=by rw[dP,h]
  have e2:Np l i=t.text:=by rw[Np,h]
  rw[afM h,Ux,e1,e2]
def azY{P:Nat->dO->Prop}(h1:∀i nt,dP l i=1->i<l.length->P (i+1) nt->P i nt)(h2:∀i nt,dP l i=2->i<l.length->P (i+1) (nt++[Np l i])->P i nt)
  (h3:∀i nt,(dP l i==1)=false->(dP l i==2)=false->P i nt):∀i nt,P i nt:=by
 have:∀n i nt,l.length - i<=n->P i nt:=by
  intro n;induction n with
  |zero=>
   intro i nt hn;have e:dP l i=0:=by rw[dP,List.getElem?_eq_none au]
   exact h3 i nt (by rw[e];rfl) (by rw[e];rfl)
  |succ n ih=>
   intro i nt hn;cases e1:dP l i==1 with
   |true=>
    have e:dP l i=1:=by rwa [beq_iff_eq] at e1
    have hlt:=gZ (l:=l) (i:=i) (by rw[e];decide);exact h1 i nt e hlt (ih _ _ au)
   |false=>
    cases e2:dP l i==2 with
    |true=>
     have e:dP l i=2:=by rwa [beq_iff_eq] at e2
     have hlt:=gZ (l:=l) (i:=i) (by rw[e];decide);exact h2 i nt e hlt (ih _ _ au)
    |false=>exact h3 i nt e1 e2
 exact λi nt=>this _ i nt (zaX _)
def azZ(i:Nat)(nt:dO):sep l i nt=bif dP l (nl l i nt).1==37 then sep l ((nl l i nt).1+1) (nl l i nt).2 else nl l i nt:=by
 refine azY (l:=l) (P:=λi nt=>sep l i nt=bif dP l (nl l i nt).1==37 then sep l ((nl l i nt).1+1) (nl l i nt).2 else nl l i nt) ?_ ?_ ?_ i nt
 ·intro i nt hk _ ih;rw[atT,anb,hk];exact ih
 ·intro i nt hk _ ih;rw[atT,anb,hk];exact ih
 ·intro i nt h1 h2;rw[atT,anb,h1,h2];cases h3:dP l i==37<;>simp only[Bool.or_true,Bool.or_false,Bool.false_or,aH,bG,h3]
def Sl(hl:l.length<=1048576)(i:Nat)(nt:dO)(hi:i<=l.length)(hn:nt.length<=i):
  M.aQ (aF l) (i:Int) false (encS nt)=some (aF l,((nl l i nt).1:Int),false,encS (nl l i nt).2):=by
 have hstep:∀i nt,(b:Bool)->i<l.length->dP l i=1->M.lV (bif b then .inl (aF l,(i:Int),false,encS nt) else .inr (aF l,(i:Int),false,encS nt))=some (.inl (.inr (aF l,((i+1:Nat):Int),false,encS nt))):=by intro i nt b hlt hk;cases b<;>simp only[Fj,aH,bG,M.lV,M.oJ,Bool.not_false,dR,dY,ah,hk,oI hl hlt,BEq.rfl]
 have hstep2:∀i nt,(b:Bool)->i<l.length->nt.length<=i->dP l i=2->M.lV (bif b then .inl (aF l,(i:Int),false,encS nt) else .inr (aF l,(i:Int),false,encS nt))=some (.inl (.inr (aF l,((i+1:Nat):Int),false,encS (nt++[Np l i])))):=by
  intro i nt b hlt hni hk;obtain⟨t,ht⟩:∃t,l[i]? =some t:=⟨l[i],by simp[hlt]⟩
  have e2:Np l i=t.text:=by rw[Np,ht]
  have h21:((2:Int)==1)=false:=rfl;cases b<;>simp only[Fj,aH,bG,M.lV,M.oJ,Bool.not_false,dR,dY,ah,hk,h21,BEq.rfl,oI hl hlt,bZ,o8,ht,MS,cT1,snS,lnS,OW,e2]<;>
   rw[bI au,aH,bI au,aH]
 have aHU:∀i nt,(b:Bool)->(dP l i==1)=false->(dP l i==2)=false->M.lV (bif b then .inl (aF l,(i:Int),false,encS nt) else .inr (aF l,(i:Int),false,encS nt))=some (.inr (.inl (aF l,(i:Int),false,encS nt))):=by intro i nt b h1 h2;cases b<;>simp only[Fj,aH,bG,M.lV,M.oJ,Bool.not_false,dR,dY,ah,h1,h2]
 have hloop:∀i nt,∀b:Bool,i<=l.length->nt.length<=i->M.jL (bif b then .inl (aF l,(i:Int),false,encS nt) else .inr (aF l,(i:Int),false,encS nt))=some (.inl (aF l,((nl l i nt).1:Int),false,encS (nl l i nt).2)):=by
  refine azY (l:=l) (P:=λi nt=>∀b:Bool,i<=l.length->nt.length<=i->M.jL (bif b then .inl (aF l,(i:Int),false,encS nt) else .inr (aF l,(i:Int),false,encS nt))=some (.inl (aF l,((nl l i nt).1:Int),false,encS (nl l i nt).2))) ?_ ?_ ?_
  ·intro i nt hk hlt ih b hi hn;rw[M.jL,bQ (hstep i nt b hlt hk),anb,hk];exact ih false au au
  ·intro i nt hk hlt ih b hi hn;rw[M.jL,bQ (hstep2 i nt b hlt hn hk),anb,hk];exact ih false au (by rw[Gt,OW];omega)
  ·intro i nt h1 h2 b hi hn;rw[M.jL,aV (aHU i nt b h1 h2),anb,h1,h2];rfl
 have:=hloop i nt true hi hn;simp only[aH] at this;simp only[M.aQ,M.wM,this,ah,jX,dR,aH]
def IZ(i:Nat)(nt:dO):M.aQ (aF l) (i:Int) true (encS nt)=some (aF l,(i:Int),true,encS nt):=by have:M.jL (.inl (aF l,(i:Int),true,encS nt))=some (.inr (aF l,(i:Int),true,encS nt)):=aV rfl;simp only[M.aQ,M.wM,this,ah,jX,letE,dR,aH]
def anc(hl:l.length<=1048576)(i:Nat)(nt:dO)(hi:i<=l.length)(hn:nt.length<=i):
  M.bT (aF l) (i:Int) false (encS nt)=some (aF l,((sep l i nt).1:Int),false,encS (sep l i nt).2):=by
 have hloop:∀n i nt,∀b:Bool,l.length - i<=n->i<=l.length->nt.length<=i->M.lW (bif b then .inl (aF l,(i:Int),false,encS nt) else .inr (aF l,(i:Int),false,encS nt))=some (aF l,((sep l i nt).1:Int),false,encS (sep l i nt).2):=by
  intro n;induction n with
  |zero=>
   intro i nt b hk hi hn;have e:=azZ (l:=l) i nt;have hf:=Ph (l:=l) (nt:=nt) hi;have hnl:=Sl hl i nt hi hn;have e0:dP l (nl l i nt).1=0:=by rw[dP,List.getElem?_eq_none au]
   rw[e0] at e;have e':sep l i nt=nl l i nt:=e;rw[e',M.lW];refine aV ?_;have h0:((0:Int) !=37)=true:=rfl;cases b<;>simp only[aH,bG,M.mX,M.kE,dR,hnl,ah,dY,e0,h0]
  |succ n ih=>
   intro i nt b hk hi hn;have e:=azZ (l:=l) i nt;have hf:=Ph (l:=l) (nt:=nt) hi;have hnl:=Sl hl i nt hi hn;rw[M.lW];cases h37:dP l (nl l i nt).1==37 with
   |true=>
    rw[h37,aH] at e;have hlt:=fG h37 (by decide);rw[e];have hb:M.mX (bif b then .inl (aF l,(i:Int),false,encS nt) else .inr (aF l,(i:Int),false,encS nt))=some (.inl (.inr (aF l,(((nl l i nt).1+1:Nat):Int),false,encS (nl l i nt).2))):=by cases b<;>simp only[aH,bG,M.mX,M.kE,dR,hnl,ah,dY,bne,h37,zaW,oI hl hlt]
    rw[bQ hb];exact ih _ _ false au au au
   |false=>rw[h37,bG] at e;rw[e];refine aV ?_;cases b<;>simp only[aH,bG,M.mX,M.kE,dR,hnl,ah,dY,bne,h37,Bool.not_false]
 have:=hloop _ i nt true (zaX _) hi hn;simp only[aH] at this;simp only[M.bT,M.sZ,this,ah,dR,aH]
def akF(i:Nat)(nt:dO):M.bT (aF l) (i:Int) true (encS nt)=some (aF l,(i:Int),true,encS nt):=by
 have:M.lW (.inl (aF l,(i:Int),true,encS nt))=some (aF l,(i:Int),true,encS nt):=
  aV (by simp only[M.mX,M.kE,dR,aH,IZ,ah])
 simp only[M.bT,M.sZ,this,ah,dR,aH]
def Dn(c1:Int)(b:Bool)(nt:dO)(hn:nt.length<=1048576):M.dU (aF l) c1 b (encS nt)=some (true,cZ true (WA nt),aF l,c1,b,encS []):=by
 have hloop:=uM (b:=M.xG (nt.length:Int) (aF l) c1 b (encS nt)) (t:=((nt.length:Int),cZ true (WA nt)))
  (λj=>((j:Int),cZ true (WA (nt.take j)))) nt.length
  (by
   intro j hj;obtain⟨t,ht⟩:∃t,nt[j]? =some t:=⟨nt[j],by simp⟩
   have h1:(encS nt)[j]? =some [D.str t]:=by simp[encS,ht]
   have h2:cZ true (WA (nt.take (j+1)))=cZ true (WA (nt.take j))++[[D.int .i64 34,D.int .i64 0,D.str t,D.str [],D.sl true 5 []]]:=by rw[pz ht,WA,List.map_append,yL];rfl
   have h3:cStr [D.str t] 0=some t:=rfl;simp only[Fj,M.xG,M.rP];rw[zdt au,aH];simp only[bZ,h1,ah,ztn,h3,dG,Dw,zlt,OW];rw[bI au,aH,bI au,aH,aJ au au,h2];rfl)
  (by simp only[Fj,M.xG,M.rP];rw[xE au,bG,List.take_length]) 0 (Nat.zero_le _)
 have OQ:M.zB (nt.length:Int) (aF l) c1 b (encS nt) (0,[])=some ((nt.length:Int),cZ true (WA nt)):=hloop;simp only[M.dU,M.AY,lnS,OQ,ah];rfl
def aHV{s:ak}{a:Nat}(h:a<=s.length):cut s (a:Int) (s.length:Int)=some (s.drop a):=by rw[cut,zdt au,zdt au,zdt au];simp[List.take_of_length_le]
def aDu(hl:l.length<=1048576)(i:Nat)(nt:dO)(hi:i<=l.length):M.nC (aF l) (i:Int) false (encS nt)=some (ahead (l.drop i) 0,aF l,(i:Int),false,encS nt):=by
 have hc:cut (aF l) (i:Int) (l.length:Int)=some (aF (l.drop i)):=by have:=aHV (s:=aF l) (a:=i) (by simpa using hi);rw[jI] at this;rw[this];simp[aF]
 have hloop:∀{β:Type} (F:(Int×Int)⊕Unit⊕(Int×Int)->Option β) (T:Bool->Option β),(∀a,F (.inl a)=T false)->(∀a,F (.inr (.inl a))=T true)->(∀a,F (.inr (.inr a))=T false)->
   ∀(r pre:List Tk) (d:Nat),d<=pre.length->(pre++r).length<=1048576->
   (M.pq (aF (pre++r)) ((pre++r).length:Int) (aF l) (i:Int) false (encS nt) ((d:Int),(pre.length:Int))).bind F=T (ahead r d):=by
  intro β F T f1 f2 f3 r;induction r with
  |nil=>
   intro pre d hd hlen;have hb:M.cu (aF (pre++[])) ((pre++[]).length:Int) (aF l) (i:Int) false (encS nt) ((d:Int),(pre.length:Int))=some (.inr (.inr (.inr ((d:Int),(pre.length:Int))))):=by simp only[M.cu,M.fJ,List.append_nil];rw[xE au,bG]
   rw[M.pq,aV hb,ah,f3,ahead]
  |cons t r ih=>
   intro pre d hd hlen;have ht:(pre++t::r)[pre.length]? =some t:=by simp
   have hlen':pre.length+(r.length+1)<=1048576:=by rw[Gt,Pq] at hlen;exact hlen
   have hnext:=ih (pre++[t]);rw[QW,List.singleton_append,Gt,OW] at hnext;have w1:i64.wrap ((pre.length:Int)+1)=((pre.length+1:Nat):Int):=by rw[aJ au au];omega
   have w2:i64.wrap ((d:Int)+1)=((d+1:Nat):Int):=by rw[aJ au au];omega
   have w3:i64.wrap ((d:Int) - 1)=(d:Int) - 1:=aJ au au;have hg:decide ((pre.length:Int)<((pre++t::r).length:Int))=true:=by rw[zdt];rw[Gt,Pq];omega
   rw[ahead,M.pq];cases ho:akB t.kind with
   |true=>
    have hb:M.cu (aF (pre++t::r)) ((pre++t::r).length:Int) (aF l) (i:Int) false (encS nt) ((d:Int),(pre.length:Int))=some (.inl (((d+1:Nat):Int),((pre.length+1:Nat):Int))):=by simp only[M.cu,M.fJ,hg,aH,bZ,o8,ht,MS,ah,cT0,cT1,cT2,Xk,ho,w1,w2];rw[xE au,bG]
    rw[bQ hb,aH];have:=hnext (d+1) au hlen;rw[show(((d+1:Nat):Int))=(d:Int)+1 by omega] at this;exact this
   |false=>
    rw[bG];cases hs:akC t.kind with
    |true=>
     rw[aH];cases hd1:decide ((d:Int) - 1<=0) with
     |true=>
      have hb:M.cu (aF (pre++t::r)) ((pre++t::r).length:Int) (aF l) (i:Int) false (encS nt) ((d:Int),(pre.length:Int))=some (.inr (.inl ((d:Int) - 1,(pre.length:Int)))):=by simp only[M.cu,M.fJ,hg,aH,bG,bZ,o8,ht,MS,ah,cT0,cT1,cT2,Xk,ho,Zc,hs,w3,hd1]
      rw[aV hb,ah,f1,aH]
     |false=>
      have hdd:1<d:=by have:=of_decide_eq_false hd1;omega
      have hb:M.cu (aF (pre++t::r)) ((pre++t::r).length:Int) (aF l) (i:Int) false (encS nt) ((d:Int),(pre.length:Int))=some (.inl (((d - 1:Nat):Int),((pre.length+1:Nat):Int))):=by simp only[M.cu,M.fJ,hg,aH,bG,bZ,o8,ht,MS,ah,cT0,cT1,cT2,Xk,ho,Zc,hs,w3,hd1,w1];rw[show((d:Int) - 1)=((d - 1:Nat):Int) by omega]
      rw[bQ hb,bG];have:=hnext (d - 1) au hlen;rw[show(((d - 1:Nat):Int))=(d:Int) - 1 by omega] at this|-;exact this
    |false=>
     rw[bG];cases hc:t.kind==36 with
     |true=>
      cases h1:(d:Int)==1 with
      |true=>
       have hb:M.cu (aF (pre++t::r)) ((pre++t::r).length:Int) (aF l) (i:Int) false (encS nt) ((d:Int),(pre.length:Int))=some (.inr (.inr (.inl ()))):=by simp only[M.cu,M.fJ,hg,aH,bG,bZ,o8,ht,MS,ah,cT0,cT1,cT2,Xk,ho,Zc,hs,hc,h1]
       rw[aV hb,ah,f2];rfl
      |false=>
       rw[Bool.and_false,bG];cases hd0:decide ((d:Int)<=0) with
       |true=>
        have hb:M.cu (aF (pre++t::r)) ((pre++t::r).length:Int) (aF l) (i:Int) false (encS nt) ((d:Int),(pre.length:Int))=some (.inr (.inl ((d:Int),(pre.length:Int)))):=by simp only[M.cu,M.fJ,hg,aH,bG,bZ,o8,ht,MS,ah,cT0,cT1,cT2,Xk,ho,Zc,hs,hc,h1,hd0]
        rw[aV hb,ah,f1,aH]
       |false=>
        have hb:M.cu (aF (pre++t::r)) ((pre++t::r).length:Int) (aF l) (i:Int) false (encS nt) ((d:Int),(pre.length:Int))=some (.inl ((d:Int),((pre.length+1:Nat):Int))):=by simp only[M.cu,M.fJ,hg,aH,bG,bZ,o8,ht,MS,ah,cT0,cT1,cT2,Xk,ho,Zc,hs,hc,h1,hd0,w1]
        rw[bQ hb,bG];exact hnext d au hlen
     |false=>
      rw[Bool.false_and,bG];cases hd0:decide ((d:Int)<=0) with
      |true=>
       have hb:M.cu (aF (pre++t::r)) ((pre++t::r).length:Int) (aF l) (i:Int) false (encS nt) ((d:Int),(pre.length:Int))=some (.inr (.inl ((d:Int),(pre.length:Int)))):=by simp only[M.cu,M.fJ,hg,aH,bG,bZ,o8,ht,MS,ah,cT0,cT1,cT2,Xk,ho,Zc,hs,hc,hd0]
       rw[aV hb,ah,f1,aH]
      |false=>
       have hb:M.cu (aF (pre++t::r)) ((pre++t::r).length:Int) (aF l) (i:Int) false (encS nt) ((d:Int),(pre.length:Int))=some (.inl ((d:Int),((pre.length+1:Nat):Int))):=by simp only[M.cu,M.fJ,hg,aH,bG,bZ,o8,ht,MS,ah,cT0,cT1,cT2,Xk,ho,Zc,hs,hc,hd0,w1]
       rw[bQ hb,bG];exact hnext d au hlen
 simp only[M.nC,M.zC,jI,hc,ah];have:=hloop (β:=Bool×ak×Int×Bool×ak) (λu=>jX u (λt=>bif aj (encS nt) then some (false,aF l,(i:Int),false,encS nt) else none) λu=>
  jX u (λt=>bif aj (encS nt) then some (true,aF l,(i:Int),false,encS nt) else none) λu=>letE u λt=>bif aj (encS nt) then some (false,aF l,(i:Int),false,encS nt) else none)
  (λb=>some (b,aF l,(i:Int),false,encS nt)) (λa=>by simp only[jX,dR,aH]) (λa=>by simp only[jX,dR,aH]) (λa=>by simp only[jX,letE,dR,aH]) (l.drop i) [] 0 (zaX _) (by simp;omega)
 simpa using this
variable {l:List Tk}
def AP.Dx{β:Type}{o:Option TP}{j:Nat}(h:AP l o (.bad j)){f:TP->Option β}{R:Option β->Prop}
  (hb:∀k op x y fl ks tg nt,nt.length<=l.length->R (f (k,op,x,y,fl,ks,tg,aF l,(j:Int),true,encS nt))):R (o.bind f):=by
 obtain⟨k,op,x,y,fl,ks,tg,nt,h1,rfl⟩:=h;exact hb k op x y fl ks tg nt h1
def AP.jT{k op:Int}{x y:aC}{fl:Bool}{ks:ak}{tg:Bool}{j:Nat}{nt:dO}(hn:nt.length<=l.length):AP l (some (k,op,x,y,fl,ks,tg,aF l,(j:Int),true,encS nt)) (.bad j):=⟨_,_,_,_,_,_,_,_,hn,rfl⟩
def AP.mk{x:Xp}{k op:Int}{s s':aC}{fl:Bool}{ks:ak}{tg:Bool}{j:Nat}{nt:dO}(h1:k=x.1.kind)(h2:op=x.1.op)(h3:s=x.1.text)(h4:s'=x.1.other)(h5:aB ks=cZ false x.1.kids)(h6:tg=tgt x):
  AP l (some (k,op,s,s',fl,ks,tg,aF l,(j:Int),false,encS nt)) (.ok x j nt):=by
 subst h1 h2 h3 h4 h6;exact⟨_,_,h5,rfl⟩
def fzT(x:Tn)(w:Bool)(ks:ak)(h:aB ks=cZ false x.kids):Bf [.int .i64 x.kind,.int .i64 x.op,.str x.text,.str x.other,.sl w 5 ks]=x.row false:=by simp only[Bf,D.fz,h,aoo]
def fz1{x:Tn}{w:Bool}{ks:ak}(h:aB ks=cZ false x.kids):aB [[.int .i64 x.kind,.int .i64 x.op,.str x.text,.str x.other,.sl w 5 ks]]=cZ false [x]:=by rw[aB,fzT x w ks h];rfl
def fz2{x y:Tn}{w v:Bool}{ks kt:ak}(h:aB ks=cZ false x.kids)(h':aB kt=cZ false y.kids):
  aB [[.int .i64 x.kind,.int .i64 x.op,.str x.text,.str x.other,.sl w 5 ks],[.int .i64 y.kind,.int .i64 y.op,.str y.text,.str y.other,.sl v 5 kt]]=cZ false [x,y]:=by
 rw[aB,fzT x w ks h,aB,fzT y v kt h'];rfl
def fz3{x y z:Tn}{w v u:Bool}{ks kt ku:ak}(h:aB ks=cZ false x.kids)(h':aB kt=cZ false y.kids)(h'':aB ku=cZ false z.kids):
  aB [[.int .i64 x.kind,.int .i64 x.op,.str x.text,.str x.other,.sl w 5 ks],[.int .i64 y.kind,.int .i64 y.op,.str y.text,.str y.other,.sl v 5 kt],[.int .i64 z.kind,.int .i64 z.op,.str z.text,.str z.other,.sl u 5 ku]]=cZ false [x,y,z]:=by
 rw[aB,fzT x w ks h,aB,fzT y v kt h',aB,fzT z u ku h''];rfl
def NP{ks:ak}{L:List Tn}(h:aB ks=cZ false L):aB (aB ks)=cZ false L:=by rw[h,iQ]
abbrev T10:=ak×Int×Bool×Int×Int×aC×aC×ak×Bool×ak
def arG(m:Nat){i:Nat}{nt:dO}(hn:nt.length<=l.length):AP l (M.pV (m+1) (aF l) (i:Int) true (encS nt)) (.bad i):=by rw[M.Rh];simp only[M.pR,M.xH,M.wO,aH,dR];exact AP.jT hn
def aw9(m:Nat){i:Nat}{nt:dO}(hn:nt.length<=l.length):AP l (M.nO (m+2) (aF l) (i:Int) true (encS nt)) (.bad i):=by rw[M.U1];simp only[M.rU,M.yV,aH,dR];exact AP.pass (arG m hn) (by intros;simp only[dR,aH])
def az0(m:Nat){i:Nat}{nt:dO}(hn:nt.length<=l.length):AP l (M.uI (m+3) (aF l) (i:Int) true (encS nt)) (.bad i):=by
 rw[M.V5];simp only[M.uG,M.Ag,zaW,bG,aH,dR];refine AP.Dx (R:=λo=>AP l o (.bad i)) (aw9 m hn) λk op x y fl ks tg nt hn=> ?_
 simp only[aH,dR];exact AP.jT hn
def aDv(m:Nat){a b:Bool}{i:Nat}{nt:dO}(hn:nt.length<=l.length):AP l (M.wY (m+4) a b (aF l) (i:Int) true (encS nt)) (.bad i):=by
 rw[M.W9];simp only[M.wQ,aH,dR];refine AP.Dx (R:=λo=>AP l o (.bad i)) (az0 m hn) λk op x y fl ks tg nt hn=> ?_
 simp only[aH,dR];exact AP.jT hn
def axa(m:Nat){a b:Bool}{i:Nat}{nt:dO}(hn:nt.length<=l.length):AP l (M.jZ (m+5) a b (aF l) (i:Int) true (encS nt)) (.bad i):=by rw[M.U2];simp only[M.rV,M.yY,M.uT,aH,dR,dY,ah];exact AP.pass (aDv m hn) (by intros;simp only[dR,aH])
def aDw(m:Nat){a b:Bool}{i:Nat}{nt:dO}(hn:nt.length<=l.length):AP l (M.sD (m+6) a b (aF l) (i:Int) true (encS nt)) (.bad i):=by
 rw[M.Xa];simp only[M.wR,aH,dR];refine AP.Dx (R:=λo=>AP l o (.bad i)) (axa m hn) λk op x y fl ks tg nt hn=> ?_
 rw[show M.yg _ _ _ _ _ _ _ _ _=_ from aV rfl];simp only[ah,aH,dR];exact AP.jT hn
def aDx(m:Nat){a b:Bool}{i:Nat}{nt:dO}(hn:nt.length<=l.length):AP l (M.qh (m+7) a b (aF l) (i:Int) true (encS nt)) (.bad i):=by
 rw[M.Xb];simp only[M.wS,aH,dR];refine AP.Dx (R:=λo=>AP l o (.bad i)) (aDw m hn) λk op x y fl ks tg nt hn=> ?_
 rw[show M.yh _ _ _ _ _ _ _ _ _=_ from aV rfl];simp only[ah,aH,dR];exact AP.jT hn
def aDy(m:Nat){a b:Bool}{i:Nat}{nt:dO}(hn:nt.length<=l.length):AP l (M.sF (m+8) a b (aF l) (i:Int) true (encS nt)) (.bad i):=by
 rw[M.Xc];simp only[M.wU,aH,dR];refine AP.Dx (R:=λo=>AP l o (.bad i)) (aDx m hn) λk op x y fl ks tg nt hn=> ?_
 rw[show M.yj _ _ _ _ _ _ _ _ _=_ from aV rfl];simp only[ah,aH,dR];exact AP.jT hn
def arH(m:Nat){a b:Bool}{i:Nat}{nt:dO}(hn:nt.length<=l.length):AP l (M.nG (m+9) a b (aF l) (i:Int) true (encS nt)) (.bad i):=by
 rw[M.Ri];simp only[M.pU,M.wV,aH,dR];refine AP.Dx (R:=λo=>AP l o (.bad i)) (aDy m hn) λk op x y fl ks tg nt hn=> ?_
 simp only[aH,dR];exact AP.jT hn
def axb(m:Nat){a b:Bool}{i:Nat}{nt:dO}(hn:nt.length<=l.length):AP l (M.kC (m+10) a b (aF l) (i:Int) true (encS nt)) (.bad i):=by
 rw[M.U3];simp only[M.rW,M.y8,aH,dR];refine AP.Dx (R:=λo=>AP l o (.bad i)) (arH m hn) λk op x y fl ks tg nt hn=> ?_
 simp only[aH,dR];exact AP.jT hn
def aHW(m:Nat){a b:Bool}{i:Nat}{nt:dO}(hn:nt.length<=l.length):AP l (M.uU (m+11) a b (aF l) (i:Int) true (encS nt)) (.bad i):=by
 rw[M.Yk];simp only[M.yt,M.ER,M.ES,M.ET,M.wW,zaW,bG,aH,dR];refine AP.Dx (R:=λo=>AP l o (.bad i)) (axb m hn) λk op x y fl ks tg nt hn=> ?_
 rw[show M.jc _ _ _=_ from aV rfl];simp only[ah,aH,dR,jX,letE];exact AP.jT hn
def aDz(m:Nat){a b:Bool}{i:Nat}{nt:dO}(hn:nt.length<=l.length):AP l (M.sG (m+12) a b (aF l) (i:Int) true (encS nt)) (.bad i):=by
 rw[M.Xd];simp only[M.wX,aH,dR];refine AP.Dx (R:=λo=>AP l o (.bad i)) (aHW m hn) λk op x y fl ks tg nt hn=> ?_
 rw[show M.yu _ _ _ _ _ _ _ _ _=_ from aV rfl];simp only[ah,aH,dR];exact AP.jT hn
def aHX(m:Nat){a b:Bool}{i:Nat}{nt:dO}(hn:nt.length<=l.length):AP l (M.yx (m+13) a b (aF l) (i:Int) true (encS nt)) (.bad i):=by
 rw[M.Yl];simp only[M.yw,aH,dR];refine AP.Dx (R:=λo=>AP l o (.bad i)) (aDz m hn) λk op x y fl ks tg nt hn=> ?_
 rw[show M.zD _ _ _ _ _ _ _ _ _=_ from aV rfl];simp only[ah,aH,dR];exact AP.jT hn
def az1(m:Nat){a b:Bool}{i:Nat}{nt:dO}(hn:nt.length<=l.length):AP l (M.qM (m+14) a b (aF l) (i:Int) true (encS nt)) (.bad i):=by
 rw[M.V6];simp only[M.uH,aH,dR];refine AP.Dx (R:=λo=>AP l o (.bad i)) (aHX m hn) λk op x y fl ks tg nt hn=> ?_
 simp only[aH,dR];exact AP.jT hn
def atU(m:Nat){a b:Bool}{i:Nat}{nt:dO}(hn:nt.length<=l.length):AP l (M.gY (m+15) a b (aF l) (i:Int) true (encS nt)) (.bad i):=by
 rw[M.Un];simp only[M.qK,aH,dR];refine AP.Dx (R:=λo=>AP l o (.bad i)) (az1 m hn) λk op x y fl ks tg nt hn=> ?_
 simp only[aH,dR];exact AP.jT hn
def AC(l:List Tk)(o:Option T10):PR Xp->Prop
 | .ok x j nt=>∃ks,aB ks=cZ false x.1.kids/\o=some (aF l,(j:Int),false,x.1.kind,x.1.op,x.1.text,x.1.other,ks,tgt x,encS nt)
 | .bad j=>∃k op x y ks tg nt,nt.length<=l.length/\o=some (aF l,(j:Int),true,k,op,x,y,ks,tg,encS nt)
 | .out=>True
def AC.elim{o:Option T10}{p:PR Xp}(h:AC l o p){f:T10->Option TP}
  (hf:∀c1 b k op x y ks tg nt,f (aF l,c1,b,k,op,x,y,ks,tg,encS nt)=some (k,op,x,y,false,ks,tg,aF l,c1,b,encS nt)):AP l (o.bind f) p:=by
 cases p with
 |ok x j nt=>obtain⟨ks,h1,rfl⟩:=h;rw[ah,hf];exact AP.mk rfl rfl rfl rfl h1 rfl
 |bad j=>obtain⟨k,op,x,y,ks,tg,nt,h1,rfl⟩:=h;rw[ah,hf];exact AP.jT h1
 |out=>trivial
def Sr(hl:l.length<=1048576){bd:T10->Option (T10⊕T10)}{lv:Nat}{a b:Bool}{rec:Bool->Bool->ak->Int->Bool->ak->Option TP}(h3:3<=lv)(h10:lv<=10)
  (hstop:∀(i:Nat) k op x y ks tg nt,bd (aF l,(i:Int),true,k,op,x,y,ks,tg,encS nt)=some (.inr (aF l,(i:Int),true,k,op,x,y,ks,tg,encS nt)))
  (hend:∀(i:Nat) k op x y ks tg nt,QS lv (b && Nat.beq lv 7) (dP l i)=false->bd (aF l,(i:Int),false,k,op,x,y,ks,tg,encS nt)=some (.inr (aF l,(i:Int),false,k,op,x,y,ks,tg,encS nt)))
  (hop:∀(i:Nat) k op x y ks tg nt,QS lv (b && Nat.beq lv 7) (dP l i)=true->i<l.length->nt.length<=i->bd (aF l,(i:Int),false,k,op,x,y,ks,tg,encS nt)=
   (rec a b (aF l) (((bif Nat.beq lv 8 then(i,nt) else bif Nat.ble lv 4 then nl l (i+1) nt else(i+1,nt)).1:Nat):Int) false (encS (bif Nat.beq lv 8 then(i,nt) else bif Nat.ble lv 4 then nl l (i+1) nt else(i+1,nt)).2)).bind λr=>
    some (.inl (r.2.2.2.2.2.2.2.1,r.2.2.2.2.2.2.2.2.1,r.2.2.2.2.2.2.2.2.2.1,12,(bif Nat.beq lv 8 then 99 else dP l i),[],[],
     aB [[D.int .i64 k,D.int .i64 op,D.str x,D.str y,D.sl false 5 ks],[D.int .i64 r.1,D.int .i64 r.2.1,D.str r.2.2.1,D.str r.2.2.2.1,D.sl false 5 (aB r.2.2.2.2.2.1)]],false,r.2.2.2.2.2.2.2.2.2.2))):
  ∀n,(∀n',n'<=n->∀i nt,i<=l.length->nt.length<=i->AP l (rec a b (aF l) (i:Int) false (encS nt)) (ex l n' (lv+1) a b i nt))->
   ∀x i nt ks,i<=l.length->nt.length<=i->aB ks=cZ false x.1.kids->AC l (fH bd (aF l,(i:Int),false,x.1.kind,x.1.op,x.1.text,x.1.other,ks,tgt x,encS nt)) (chP l n lv a b x i nt)
 |0,_,_,_,_,_,_,_,_=>by rw[chP];trivial
 |n+1,hrec,x,i,nt,ks,hi,hn,hk=>by
  rw[chP];cases hc:QS lv (b && Nat.beq lv 7) (dP l i) with
  |false=>rw[aV (hend i _ _ _ _ _ _ nt hc)];exact⟨ks,hk,rfl⟩
  |true=>
   have hlt:=gZ (afK h3 hc);have hq:=hop i x.1.kind x.1.op x.1.text x.1.other ks (tgt x) nt hc hlt hn;have hqb:FN l i nt.length (bif Nat.beq lv 8 then(i,nt) else bif Nat.ble lv 4 then nl l (i+1) nt else(i+1,nt)).1 (bif Nat.beq lv 8 then(i,nt) else bif Nat.ble lv 4 then nl l (i+1) nt else(i+1,nt)).2.length:=by
    cases Nat.beq lv 8<;>cases Nat.ble lv 4<;>simp only[aH,bG]
    ·omega
    ·have:=Ph (l:=l) (i:=i+1) (nt:=nt) au;omega
    ·omega
    ·omega
   simp only[aH];generalize (bif Nat.beq lv 8 then(i,nt) else bif Nat.ble lv 4 then nl l (i+1) nt else(i+1,nt))=q at hq hqb|-;have hr:=hrec n (Nat.le_succ n) q.1 q.2 au au;have hs:=(sats l n).ex (lv+1) a b q.1 q.2 au au au;generalize ex l n (lv+1) a b q.1 q.2=p at hr hs|-;cases p with
   |ok y j m=>obtain⟨fl,kt,h1,h2⟩:=hr;have hs':FE l q.1 q.2.length y.1.size j m.length:=hs;rw[h2,ah] at hq;rw[bQ hq];exact Sr hl h3 h10 hstop hend hop n (λn' h=>hrec n' au) (Tn.mk 12 (bif Nat.beq lv 8 then 99 else dP l i) [] [] [x.1,y.1],false) j m _ au au (by rw[fz2 hk (NP h1),iQ];rfl)
   |bad j=>obtain⟨k,op,x',y',fl,kt,tg,m,h1,h2⟩:=hr;rw[h2,ah] at hq;rw[bQ hq,aV (hstop j _ _ _ _ _ _ m)];exact⟨_,_,_,_,_,_,_,h1,rfl⟩
   |out=>trivial
variable {l:List Tk}
def ahS{lv:Nat}{k:Int}(h:Nat.beq lv 8=false):QS lv false k=(ug k==(lv:Int)):=by rw[QS,h];simp
def lv3(k:Int):(k==44)=(ug k==3):=by
 cases h:k==44 with
 |true=>rw[ug,h];rfl
 |false=>rw[ug,h,bG];cases k==45<;>cases(k==67||k==46)<;>cases(k==63||(k==48||(k==47||(k==50||(k==62||k==49)))))<;>cases k==99<;>cases(k==55||k==56)<;>cases(k==57||(k==58||k==59))<;>cases k==60<;>rfl
def lv4(k:Int):(k==45)=(ug k==4):=by
 cases h4:k==44 with
 |true=>
  have e:k=44:=by rwa [beq_iff_eq] at h4
  rw[e];rfl
 |false=>
  cases h:k==45 with
  |true=>rw[ug,h4,h];rfl
  |false=>rw[ug,h4,h,bG,bG];cases(k==67||k==46)<;>cases(k==63||(k==48||(k==47||(k==50||(k==62||k==49)))))<;>cases k==99<;>cases(k==55||k==56)<;>cases(k==57||(k==58||k==59))<;>cases k==60<;>rfl
structure RI(l:List Tk)(n m:Nat):Prop where
 e1:∀a b i nt,i<=l.length->nt.length<=i->AP l (M.gY m a b (aF l) (i:Int) false (encS nt)) (ex l n 1 a b i nt)
 e2:∀a b i nt,i<=l.length->nt.length<=i->AP l (M.qM m a b (aF l) (i:Int) false (encS nt)) (ex l n 2 a b i nt)
 e3:∀a b i nt,i<=l.length->nt.length<=i->AP l (M.yx m a b (aF l) (i:Int) false (encS nt)) (ex l n 3 a b i nt)
 e4:∀a b i nt,i<=l.length->nt.length<=i->AP l (M.sG m a b (aF l) (i:Int) false (encS nt)) (ex l n 4 a b i nt)
 e5:∀a b i nt,i<=l.length->nt.length<=i->AP l (M.uU m a b (aF l) (i:Int) false (encS nt)) (ex l n 5 a b i nt)
 e6:∀a b i nt,i<=l.length->nt.length<=i->AP l (M.kC m a b (aF l) (i:Int) false (encS nt)) (ex l n 6 a b i nt)
 e7:∀a b i nt,i<=l.length->nt.length<=i->AP l (M.nG m a b (aF l) (i:Int) false (encS nt)) (ex l n 7 a b i nt)
 e8:∀a b i nt,i<=l.length->nt.length<=i->AP l (M.sF m a b (aF l) (i:Int) false (encS nt)) (ex l n 8 a b i nt)
 e9:∀a b i nt,i<=l.length->nt.length<=i->AP l (M.qh m a b (aF l) (i:Int) false (encS nt)) (ex l n 9 a b i nt)
 e10:∀a b i nt,i<=l.length->nt.length<=i->AP l (M.sD m a b (aF l) (i:Int) false (encS nt)) (ex l n 10 a b i nt)
 e11:∀a b i nt,i<=l.length->nt.length<=i->AP l (M.jZ m a b (aF l) (i:Int) false (encS nt)) (ex l n 11 a b i nt)
 e12:∀a b i nt,i<=l.length->nt.length<=i->AP l (M.wY m a b (aF l) (i:Int) false (encS nt)) (ex l n 12 a b i nt)
 e13:∀a b i nt,i<=l.length->nt.length<=i->AP l (M.uI m (aF l) (i:Int) false (encS nt)) (ex l n 13 a b i nt)
 e14:∀a b i nt,i<=l.length->nt.length<=i->AP l (M.nO m (aF l) (i:Int) false (encS nt)) (ex l n 14 a b i nt)
 e15:∀a b i nt,i<=l.length->nt.length<=i->AP l (M.pV m (aF l) (i:Int) false (encS nt)) (ex l n 15 a b i nt)
 pre:∀i nt,i<l.length->nt.length<=i->AP l (M.qL m (aF l) (i:Int) false (encS nt)) (UM l n i nt)
 its:∀a b i nt,i<=l.length->nt.length<=i->AL l (M.lM m a b (aF l) (i:Int) false (encS nt)) (Ua l n a b [] i nt)
def az2(hl:l.length<=1048576){m n:Nat}{i:Nat}{nt:dO}(h:AL l (M.lM m false false (aF l) (i:Int) false (encS nt)) (Ua l n false false [] i nt))(hi:i<=l.length)(hn:nt.length<=i):
  AL l (M.jD (m+1) 35 (aF l) (i:Int) false (encS nt)) ((Ua l n false false [] i nt).bind λL i nt=>(o7 l 35 i nt).bind λ_ i nt=> .ok L i nt):=by
 rw[M.V4];have h3:((35:Int)==33)=false:=rfl;simp only[M.uD,M.Ae,dR,aH,dY,ah,h3,bG,Bool.cond_self];refine AL.elim (R:=AL l) h (λ_=>trivial) (λfl ks j nt hn=> ?_) (λL fl j nt he=> ?_)
 ·simp only[dR,aH,vk,ah];exact⟨_,_,_,hn,rfl⟩
 ·have hs:=rM (am8 hi) he;simp only[dR,aH];refine Ns (R:=AL l) hl (by decide) ?_ (λ_ _=> ?_)
  ·simp only[dR,aH];exact⟨_,_,_,au,rfl⟩
  ·simp only[dR,aH,iQ];exact⟨_,rfl⟩
def az3(hl:l.length<=1048576){m n:Nat}{i:Nat}{nt:dO}(h:AL l (M.lM m false false (aF l) (i:Int) false (encS nt)) (Ua l n false false [] i nt))(hi:i<=l.length)(hn:nt.length<=i):
  AL l (M.jD (m+1) 33 (aF l) (i:Int) false (encS nt)) (QT l (n+1) 33 i nt):=by
 rw[M.V4,QT];simp only[M.uD,M.Ae,dR,aH,dY,ah,BEq.rfl];cases hc:dP l i==33 with
 |true=>have hlt:=fG hc (by decide);simp only[aH,oI hl hlt];exact⟨_,rfl⟩
 |false=>
  simp only[bG];refine AL.elim (R:=AL l) h (λ_=>trivial) (λfl ks j nt hn=> ?_) (λL fl j nt he=> ?_)
  ·simp only[dR,aH,vk,ah];exact⟨_,_,_,hn,rfl⟩
  ·have hs:=rM (am8 hi) he;simp only[dR,aH];refine Ns (R:=AL l) hl (by decide) ?_ (λ_ _=> ?_)
   ·simp only[dR,aH];exact⟨_,_,_,au,rfl⟩
   ·simp only[dR,aH,iQ];exact⟨_,rfl⟩
def aDA(l:List Tk)(n i:Nat)(nt:dO):PR Xp:=bif dP l (i+1)==34 then(Ua l n false false [] (i+2) nt).bind λL j nt=>(o7 l 35 j nt).bind λ_ j nt=> .ok (.mk 5 0 (Np l i) [] L,false) j nt else adU 1 l i nt
def aFv(hl:l.length<=1048576){m n:Nat}{i:Nat}{nt:dO}(h:∀i nt,i<=l.length->nt.length<=i->AL l (M.lM m false false (aF l) (i:Int) false (encS nt)) (Ua l n false false [] i nt))(hi:i<l.length)(hn:nt.length<=i):
  AP l (M.rG (m+2) (aF l) (i:Int) false (encS nt)) (aDA l n i nt):=by
 rw[M.Y0,aDA];simp only[M.rF,dR,aH,Nq hl hi,ah,dY];cases hc:dP l (i+1)==34 with
 |true=>
  have hlt:=fG hc (by decide);simp only[aH,oI hl hlt];have hL:=az2 hl (h (i+2) nt au au) au au;have e:(Ua l n false false [] (i+2) nt).bind (λL j nt=>(o7 l 35 j nt).bind λ_ j nt=>PR.ok ((Tn.mk 5 0 (Np l i) [] L,false):Xp) j nt)=
    ((Ua l n false false [] (i+2) nt).bind λL i nt=>(o7 l 35 i nt).bind λ_ i nt=> .ok L i nt).bind λL j nt=> .ok ((Tn.mk 5 0 (Np l i) [] L,false):Xp) j nt:=by
   cases Ua l n false false [] (i+2) nt with
   |ok L j m=>simp only[PR.bind];cases o7 l 35 j m<;>rfl
   |bad j=>rfl
   |out=>rfl
  rw[e];refine AL.elim (R:=AP l) hL (λ_=>trivial) (λfl ks j nt hn=> ?_) (λL fl j nt he=> ?_)
  ·simp only[dR,aH];exact AP.jT hn
  ·simp only[dR,aH,iQ];exact AP.mk rfl rfl rfl rfl (iQ _ _) rfl
 |false=>simp only[bG];exact AP.mk rfl rfl rfl rfl rfl rfl
section
variable {n m:Nat} (hl:l.length<=1048576) (H:∀n',n'<=n->∀m',4 * n'+30<=m'->RI l n' m') (hm:4 * (n+1)+30<=m+1)
include hl H hm
theorem aSr(a b:Bool)(i:Nat)(nt:dO)(hi:i<=l.length)(hn:nt.length<=i):AP l (M.gY (m+1) a b (aF l) (i:Int) false (encS nt)) (ex l (n+1) 1 a b i nt):=by
 have h:=H n (zaX _) m au;rw[M.Un];simp only[M.qK,dR,aH,ex];refine AP.elim (R:=AP l) (h.e2 a b i nt hi hn) (λ_=>trivial) (λk op x y fl ks tg j nt hn=> ?_) (λx fl ks j nt hk he=> ?_)
 ·simp only[aH,dR];exact AP.jT hn
 ·have hs:=rM (Ko au au hi) he;simp only[bG,dR,aH,dY,ah,(pJ _).2];cases ht:tgt x with
  |false=>simp only[Bool.not_false,aH,Bool.false_and,bG];exact AP.mk rfl rfl rfl rfl (NP hk) ht.symm
  |true=>
   simp only[zaW,bG,Bool.true_and];cases hc:Xh (dP l j) with
   |false=>simp only[Bool.not_false,aH,bG];exact AP.mk rfl rfl rfl rfl (NP hk) ht.symm
   |true=>
    have hlt:=gZ (atK hc);simp only[zaW,bG,aH,oI hl hlt];refine AP.elim (R:=AP l) (h.e1 a b (j+1) nt au au) (λ_=>trivial) (λk op x y fl ks tg j nt hn=> ?_) (λy fl' kt j' ZR hk' he'=> ?_)
    ·simp only[aH,dR];exact AP.jT hn
    ·simp only[aH,dR];exact AP.mk rfl rfl rfl rfl (fz2 (NP hk) (NP hk')) rfl
theorem aSs(a b:Bool)(i:Nat)(nt:dO)(hi:i<=l.length)(hn:nt.length<=i):AP l (M.qM (m+1) a b (aF l) (i:Int) false (encS nt)) (ex l (n+1) 2 a b i nt):=by
 have h:=H n (zaX _) m au;rw[M.V6];simp only[M.uH,dR,aH,ex];refine AP.elim (R:=AP l) (h.e3 a b i nt hi hn) (λ_=>trivial) (λk op x y fl ks tg j nt hn=> ?_) (λx fl ks j nt hk he=> ?_)
 ·simp only[aH,dR];exact AP.jT hn
 ·have hs:=rM (Ko au au hi) he;simp only[bG,dR,aH,dY,ah,bne];cases hc:dP l j==65 with
  |false=>simp only[Bool.not_false,aH,bG];exact AP.mk rfl rfl rfl rfl (NP hk) rfl
  |true=>
   have hlt:=fG hc (by decide);simp only[zaW,bG,aH,oI hl hlt];refine AP.elim (R:=AP l) (h.e2 a b (j+1) nt au au) (λ_=>trivial) (λk op x y fl ks tg j nt hn=> ?_) (λy fl' kt j' ZR hk' he'=> ?_)
   ·simp only[aH,dR,vk,ah];exact AP.jT hn
   ·have hs':=rM (Ko au au au) he';simp only[aH,dR];refine Ns (R:=AP l) hl (by decide) ?_ (λ_ _=> ?_)
    ·simp only[dR,aH];exact AP.jT au
    ·simp only[dR,aH,bG];refine AP.elim (R:=AP l) (h.e2 a b (j'+1) ZR au au) (λ_=>trivial) (λk op x y fl ks tg j nt hn=> ?_) (λz a0S ku j'' a1K hk'' a0T=> ?_)
     ·simp only[aH,dR];exact AP.jT hn
     ·simp only[aH,dR];exact AP.mk rfl rfl rfl rfl (fz3 (NP hk) (NP hk') (NP hk'')) rfl
theorem aSt(a b:Bool)(i:Nat)(nt:dO)(hi:i<=l.length)(hn:nt.length<=i):AP l (M.yx (m+1) a b (aF l) (i:Int) false (encS nt)) (ex l (n+1) 3 a b i nt):=by
 have h:=H n (zaX _) m au;rw[M.Yl];simp only[M.yw,dR,aH,ex];refine AP.elim (R:=AP l) (h.e4 a b i nt hi hn) (λ_=>trivial) (λk op x y fl ks tg j nt hn=> ?_) (λx fl ks j nt hk he=> ?_)
 ·rw[show M.zD _ _ _ _ _ _ _ _ _=_ from aV rfl];simp only[ah,aH,dR];exact AP.jT hn
 ·have hs:=rM (Ko au au hi) he;rw[M.zD];refine AC.elim (Sr hl (lv:=3) (a:=a) (b:=b) (rec:=M.sG m) au au ?_ ?_ ?_ n (λn' hn' i nt hi hn=>(H n' hn' m au).e4 a b i nt hi hn) x j nt _ au au (NP hk)) (by intros;simp only[aH,dR])
  ·intros
   rfl
  ·intro i k op x y ks tg nt hc;have hb:(b && Nat.beq 3 7)=false:=Bool.and_false b;rw[hb] at hc;have hk:(dP l i==44)=false:=by rw[lv3];exact(ahS (lv:=3) rfl).symm.trans hc
   simp only[M.Nj,M.Ah,Bool.not_false,aH,dR,dY,ah,hk,bG]
  ·intro i k op x y ks tg nt hc hlt hn;have hb:(b && Nat.beq 3 7)=false:=Bool.and_false b;rw[hb] at hc;have hk:(dP l i==44)=true:=by rw[lv3];exact(ahS (lv:=3) rfl).symm.trans hc
   have hk':dP l i=44:=by rwa [beq_iff_eq] at hk
   simp only[M.Nj,M.Ah,Bool.not_false,aH,dR,dY,ah,hk,oI hl hlt,Sl hl (i+1) nt au au,M.mY,M.CU];rw[hk'];rfl
theorem aSu(a b:Bool)(i:Nat)(nt:dO)(hi:i<=l.length)(hn:nt.length<=i):AP l (M.sG (m+1) a b (aF l) (i:Int) false (encS nt)) (ex l (n+1) 4 a b i nt):=by
 have h:=H n (zaX _) m au;rw[M.Xd];simp only[M.wX,dR,aH,ex];refine AP.elim (R:=AP l) (h.e5 a b i nt hi hn) (λ_=>trivial) (λk op x y fl ks tg j nt hn=> ?_) (λx fl ks j nt hk he=> ?_)
 ·rw[show M.yu _ _ _ _ _ _ _ _ _=_ from aV rfl];simp only[ah,aH,dR];exact AP.jT hn
 ·have hs:=rM (Ko au au hi) he;rw[M.yu];refine AC.elim (Sr hl (lv:=4) (a:=a) (b:=b) (rec:=M.uU m) au au ?_ ?_ ?_ n (λn' hn' i nt hi hn=>(H n' hn' m au).e5 a b i nt hi hn) x j nt _ au au (NP hk)) (by intros;simp only[aH,dR])
  ·intros
   rfl
  ·intro i k op x y ks tg nt hc;have hb:(b && Nat.beq 4 7)=false:=Bool.and_false b;rw[hb] at hc;have hk:(dP l i==45)=false:=by rw[lv4];exact(ahS (lv:=4) rfl).symm.trans hc
   simp only[M.KU,M.y9,Bool.not_false,aH,dR,dY,ah,hk,bG]
  ·intro i k op x y ks tg nt hc hlt hn;have hb:(b && Nat.beq 4 7)=false:=Bool.and_false b;rw[hb] at hc;have hk:(dP l i==45)=true:=by rw[lv4];exact(ahS (lv:=4) rfl).symm.trans hc
   have hk':dP l i=45:=by rwa [beq_iff_eq] at hk
   simp only[M.KU,M.y9,Bool.not_false,aH,dR,dY,ah,hk,oI hl hlt,Sl hl (i+1) nt au au,M.mY,M.CU];rw[hk'];rfl
theorem aSv(a b:Bool)(i:Nat)(nt:dO)(hi:i<=l.length)(hn:nt.length<=i):AP l (M.sF (m+1) a b (aF l) (i:Int) false (encS nt)) (ex l (n+1) 8 a b i nt):=by
 have h:=H n (zaX _) m au;rw[M.Xc];simp only[M.wU,dR,aH,ex];refine AP.elim (R:=AP l) (h.e9 a b i nt hi hn) (λ_=>trivial) (λk op x y fl ks tg j nt hn=> ?_) (λx fl ks j nt hk he=> ?_)
 ·rw[show M.yj _ _ _ _ _ _ _ _ _=_ from aV rfl];simp only[ah,aH,dR];exact AP.jT hn
 ·have hs:=rM (Ko au au hi) he;rw[M.yj];refine AC.elim (Sr hl (lv:=8) (a:=a) (b:=b) (rec:=M.qh m) au au ?_ ?_ ?_ n (λn' hn' i nt hi hn=>(H n' hn' m au).e9 a b i nt hi hn) x j nt _ au au (NP hk)) (by intros;simp only[aH,dR])
  ·intros
   rfl
  ·intro i k op x y ks tg nt hc;have hb:(b && Nat.beq 8 7)=false:=Bool.and_false b;rw[hb] at hc;have hk:azL (dP l i)=false:=hc;simp only[M.KT,M.y7,Bool.not_false,aH,dR,dY,ah,aFu,hk,bG]
  ·intro i k op x y ks tg nt hc hlt hn;have hb:(b && Nat.beq 8 7)=false:=Bool.and_false b;rw[hb] at hc;have hk:azL (dP l i)=true:=hc;simp only[M.KT,M.y7,Bool.not_false,aH,dR,dY,ah,aFu,hk,M.mY,M.CU];rfl
theorem aSw(a b:Bool)(i:Nat)(nt:dO)(hi:i<=l.length)(hn:nt.length<=i):AP l (M.qh (m+1) a b (aF l) (i:Int) false (encS nt)) (ex l (n+1) 9 a b i nt):=by
 have h:=H n (zaX _) m au;rw[M.Xb];simp only[M.wS,dR,aH,ex];refine AP.elim (R:=AP l) (h.e10 a b i nt hi hn) (λ_=>trivial) (λk op x y fl ks tg j nt hn=> ?_) (λx fl ks j nt hk he=> ?_)
 ·rw[show M.yh _ _ _ _ _ _ _ _ _=_ from aV rfl];simp only[ah,aH,dR];exact AP.jT hn
 ·have hs:=rM (Ko au au hi) he;rw[M.yh];refine AC.elim (Sr hl (lv:=9) (a:=a) (b:=b) (rec:=M.sD m) au au ?_ ?_ ?_ n (λn' hn' i nt hi hn=>(H n' hn' m au).e10 a b i nt hi hn) x j nt _ au au (NP hk)) (by intros;simp only[aH,dR])
  ·intros
   rfl
  ·intro i k op x y ks tg nt hc;have hb:(b && Nat.beq 9 7)=false:=Bool.and_false b;rw[hb] at hc;have hk:(ug (dP l i)==9)=false:=(ahS (lv:=9) rfl).symm.trans hc;simp only[M.KR,M.y5,Bool.not_false,aH,dR,dY,ah,(Sj _).1,hk,bG]
  ·intro i k op x y ks tg nt hc hlt hn;have hb:(b && Nat.beq 9 7)=false:=Bool.and_false b;rw[hb] at hc;have hk:(ug (dP l i)==9)=true:=(ahS (lv:=9) rfl).symm.trans hc;simp only[M.KR,M.y5,Bool.not_false,aH,dR,dY,ah,(Sj _).1,hk,oI hl hlt,M.mY,M.CU];rfl
theorem aHY(a b:Bool)(i:Nat)(nt:dO)(hi:i<=l.length)(hn:nt.length<=i):AP l (M.sD (m+1) a b (aF l) (i:Int) false (encS nt)) (ex l (n+1) 10 a b i nt):=by
 have h:=H n (zaX _) m au;rw[M.Xa];simp only[M.wR,dR,aH,ex];refine AP.elim (R:=AP l) (h.e11 a b i nt hi hn) (λ_=>trivial) (λk op x y fl ks tg j nt hn=> ?_) (λx fl ks j nt hk he=> ?_)
 ·rw[show M.yg _ _ _ _ _ _ _ _ _=_ from aV rfl];simp only[ah,aH,dR];exact AP.jT hn
 ·have hs:=rM (Ko au au hi) he;rw[M.yg];refine AC.elim (Sr hl (lv:=10) (a:=a) (b:=b) (rec:=M.jZ m) au au ?_ ?_ ?_ n (λn' hn' i nt hi hn=>(H n' hn' m au).e11 a b i nt hi hn) x j nt _ au au (NP hk)) (by intros;simp only[aH,dR])
  ·intros
   rfl
  ·intro i k op x y ks tg nt hc;have hb:(b && Nat.beq 10 7)=false:=Bool.and_false b;rw[hb] at hc;have hk:(ug (dP l i)==10)=false:=(ahS (lv:=10) rfl).symm.trans hc;simp only[M.KQ,M.yZ,Bool.not_false,aH,dR,dY,ah,(Sj _).1,hk,bG]
  ·intro i k op x y ks tg nt hc hlt hn;have hb:(b && Nat.beq 10 7)=false:=Bool.and_false b;rw[hb] at hc;have hk:(ug (dP l i)==10)=true:=(ahS (lv:=10) rfl).symm.trans hc;simp only[M.KQ,M.yZ,Bool.not_false,aH,dR,dY,ah,(Sj _).1,hk,oI hl hlt,M.mY,M.CU];rfl
theorem aSx(a b:Bool)(i:Nat)(nt:dO)(hi:i<=l.length)(hn:nt.length<=i):AP l (M.kC (m+1) a b (aF l) (i:Int) false (encS nt)) (ex l (n+1) 6 a b i nt):=by
 have h:=H n (zaX _) m au;rw[M.U3];simp only[M.rW,M.y8,dR,aH,ex];refine AP.elim (R:=AP l) (h.e7 a b i nt hi hn) (λ_=>trivial) (λk op x y fl ks tg j nt hn=> ?_) (λx fl ks j nt hk he=> ?_)
 ·simp only[aH,dR];exact AP.jT hn
 ·have hs:=rM (Ko au au hi) he;simp only[bG,dR,aH,dY,ah,bne,M.mY,M.CU];have hgo:j<l.length->AP l ((M.nG m a b (aF l) ((j+1:Nat):Int) false (encS nt)).bind λr=>
    bif aj r.2.2.2.2.2.2.2.2.2.2 then some (12,dP l j,[],[],false,aB [[D.int .i64 x.1.kind,D.int .i64 x.1.op,D.str x.1.text,D.str x.1.other,D.sl false 5 (aB ks)],[D.int .i64 r.1,D.int .i64 r.2.1,D.str r.2.2.1,D.str r.2.2.2.1,D.sl false 5 (aB r.2.2.2.2.2.1)]],false,
     r.2.2.2.2.2.2.2.1,r.2.2.2.2.2.2.2.2.1,r.2.2.2.2.2.2.2.2.2.1,r.2.2.2.2.2.2.2.2.2.2) else none) ((ex l n 7 a b (j+1) nt).bind λy j' nt=> .ok (.mk 12 (dP l j) [] [] [x.1,y.1],false) j' nt):=by
   intro hlt;refine AP.elim (R:=AP l) (h.e7 a b (j+1) nt au au) (λ_=>trivial) (λk op x y fl ks tg j nt hn=> ?_) (λy fl' kt j' ZR hk' he'=> ?_)
   ·simp only[aH,dR];exact AP.jT hn
   ·simp only[aH,dR];exact AP.mk rfl rfl rfl rfl (by rw[fz2 (NP hk) (NP hk'),iQ];rfl) rfl
  cases hc:dP l j==67 with
  |true=>have hlt:=fG hc (by decide);simp only[zaW,bG,aH,Bool.true_or,oI hl hlt];exact hgo hlt
  |false=>
   cases hc':dP l j==46 with
   |true=>have hlt:=fG hc' (by decide);simp only[zaW,Bool.not_false,bG,aH,Bool.or_true,oI hl hlt];exact hgo hlt
   |false=>simp only[Bool.not_false,bG,aH,Bool.or_false];exact AP.mk rfl rfl rfl rfl (NP hk) rfl
theorem aSy(a b:Bool)(i:Nat)(nt:dO)(hi:i<=l.length)(hn:nt.length<=i):AP l (M.nG (m+1) a b (aF l) (i:Int) false (encS nt)) (ex l (n+1) 7 a b i nt):=by
 have h:=H n (zaX _) m au;rw[M.Ri];simp only[M.pU,M.wV,dR,aH,ex];refine AP.elim (R:=AP l) (h.e8 a b i nt hi hn) (λ_=>trivial) (λk op x y fl ks tg j nt hn=> ?_) (λx fl ks j nt hk he=> ?_)
 ·simp only[aH,dR];exact AP.jT hn
 ·have hs:=rM (Ko au au hi) he;simp only[bG,dR,aH,dY,ah,bne,M.mY,M.CU,(Sj _).1];have hgo:j<l.length->AP l ((M.sF m a b (aF l) ((j+1:Nat):Int) false (encS nt)).bind λr=>
    bif aj r.2.2.2.2.2.2.2.2.2.2 then some (12,dP l j,[],[],false,aB [[D.int .i64 x.1.kind,D.int .i64 x.1.op,D.str x.1.text,D.str x.1.other,D.sl false 5 (aB ks)],[D.int .i64 r.1,D.int .i64 r.2.1,D.str r.2.2.1,D.str r.2.2.2.1,D.sl false 5 (aB r.2.2.2.2.2.1)]],false,
     r.2.2.2.2.2.2.2.1,r.2.2.2.2.2.2.2.2.1,r.2.2.2.2.2.2.2.2.2.1,r.2.2.2.2.2.2.2.2.2.2) else none) ((ex l n 8 a b (j+1) nt).bind λy j' nt=> .ok (.mk 12 (dP l j) [] [] [x.1,y.1],false) j' nt):=by
   intro hlt;refine AP.elim (R:=AP l) (h.e8 a b (j+1) nt au au) (λ_=>trivial) (λk op x y fl ks tg j nt hn=> ?_) (λy fl' kt j' ZR hk' he'=> ?_)
   ·simp only[aH,dR];exact AP.jT hn
   ·simp only[aH,dR];exact AP.mk rfl rfl rfl rfl (by rw[fz2 (NP hk) (NP hk'),iQ];rfl) rfl
  have e7:QS 7 b (dP l j)=(ug (dP l j)==7 && !(b && dP l j==62)):=rfl;rw[e7];cases hc:ug (dP l j)==7 with
  |false=>simp only[Bool.not_false,bG,aH,Bool.false_and];exact AP.mk rfl rfl rfl rfl (NP hk) rfl
  |true=>
   have hlt:j<l.length:=by
    refine gZ λe=> ?_
    rw[e] at hc;exact absurd hc (by decide)
   simp only[zaW,bG,aH,Bool.true_and,oI hl hlt];cases b with
   |false=>simp only[Bool.false_and,Bool.not_false,aH,bG];exact hgo hlt
   |true=>
    simp only[Bool.true_and,aH];cases hc':dP l j==62 with
    |true=>simp only[zaW,bG,aH];exact AP.mk rfl rfl rfl rfl (NP hk) rfl
    |false=>simp only[Bool.not_false,bG,aH];exact hgo hlt
theorem aHZ(a b:Bool)(i:Nat)(nt:dO)(hi:i<=l.length)(hn:nt.length<=i):AP l (M.jZ (m+1) a b (aF l) (i:Int) false (encS nt)) (ex l (n+1) 11 a b i nt):=by
 have h:=H n (zaX _) m au;rw[M.U2];simp only[M.rV,M.yY,M.uT,dR,aH,ex,dY,ah,bG,bne];have hgo:i<l.length->AP l ((M.jZ m a b (aF l) ((i+1:Nat):Int) false (encS nt)).bind λr=>
   bif aj r.2.2.2.2.2.2.2.2.2.2 then some (11,dP l i,[],[],true,[[D.int .i64 r.1,D.int .i64 r.2.1,D.str r.2.2.1,D.str r.2.2.2.1,D.sl false 5 (aB r.2.2.2.2.2.1)]],false,
    r.2.2.2.2.2.2.2.1,r.2.2.2.2.2.2.2.2.1,r.2.2.2.2.2.2.2.2.2.1,r.2.2.2.2.2.2.2.2.2.2) else none) ((ex l n 11 a b (i+1) nt).bind λx j nt=> .ok (.mk 11 (dP l i) [] [] [x.1],false) j nt):=by
  intro hlt;refine AP.elim (R:=AP l) (h.e11 a b (i+1) nt au au) (λ_=>trivial) (λk op x y fl ks tg j nt hn=> ?_) (λy fl' kt j' ZR hk' he'=> ?_)
  ·simp only[aH,dR];exact AP.jT hn
  ·simp only[aH,dR];exact AP.mk rfl rfl rfl rfl (fz1 (NP hk')) rfl
 cases h5:dP l i==55 with
 |true=>have hlt:=fG h5 (by decide);simp only[zaW,bG,aH,Bool.true_or,oI hl hlt];exact hgo hlt
 |false=>
  cases h6:dP l i==56 with
  |true=>have hlt:=fG h6 (by decide);simp only[zaW,Bool.not_false,bG,aH,Bool.true_or,Bool.or_true,oI hl hlt];exact hgo hlt
  |false=>
   cases h1:dP l i==61 with
   |true=>have hlt:=fG h1 (by decide);simp only[zaW,Bool.not_false,bG,aH,Bool.true_or,Bool.or_true,oI hl hlt];exact hgo hlt
   |false=>simp only[Bool.not_false,bG,aH,Bool.or_false];exact AP.pass (h.e12 a b i nt hi hn) (by intros;simp only[dR,aH])
theorem aH0(a b:Bool)(i:Nat)(nt:dO)(hi:i<=l.length)(hn:nt.length<=i):AP l (M.wY (m+1) a b (aF l) (i:Int) false (encS nt)) (ex l (n+1) 12 a b i nt):=by
 have h:=H n (zaX _) m au;rw[M.W9];simp only[M.wQ,dR,aH,ex];refine AP.elim (R:=AP l) (h.e13 a b i nt hi hn) (λ_=>trivial) (λk op x y fl ks tg j nt hn=> ?_) (λx fl ks j nt hk he=> ?_)
 ·simp only[aH,dR];exact AP.jT hn
 ·have hs:=rM (Ko au au hi) he;simp only[bG,dR,aH,dY,ah,bne,M.mY,M.CU];cases hc:dP l j==60 with
  |false=>simp only[Bool.not_false,aH,bG];exact AP.mk rfl rfl rfl rfl (NP hk) rfl
  |true=>
   have hlt:=fG hc (by decide);simp only[zaW,bG,aH,oI hl hlt];refine AP.elim (R:=AP l) (h.e11 a b (j+1) nt au au) (λ_=>trivial) (λk op x y fl ks tg j nt hn=> ?_) (λy fl' kt j' ZR hk' he'=> ?_)
   ·simp only[aH,dR];exact AP.jT hn
   ·simp only[aH,dR];exact AP.mk rfl rfl rfl rfl (by rw[fz2 (NP hk) (NP hk'),iQ];rfl) rfl
theorem aH1(a b:Bool)(i:Nat)(nt:dO)(hi:i<=l.length)(hn:nt.length<=i):AP l (M.uI (m+1) (aF l) (i:Int) false (encS nt)) (ex l (n+1) 13 a b i nt):=by
 have h:=H n (zaX _) m au;rw[M.V5];simp only[M.uG,M.Ag,dR,aH,ex,Bool.not_false,dY,ah,atQ];cases hc:isStep (dP l i) with
 |true=>have hlt:=gZ (Xj hc);simp only[aH];exact AP.pass (h.pre i nt hlt hn) (by intros;simp only[dR,aH])
 |false=>
  simp only[bG];refine AP.elim (R:=AP l) (h.e14 a b i nt hi hn) (λ_=>trivial) (λk op x y fl ks tg j nt hn=> ?_) (λx fl ks j nt hk he=> ?_)
  ·simp only[aH,dR];exact AP.jT hn
  ·have hs:=rM (Ko au au hi) he;simp only[bG,dR,aH,dY,ah,atQ];cases ht:tgt x with
   |false=>simp only[Bool.not_false,aH,Bool.false_and,bG];exact AP.mk rfl rfl rfl rfl (NP hk) ht.symm
   |true=>
    simp only[zaW,bG,Bool.true_and];cases hc:isStep (dP l j) with
    |false=>simp only[Bool.not_false,aH,bG];exact AP.mk rfl rfl rfl rfl (NP hk) ht.symm
    |true=>have hlt:=gZ (Xj hc);simp only[zaW,bG,aH,oI hl hlt];exact AP.mk rfl rfl rfl rfl (fz1 (NP hk)) rfl
theorem aH2(a b:Bool)(i:Nat)(nt:dO)(hi:i<=l.length)(hn:nt.length<=i):AP l (M.nO (m+1) (aF l) (i:Int) false (encS nt)) (ex l (n+1) 14 a b i nt):=by
 have h:=H n (zaX _) m au;rw[M.U1];simp only[M.rU,M.yV,dR,aH,bG,ex,dY,ah,bne];cases hc:dP l i==68 with
 |false=>simp only[Bool.not_false,aH,bG];exact AP.pass (h.e15 a b i nt hi hn) (by intros;simp only[dR,aH])
 |true=>
  have hlt:=fG hc (by decide);simp only[zaW,bG,aH,oI hl hlt,dY,ah,atQ];cases hs:isStep (dP l (i+1)) with
  |true=>
   have hlt':=gZ (Xj hs);simp only[aH,dR];refine AP.elim (R:=AP l) (h.pre (i+1) nt hlt' au) (λ_=>trivial) (λk op x y fl ks tg j nt hn=> ?_) (λy fl' kt j' ZR hk' he'=> ?_)
   ·simp only[aH,dR];exact AP.jT hn
   ·simp only[aH,dR];exact AP.mk rfl rfl rfl rfl (fz1 (NP hk')) rfl
  |false=>
   simp only[bG,aH,dR];refine AP.elim (R:=AP l) (h.e14 a b (i+1) nt au au) (λ_=>trivial) (λk op x y fl ks tg j nt hn=> ?_) (λy fl' kt j' ZR hk' he'=> ?_)
   ·simp only[aH,dR];exact AP.jT hn
   ·simp only[aH,dR];exact AP.mk rfl rfl rfl rfl (fz1 (NP hk')) rfl
end
variable {l:List Tk}
def afN{L:List Tn}{x:Tn}{ks:ak}(h:aB ks=cZ false x.kids):
  cZ false L++[[D.int .i64 x.kind,D.int .i64 x.op,D.str x.text,D.str x.other,D.sl false 5 (aB ks)]]=cZ false (L++[x]):=by
 rw[yL,h,<-aoo];rfl
def itF(u:zay⊕zaN⊕zay):Option TL:=
 jX u (λt=>bif aj t.2.2.2.2 then some (true,t.2.2.2.1,t.1,t.2.1,t.2.2.1,t.2.2.2.2) else none) λu=>
  jX u (λt=>bif aj t.2.2.2 then some (true,t.2.2.1,t.1,t.2.1,true,t.2.2.2) else none) λu=>
  letE u λt=>bif aj t.2.2.2.2 then some (true,t.2.2.2.1,t.1,t.2.1,t.2.2.1,t.2.2.2.2) else none
def akG(hl:l.length<=1048576){m:Nat}{a b:Bool}:∀n,(∀n',n'<n->∀i nt,i<=l.length->nt.length<=i->AP l (M.gY m a b (aF l) (i:Int) false (encS nt)) (ex l n' 1 a b i nt))->
  ∀L i nt,L.length<6->i<=l.length->nt.length<=i->AL l ((M.uP (M.gY m) a b (aF l,(i:Int),false,cZ false L,encS nt)).bind itF) (Ua l n a b L i nt)
 |0,_,_,_,_,_,_,_=>by rw[Ua];trivial
 |n+1,hrec,L,i,nt,hL,hi,hn=>by
  have hr:=hrec n (Nat.lt_succ_self n) i nt hi hn;have hs:=(sats l n).ex 1 a b i nt au au hi;rw[Ua,M.uP];have hb:M.IG (M.gY m) a b (aF l,(i:Int),false,cZ false L,encS nt)=
    (M.gY m a b (aF l) (i:Int) false (encS nt)).bind λDy=>
    (bif((cZ false L).length+[[D.int .i64 Dy.1,D.int .i64 Dy.2.1,D.str Dy.2.2.1,D.str Dy.2.2.2.1,D.sl false 5 (aB Dy.2.2.2.2.2.1)]].length) * 72|>.ble 140737488355328 then
    (bif((cZ false L).length+[[D.int .i64 Dy.1,D.int .i64 Dy.2.1,D.str Dy.2.2.1,D.str Dy.2.2.2.1,D.sl false 5 (aB Dy.2.2.2.2.2.1)]].length).ble 140737488355328 then
     (bif Dy.2.2.2.2.2.2.2.2.2.1 then
     (some (.inr (.inl ((Dy.2.2.2.2.2.2.2.1,Dy.2.2.2.2.2.2.2.2.1,Dy.2.2.2.2.2.2.2.2.2.1,cZ false L++[[D.int .i64 Dy.1,D.int .i64 Dy.2.1,D.str Dy.2.2.1,D.str Dy.2.2.2.1,D.sl false 5 (aB Dy.2.2.2.2.2.1)]],Dy.2.2.2.2.2.2.2.2.2.2))))) else
     (bif aj Dy.2.2.2.2.2.2.2.2.2.2 then
      ((M.aA Dy.2.2.2.2.2.2.2.1 Dy.2.2.2.2.2.2.2.2.1 Dy.2.2.2.2.2.2.2.2.2.1 Dy.2.2.2.2.2.2.2.2.2.2).bind λaeC=>
      (bif aeC.1 !=36 then
       (some (.inr (.inl ((aeC.2.1,aeC.2.2.1,aeC.2.2.2.1,cZ false L++[[D.int .i64 Dy.1,D.int .i64 Dy.2.1,D.str Dy.2.2.1,D.str Dy.2.2.2.1,D.sl false 5 (aB Dy.2.2.2.2.2.1)]],aeC.2.2.2.2))))) else
       (bif((cZ false L++[[D.int .i64 Dy.1,D.int .i64 Dy.2.1,D.str Dy.2.2.1,D.str Dy.2.2.2.1,D.sl false 5 (aB Dy.2.2.2.2.2.1)]]).length:Int)==6 then
       (some (.inr (.inr (.inl ((aeC.2.1,aeC.2.2.1,cZ false L++[[D.int .i64 Dy.1,D.int .i64 Dy.2.1,D.str Dy.2.2.1,D.str Dy.2.2.2.1,D.sl false 5 (aB Dy.2.2.2.2.2.1)]],aeC.2.2.2.2)))))) else
       (bif aj aeC.2.2.2.2 then
        ((M.aQ aeC.2.1 (i64.wrap (aeC.2.2.1+1)) aeC.2.2.2.1 aeC.2.2.2.2).bind λaDB=>
        (some (.inl ((aDB.1,aDB.2.1,aDB.2.2.1,cZ false L++[[D.int .i64 Dy.1,D.int .i64 Dy.2.1,D.str Dy.2.2.1,D.str Dy.2.2.2.1,D.sl false 5 (aB Dy.2.2.2.2.2.1)]],aDB.2.2.2))))) else none)))) else none)) else none) else none):=by
   simp only[Fj,M.IG,M.AZ,Bool.not_false,aH,dR]
  generalize ex l n 1 a b i nt=p at hr hs|-;cases p with
  |out=>trivial
  |bad j=>obtain⟨k,op,x',y',fl,kt,tg,m',h1,h2⟩:=hr;rw[h2,ah] at hb;simp only[dG,OW] at hb;rw[bI au,aH,bI au,aH,aH] at hb;rw[aV hb,ah];simp only[itF,jX,dR,aH];exact⟨_,_,_,h1,rfl⟩
  |ok x j m'=>
   obtain⟨fl,kt,h1,h2⟩:=hr;have hs':FE l i nt.length x.1.size j m'.length:=hs;rw[h2,ah] at hb;simp only[afN h1,dG,OW,Gt] at hb;rw[bI au,aH,bI au,aH,bG,dR,aH,dY,ah] at hb;simp only[PR.bind];simp only[bne] at hb;cases hc:dP l j==36 with
   |false=>simp only[hc,Bool.not_false,aH] at hb;rw[aV hb,ah];simp only[itF,jX,dR,aH,bG];exact⟨_,rfl⟩
   |true=>
    have hlt:=fG hc (by decide);simp only[hc,zaW,bG,dR,aH,oI hl hlt,Sl hl (j+1) m' au au,ah] at hb;rw[aH];cases h6:Nat.beq (L.length+1) 6 with
    |true=>
     have e:=Kr h6;have e':(((L.length+1:Nat):Int)==6)=true:=by rw[e];rfl
     rw[e',aH] at hb;rw[aV hb,ah,aH];simp only[itF,jX,dR,aH];exact⟨_,_,_,au,rfl⟩
    |false=>
     have e:L.length+1≠6:=Nat.ne_of_beq_eq_false h6;have e':(((L.length+1:Nat):Int)==6)=false:=by rw[QV];omega
     rw[e',bG] at hb;rw[bQ hb,bG];have hf:=Ph (l:=l) (i:=j+1) (nt:=m') au;exact akG hl n (λn' h=>hrec n' au) (L++[x.1]) _ _ (by rw[Gt,OW];omega) au au
section
variable {n m:Nat} (hl:l.length<=1048576) (H:∀n',n'<=n->∀m',4 * n'+30<=m'->RI l n' m') (hm:4 * (n+1)+30<=m+1)
include hl H hm
theorem aH3(a b:Bool)(i:Nat)(nt:dO)(hi:i<=l.length)(hn:nt.length<=i):AL l (M.lM (m+1) a b (aF l) (i:Int) false (encS nt)) (Ua l (n+1) a b [] i nt):=by rw[M.acj];exact akG hl (n+1) (λn' hn' i nt hi hn=>(H n' au m au).e1 a b i nt hi hn) [] i nt (by decide) hi hn
theorem a0U(i:Nat)(nt:dO)(hi:i<=l.length)(hn:nt.length<=i):AP l (M.zf m (aF l) (i:Int) false (encS nt)) (bif dP l i==68||dP l i==6 then ex l n 14 false false i nt else .bad i):=by
 obtain⟨m2,rfl⟩:∃m2,m=m2+3:=⟨m - 3,au⟩
 rw[M.aa3];simp only[M.uQ,M.sH,bG,dR,aH,dY,ah];cases h8:dP l i==68 with
 |true=>simp only[aH,Bool.true_or];exact AP.pass ((H n (zaX _) (m2+2) au).e14 false false i nt hi hn) (by intros;simp only[dR,aH])
 |false=>
  cases h6:dP l i==6 with
  |false=>simp only[bG,Bool.or_self,atS,ah,dR,aH];exact AP.jT au
  |true=>
   have hlt:=fG h6 (by decide);have e:dP l i=6:=by rwa [beq_iff_eq] at h6
   simp only[aH,bG,Bool.false_or];refine AP.pass ?_ (by intros;simp only[dR,aH]);cases n with
   |zero=>rw[ex];trivial
   |succ n1=>
    have e1:ex l (n1+1) 14 false false i nt=ex l n1 15 false false i nt:=by simp only[ex,h8,bG]
    rw[e1];cases n1 with
    |zero=>rw[ex];trivial
    |succ n2=>
     have h3:(dP l i==3)=false:=by rw[e];rfl
     have h4:(dP l i==4)=false:=by rw[e];rfl
     have h5:(dP l i==5)=false:=by rw[e];rfl
     have e2:ex l (n2+1) 15 false false i nt=aDA l n2 i nt:=by simp only[ex,h3,h4,h5,h6,bG,aH,aDA]
     rw[e2];exact aFv hl (λi nt hi hn=>(H n2 au m2 au).its false false i nt hi hn) hlt hn
theorem aH4(i:Nat)(nt:dO)(hi:i<l.length)(hn:nt.length<=i):AP l (M.qL (m+1) (aF l) (i:Int) false (encS nt)) (UM l (n+1) i nt):=by
 rw[M.aa4,UM];simp only[M.uS,dR,aH,dY,ah,oI hl hi];have e:(bif dP l (i+1)==68||dP l (i+1)==6 then(ex l n 14 false false (i+1) nt).bind λx j nt=> .ok (.mk 9 (dP l i) [] [] [x.1],false) j nt else .bad (i+1):PR Xp)=
   (bif dP l (i+1)==68||dP l (i+1)==6 then ex l n 14 false false (i+1) nt else .bad (i+1)).bind λx j nt=> .ok (.mk 9 (dP l i) [] [] [x.1],false) j nt:=by
  cases(dP l (i+1)==68||dP l (i+1)==6)<;>rfl
 rw[e];refine AP.elim (R:=AP l) (a0U hl H hm (i+1) nt au au) (λ_=>trivial) (λk op x y fl ks tg j nt hn=> ?_) (λy fl' kt j' ZR hk' he'=> ?_)
 ·simp only[aH,dR];exact AP.jT hn
 ·simp only[aH,dR];exact AP.mk rfl rfl rfl rfl (fz1 (NP hk')) rfl
theorem az4(kd:Int)(hkd:Pn kd=false)(i:Nat)(nt:dO)(hi:i<l.length)(hn:nt.length<=i):
  AP l ((M.aO 32 (aF l) ((i+1:Nat):Int) false (encS nt)).bind λr=>bif r.1 then(bif aj r.2.2.2.2 then(M.jD m 33 r.2.1 r.2.2.1 r.2.2.2.1 r.2.2.2.2).bind λr'=>bif aj r'.2.2.2.2.2 then some (kd,0,Np l i,[],false,aB r'.2.1,false,r'.2.2.1,r'.2.2.2.1,r'.2.2.2.2.1,r'.2.2.2.2.2) else none else none)
   else(bif aj r.2.2.2.2 then some (kd,0,Np l i,[],true,[],false,r.2.1,r.2.2.1,r.2.2.2.1,r.2.2.2.2) else none))
   ((o7 l 32 (i+1) nt).bind λ_ j nt=>(QT l n 33 j nt).bind λL j nt=> .ok (.mk kd 0 (Np l i) [] L,false) j nt):=by
 refine Ns (R:=AP l) hl (by decide) ?_ (λ_ hlt=> ?_)
 ·simp only[dR,aH,bG];exact AP.jT au
 ·simp only[dR,aH];obtain⟨m2,rfl⟩:∃m2,m=m2+3:=⟨m - 3,au⟩
  cases n with
  |zero=>rw[QT];trivial
  |succ n1=>
   refine AL.elim (R:=AP l) (az3 hl ((H n1 au (m2+2) au).its false false (i+1+1) nt au au) au au) (λ_=>trivial) (λfl ks j nt hn=> ?_) (λL fl j nt he=> ?_)
   ·simp only[dR,aH];exact AP.jT hn
   ·simp only[dR,aH,iQ];exact AP.mk rfl rfl rfl rfl (iQ _ _) (by simp only[tgt,Tn.kind,hkd];rfl)
theorem aH5(a b:Bool)(i:Nat)(nt:dO)(hi:i<=l.length)(hn:nt.length<=i):AP l (M.pV (m+1) (aF l) (i:Int) false (encS nt)) (ex l (n+1) 15 a b i nt):=by
 have h:=H n (zaX _) m au;rw[M.Rh];simp only[M.pR,M.xH,M.wO,dR,aH,bG,ex,dY,ah];cases h3:dP l i==3 with
 |true=>have hlt:=fG h3 (by decide);simp only[aH,Nq hl hlt,ah,dR];exact AP.mk rfl rfl rfl rfl rfl rfl
 |false=>
 cases h4:dP l i==4 with
 |true=>have hlt:=fG h4 (by decide);simp only[aH,bG,Nq hl hlt,ah,dR];exact AP.mk rfl rfl rfl rfl rfl rfl
 |false=>
 cases h5:dP l i==5 with
 |true=>have hlt:=fG h5 (by decide);simp only[aH,bG,Nq hl hlt,ah,dR];exact AP.mk rfl rfl rfl rfl rfl rfl
 |false=>
 cases h6:dP l i==6 with
 |true=>
  have hlt:=fG h6 (by decide);simp only[aH,bG];obtain⟨m2,rfl⟩:∃m2,m=m2+2:=⟨m - 2,au⟩
  exact AP.pass (aFv hl (λi nt hi hn=>(H n (zaX _) m2 au).its false false i nt hi hn) hlt hn) (by intros;simp only[dR,aH])
 |false=>
 cases h7:dP l i==7 with
 |true=>
  have hlt:=fG h7 (by decide);have e:dP l i=7:=by rwa [beq_iff_eq] at h7
  have h8:(dP l i==8)=false:=by rw[e];rfl
  simp only[aH,bG,Nq hl hlt,ah,dR,h8,Bool.true_or,Bool.false_and];have:=az4 hl H hm 7 rfl i nt hlt hn;rw[e];exact this
 |false=>
 cases h8:dP l i==8 with
 |true=>
  have hlt:=fG h8 (by decide);have e:dP l i=8:=by rwa [beq_iff_eq] at h8
  simp only[aH,bG,Nq hl hlt,ah,dR,Bool.or_true,Bool.true_and];have hcall:=az4 hl H hm 8 rfl i nt hlt hn;cases hx:Np l i==[108,101,110,103,116,104] with
  |false=>simp only[bG,Bool.false_and];rw[e];exact hcall
  |true=>
   simp only[aH,Bool.true_and,dY,ah,bne];cases h32:dP l (i+1)==32 with
   |false=>simp only[Bool.not_false,aH,dR];exact AP.mk rfl rfl rfl rfl rfl rfl
   |true=>simp only[zaW,bG,dR,aH];rw[e];exact hcall
 |false=>
 cases h32:dP l i==32 with
 |true=>
  have hlt:=fG h32 (by decide);simp only[aH,bG,oI hl hlt,Bool.or_self];refine AP.elim (R:=AP l) (h.e1 false false (i+1) nt au au) (λ_=>trivial) (λk op x y fl ks tg j nt hn=> ?_) (λx fl ks j ZR hk he=> ?_)
  ·simp only[aH,dR,vk,ah];exact AP.jT hn
  ·have hs:=rM (Ko au au au) he;simp only[dR,aH];refine Ns (R:=AP l) hl (by decide) ?_ (λ_ hlt=> ?_)
   ·simp only[dR,aH];exact AP.jT au
   ·simp only[dR,aH];exact AP.mk rfl rfl rfl rfl (NP hk) rfl
 |false=>simp only[bG,Bool.or_self,atS,ah,dR,aH];exact AP.jT au
end
variable {l:List Tk}
abbrev Q1:=ak×ak×Int×Bool×Bool×Bool×Int×Int×aC×aC×Bool×Int×Int×aC×aC×Bool×ak
abbrev Q2:=ak×Int×Bool×Bool×Bool×Int×Int×aC×aC×Bool×Int×Int×aC×aC×ak×Bool×ak
abbrev Q3:=ak×Int×Bool×Bool×Bool×Int×Int×aC×aC×Bool×Int×Int×aC×aC×Bool×ak×ak
def inF(u:Q1⊕Q2⊕Q3):Option TP:=jX u (λt=>bif aj t.2.2.2.2.2.2.2.2.2.2.2.2.2.2.2.2 then some (t.2.2.2.2.2.2.2.2.2.2.2.1,t.2.2.2.2.2.2.2.2.2.2.2.2.1,t.2.2.2.2.2.2.2.2.2.2.2.2.2.1,t.2.2.2.2.2.2.2.2.2.2.2.2.2.2.1,true,[],t.2.2.2.2.2.2.2.2.2.2.2.2.2.2.2.1,t.2.1,t.2.2.1,t.2.2.2.1,t.2.2.2.2.2.2.2.2.2.2.2.2.2.2.2.2) else none) λu=>jX u (λt=>bif aj t.2.2.2.2.2.2.2.2.2.2.2.2.2.2.2.2 then some (t.2.2.2.2.2.2.2.2.2.2.1,t.2.2.2.2.2.2.2.2.2.2.2.1,t.2.2.2.2.2.2.2.2.2.2.2.2.1,t.2.2.2.2.2.2.2.2.2.2.2.2.2.1,false,t.2.2.2.2.2.2.2.2.2.2.2.2.2.2.1,t.2.2.2.2.2.2.2.2.2.2.2.2.2.2.2.1,t.1,t.2.1,t.2.2.1,t.2.2.2.2.2.2.2.2.2.2.2.2.2.2.2.2) else none) λu=>letE u λt=>bif aj t.2.2.2.2.2.2.2.2.2.2.2.2.2.2.2.1 then some (t.2.2.2.2.2.2.2.2.2.2.1,t.2.2.2.2.2.2.2.2.2.2.2.1,t.2.2.2.2.2.2.2.2.2.2.2.2.1,t.2.2.2.2.2.2.2.2.2.2.2.2.2.1,true,t.2.2.2.2.2.2.2.2.2.2.2.2.2.2.2.2,t.2.2.2.2.2.2.2.2.2.2.2.2.2.2.1,t.1,t.2.1,t.2.2.1,t.2.2.2.2.2.2.2.2.2.2.2.2.2.2.2.1) else none
def q2(a b:Bool)(c:ak)(c1:Int)(c2:Bool)(k op:Int)(x y:aC)(ks:ak)(tg:Bool)(c3:ak):Q2:=(c,c1,c2,a,b,0,0,[],[],false,k,op,x,y,ks,tg,c3)
def q3(a b:Bool)(c:ak)(c1:Int)(c2:Bool)(k op:Int)(x y:aC)(ks:ak)(tg:Bool)(c3:ak):Q3:=(c,c1,c2,a,b,0,0,[],[],false,k,op,x,y,tg,c3,ks)
def aDC(a b:Bool)(c1:Int)(c2:Bool)(k op:Int)(x y:aC)(ks:ak)(tg:Bool)(nt:dO):inF (.inr (.inl (q2 a b (aF l) c1 c2 k op x y ks tg (encS nt))))=some (k,op,x,y,false,ks,tg,aF l,c1,c2,encS nt):=by simp only[inF,jX,q2,dR,aH]
def aDD(a b:Bool)(c1:Int)(c2:Bool)(k op:Int)(x y:aC)(ks:ak)(tg:Bool)(nt:dO):inF (.inr (.inr (q3 a b (aF l) c1 c2 k op x y ks tg (encS nt))))=some (k,op,x,y,true,ks,tg,aF l,c1,c2,encS nt):=by simp only[inF,jX,letE,q3,dR,aH]
def in3(hl:l.length<=1048576){f:Int->ak->Int->Bool->ak->Option TL}{g:Bool->Bool->ak->Int->Bool->ak->Option TP}{a b:Bool}:∀(n:Nat) (x:Xp) (i:Nat) (nt:dO) (ks:ak),i<=l.length->nt.length<=i->aB ks=cZ false x.1.kids->
  AP l ((M.jc f g (.inr (.inr (q3 a b (aF l) (i:Int) false x.1.kind x.1.op x.1.text x.1.other ks (tgt x) (encS nt))))).bind inF) (inP l n a x i nt)
 |0,_,_,_,_,_,_,_=>by rw[inP];trivial
 |n+1,x,i,nt,ks,hi,hn,hk=>by
  rw[inP,M.jc];cases hc:dP l i==24 with
  |false=>
   have hb:M.gW f g (.inr (.inr (q3 a b (aF l) (i:Int) false x.1.kind x.1.op x.1.text x.1.other ks (tgt x) (encS nt))))=some (.inr (.inr (.inr (q3 a b (aF l) (i:Int) false x.1.kind x.1.op x.1.text x.1.other ks (tgt x) (encS nt))))):=by simp only[M.gW,M.lK,q3,Bool.not_false,aH,bG,dR,dY,ah,hc]
   rw[aV hb,ah,aDD,Bool.false_and,bG];exact AP.mk rfl rfl rfl rfl hk rfl
  |true=>
   cases a with
   |true=>
    have hb:M.gW f g (.inr (.inr (q3 true b (aF l) (i:Int) false x.1.kind x.1.op x.1.text x.1.other ks (tgt x) (encS nt))))=some (.inr (.inr (.inr (q3 true b (aF l) (i:Int) false x.1.kind x.1.op x.1.text x.1.other ks (tgt x) (encS nt))))):=by simp only[M.gW,M.lK,q3,Bool.not_false,zaW,aH,bG,dR,dY,ah,hc]
    rw[aV hb,ah,aDD];simp only[zaW,Bool.and_false,bG];exact AP.mk rfl rfl rfl rfl hk rfl
   |false=>
    have hlt:=fG hc (by decide);have hb:M.gW f g (.inr (.inr (q3 false b (aF l) (i:Int) false x.1.kind x.1.op x.1.text x.1.other ks (tgt x) (encS nt))))=(M.bF (aF l) ((i+1:Nat):Int) false (encS nt)).bind λr=>some (.inl (.inr (.inr (q3 false b r.2.1 r.2.2.1 r.2.2.2.1 13 0 r.1 [] [[D.int .i64 x.1.kind,D.int .i64 x.1.op,D.str x.1.text,D.str x.1.other,D.sl true 5 ks]] false r.2.2.2.2)))):=by simp only[M.gW,M.lK,q3,Bool.not_false,aH,dR,dY,ah,hc,oI hl hlt]
    simp only[Bool.not_false,Bool.and_self,aH];cases h6:dP l (i+1)==6 with
    |false=>
     have hnm:M.bF (aF l) ((i+1:Nat):Int) false (encS nt)=some ([],aF l,((i+1:Nat):Int),true,encS nt):=by simp only[M.bF,M.iY,dR,aH,bG,dY,ah,bne,h6,Bool.not_false]
     rw[hnm,ah] at hb;rw[bQ hb,show fH _ _=_ from aV rfl,ah,nameP,h6];exact⟨_,_,_,_,_,_,_,_,(show nt.length<=l.length by omega),aDD (l:=l) _ _ _ _ _ _ _ _ _ _ _⟩
    |true=>
     have h2:=fG h6 (by decide);have hnm:M.bF (aF l) ((i+1:Nat):Int) false (encS nt)=some (Np l (i+1),aF l,((i+1+1:Nat):Int),false,encS nt):=by simp only[M.bF,M.iY,dR,aH,bG,dY,ah,bne,h6,zaW,Nq hl h2]
     rw[hnm,ah] at hb;rw[bQ hb,nameP,h6];exact in3 hl n (.mk 13 0 (Np l (i+1)) [] [x.1],false) (i+1+1) nt _ au au (fz1 hk)
def in2(hl:l.length<=1048576){f:Int->ak->Int->Bool->ak->Option TL}{g:Bool->Bool->ak->Int->Bool->ak->Option TP}{a b:Bool}:∀(n:Nat) (x:Xp) (i:Nat) (nt:dO) (ks:ak),i<=l.length->nt.length<=i->aB ks=cZ false x.1.kids->
  AP l ((M.jc f g (.inr (.inl (q2 a b (aF l) (i:Int) false x.1.kind x.1.op x.1.text x.1.other ks (tgt x) (encS nt))))).bind inF) (inP l n a x i nt)
 |0,_,_,_,_,_,_,_=>by rw[inP];trivial
 |n+1,x,i,nt,ks,hi,hn,hk=>by
  rw[inP,M.jc];cases hc:dP l i==24 with
  |false=>
   have hb:M.gW f g (.inr (.inl (q2 a b (aF l) (i:Int) false x.1.kind x.1.op x.1.text x.1.other ks (tgt x) (encS nt))))=some (.inr (.inr (.inl (q2 a b (aF l) (i:Int) false x.1.kind x.1.op x.1.text x.1.other ks (tgt x) (encS nt))))):=by simp only[M.gW,M.lK,q2,Bool.not_false,aH,bG,dR,dY,ah,hc]
   rw[aV hb,ah,aDC,Bool.false_and,bG];exact AP.mk rfl rfl rfl rfl hk rfl
  |true=>
   cases a with
   |true=>
    have hb:M.gW f g (.inr (.inl (q2 true b (aF l) (i:Int) false x.1.kind x.1.op x.1.text x.1.other ks (tgt x) (encS nt))))=some (.inr (.inr (.inl (q2 true b (aF l) (i:Int) false x.1.kind x.1.op x.1.text x.1.other ks (tgt x) (encS nt))))):=by simp only[M.gW,M.lK,q2,Bool.not_false,zaW,aH,bG,dR,dY,ah,hc]
    rw[aV hb,ah,aDC];simp only[zaW,Bool.and_false,bG];exact AP.mk rfl rfl rfl rfl hk rfl
   |false=>
    have hlt:=fG hc (by decide);have hb:M.gW f g (.inr (.inl (q2 false b (aF l) (i:Int) false x.1.kind x.1.op x.1.text x.1.other ks (tgt x) (encS nt))))=(M.bF (aF l) ((i+1:Nat):Int) false (encS nt)).bind λr=>some (.inl (.inr (.inr (q3 false b r.2.1 r.2.2.1 r.2.2.2.1 13 0 r.1 [] [[D.int .i64 x.1.kind,D.int .i64 x.1.op,D.str x.1.text,D.str x.1.other,D.sl false 5 ks]] false r.2.2.2.2)))):=by simp only[M.gW,M.lK,q2,q3,Bool.not_false,aH,dR,dY,ah,hc,oI hl hlt]
    simp only[Bool.not_false,Bool.and_self,aH];cases h6:dP l (i+1)==6 with
    |false=>
     have hnm:M.bF (aF l) ((i+1:Nat):Int) false (encS nt)=some ([],aF l,((i+1:Nat):Int),true,encS nt):=by simp only[M.bF,M.iY,dR,aH,bG,dY,ah,bne,h6,Bool.not_false]
     rw[hnm,ah] at hb;rw[bQ hb,show fH _ _=_ from aV rfl,ah,nameP,h6];exact⟨_,_,_,_,_,_,_,_,(show nt.length<=l.length by omega),aDD (l:=l) _ _ _ _ _ _ _ _ _ _ _⟩
    |true=>
     have h2:=fG h6 (by decide);have hnm:M.bF (aF l) ((i+1:Nat):Int) false (encS nt)=some (Np l (i+1),aF l,((i+1+1:Nat):Int),false,encS nt):=by simp only[M.bF,M.iY,dR,aH,bG,dY,ah,bne,h6,zaW,Nq hl h2]
     rw[hnm,ah] at hb;rw[bQ hb,nameP,h6];exact in3 hl n (.mk 13 0 (Np l (i+1)) [] [x.1],false) (i+1+1) nt _ au au (fz1 hk)
def arI{α:Type}{x:PR α}:x.sat λ_ _ _=>True:=by cases x<;>trivial
def avu{a b:Bool}:∀(n:Nat) (L:List Tn) (i:Nat) (nt:dO),(Ua l n a b L i nt).sat λL' _ _=>L.length<L'.length
 |0,_,_,_=>by rw[Ua];trivial
 |n+1,L,i,nt=>by
  rw[Ua,eY];refine bK arI λx j m _=> ?_
  rw[dX];refine⟨λ_=> ?_,λ_=> ?_⟩
  ·rw[dX];refine⟨λ_=>trivial,λ_=> ?_⟩;exact bK (avu n _ _ _) λL' _ _ h=>by rw[Gt,OW] at h;omega
  ·show L.length<(L++[x.1]).length;rw[Gt,OW];omega
def az5{i:Nat}(h32:dP l i=32)(h:ahead (l.drop i) 0=true):(dP l (i+1)==33)=false:=by
 have hlt:i<l.length:=gZ (by rw[h32];decide);obtain⟨t,ht⟩:∃t,l[i]? =some t:=⟨l[i],by simp[hlt]⟩
 have e1:t.kind=32:=by rw[dP,ht] at h32;exact h32
 rw[afM ht,ahead,e1] at h;have h':ahead (l.drop (i+1)) 1=true:=h;cases hk:l[i+1]? with
 |none=>rw[dP,hk];rfl
 |some u=>
  rw[afM hk,ahead] at h';rw[dP,hk];show(u.kind==33)=false;cases hu:u.kind==33 with
  |false=>rfl
  |true=>
   have e:u.kind=33:=by rwa [beq_iff_eq] at hu
   rw[e] at h';exact absurd (show false=true from h') Bool.false_ne_true
def az6{n i:Nat}{nt:dO}(h:(dP l i==33)=false):(QT l n 33 i nt).sat λL _ _=>1<=L.length:=by
 cases n with
 |zero=>rw[QT];trivial
 |succ n=>
  rw[QT,h,bG,eY];refine bK (avu n [] i nt) λL j m hL=> ?_
  rw[eY,Dl];exact λ_=>hL
section
variable {n m:Nat} (hl:l.length<=1048576) (H:∀n',n'<=n->∀m',4 * n'+30<=m'->RI l n' m') (hm:4 * (n+1)+30<=m+1)
include hl H hm
theorem aDE(a b:Bool)(i:Nat)(nt:dO)(hi:i<=l.length)(hn:nt.length<=i):
  AP l ((M.kC m a b (aF l) (i:Int) false (encS nt)).bind λr=>(M.jc (M.jD m) (M.kC m) (.inr (.inl (q2 a b r.2.2.2.2.2.2.2.1 r.2.2.2.2.2.2.2.2.1 r.2.2.2.2.2.2.2.2.2.1 r.1 r.2.1 r.2.2.1 r.2.2.2.1 (aB r.2.2.2.2.2.1) r.2.2.2.2.2.2.1 r.2.2.2.2.2.2.2.2.2.2)))).bind inF)
   ((ex l n 6 a b i nt).bind λx i nt=>inP l n a x i nt):=by
 have h:=H n (zaX _) m au;refine AP.elim (R:=AP l) (h.e6 a b i nt hi hn) (λ_=>trivial) (λk op x y fl ks tg j nt hn=> ?_) (λx fl ks j nt hk he=> ?_)
 ·rw[show M.jc _ _ _=_ from aV rfl,ah];exact⟨_,_,_,_,_,_,_,_,hn,aDC (l:=l) _ _ _ _ _ _ _ _ _ _ _⟩
 ·have hs:=rM (Ko au au hi) he;exact in2 hl n x j nt _ au au (NP hk)
theorem aSz(a b:Bool)(i:Nat)(nt:dO)(hi:i<=l.length)(hn:nt.length<=i):AP l (M.uU (m+1) a b (aF l) (i:Int) false (encS nt)) (ex l (n+1) 5 a b i nt):=by
 have hbare:=aDE hl H hm a b i nt hi hn;rw[M.Yk];simp only[M.yt,M.ER,M.ES,M.ET,M.wW,Bool.not_false,dR,aH,ex,dY,ah];cases h32:dP l i==32 with
 |false=>simp only[bG,Bool.false_and];exact hbare
 |true=>
  have hlt:=fG h32 (by decide);have e32:dP l i=32:=by rwa [beq_iff_eq] at h32
  simp only[aH,Bool.true_and];cases a with
  |true=>simp only[zaW,bG,Bool.false_and];exact hbare
  |false=>
   simp only[Bool.not_false,aH,Bool.true_and,dR,aDu hl i nt hi,ah];cases ha:ahead (l.drop i) 0 with
   |false=>simp only[bG,dR,aH];exact hbare
   |true=>
    simp only[aH,dR,oI hl hlt];have hne:=az5 e32 ha;obtain⟨m2,rfl⟩:∃m2,m=m2+3:=⟨m - 3,au⟩
    cases n with
    |zero=>rw[QT];trivial
    |succ n1=>
     refine AL.elim (R:=AP l) (az3 hl ((H n1 au (m2+2) au).its false false (i+1) nt au au) au au) (λ_=>trivial) (λfl ks j nt hn=> ?_) (λL fl j ZR he=> ?_)
     ·simp only[zaW,bG];rw[show M.jc _ _ _=_ from aV rfl];simp only[ah,jX,dR,aH];exact AP.jT hn
     ·have hs:=rM ((sats l (n1+1)).lst 33 (i+1) nt (by decide) au) he;have hlong:=rM (az6 (n:=n1+1) (nt:=nt) hne) he;simp only[Bool.not_false,aH,dR,dY,ah,bne,iQ];rw[o7];cases h24:dP l j==24 with
      |false=>simp only[Bool.not_false,aH,dR,atS,ah,bG];exact AP.jT au
      |true=>
       have hlt':=fG h24 (by decide);simp only[zaW,bG,aH];have hb:M.gW (M.jD (m2+3)) (M.kC (m2+3)) (.inl (cZ false L,false,aF l,(j:Int),false,false,b,0,0,[],[],false,0,0,[],[],false,encS ZR))=(M.bF (aF l) ((j+1:Nat):Int) false (encS ZR)).bind λr=>some (.inl (.inr (.inl (q2 false b r.2.1 r.2.2.1 r.2.2.2.1 13 0 r.1 [] (cZ false L) false r.2.2.2.2)))):=by simp only[M.gW,M.lK,q2,Bool.not_false,aH,dR,dY,ah,h24,oI hl hlt',dG];rw[bI hlong,aH]
       show AP l ((M.jc (M.jD (m2+3)) (M.kC (m2+3)) (.inl (cZ false L,false,aF l,(j:Int),false,false,b,0,0,[],[],false,0,0,[],[],false,encS ZR))).bind inF) ((nameP l (j+1) ZR).bind λs i nt=>inP l (n1+1) false (Tn.mk 13 0 s [] L,false) i nt);rw[M.jc];cases h6:dP l (j+1)==6 with
       |false=>
        have hnm:M.bF (aF l) ((j+1:Nat):Int) false (encS ZR)=some ([],aF l,((j+1:Nat):Int),true,encS ZR):=by simp only[M.bF,M.iY,dR,aH,bG,dY,ah,bne,h6,Bool.not_false]
        rw[hnm,ah] at hb;rw[bQ hb,show fH _ _=_ from aV rfl,ah,nameP,h6];exact⟨_,_,_,_,_,_,_,_,(show ZR.length<=l.length by omega),aDC (l:=l) _ _ _ _ _ _ _ _ _ _ _⟩
       |true=>
        have h2:=fG h6 (by decide);have hnm:M.bF (aF l) ((j+1:Nat):Int) false (encS ZR)=some (Np l (j+1),aF l,((j+1+1:Nat):Int),false,encS ZR):=by simp only[M.bF,M.iY,dR,aH,bG,dY,ah,bne,h6,zaW,Nq hl h2]
        rw[hnm,ah] at hb;rw[bQ hb,nameP,h6];exact in2 hl (n1+1) (.mk 13 0 (Np l (j+1)) [] L,false) (j+1+1) ZR _ au au (iQ _ _)
end
def ri(hl:l.length<=1048576):∀N n,n<=N->∀m,4 * n+30<=m->RI l n m:=by
 intro N;induction N with
 |zero=>intro n hn m hm;obtain rfl:n=0:=au;exact⟨λ_ _ _ _ _ _=>by rw[ex];trivial,λ_ _ _ _ _ _=>by rw[ex];trivial,λ_ _ _ _ _ _=>by rw[ex];trivial,λ_ _ _ _ _ _=>by rw[ex];trivial,λ_ _ _ _ _ _=>by rw[ex];trivial,λ_ _ _ _ _ _=>by rw[ex];trivial,λ_ _ _ _ _ _=>by rw[ex];trivial,λ_ _ _ _ _ _=>by rw[ex];trivial,λ_ _ _ _ _ _=>by rw[ex];trivial,λ_ _ _ _ _ _=>by rw[ex];trivial,λ_ _ _ _ _ _=>by rw[ex];trivial,λ_ _ _ _ _ _=>by rw[ex];trivial,λ_ _ _ _ _ _=>by rw[ex];trivial,λ_ _ _ _ _ _=>by rw[ex];trivial,λ_ _ _ _ _ _=>by rw[ex];trivial,λ_ _ _ _=>by rw[UM];trivial,λ_ _ _ _ _ _=>by rw[Ua];trivial⟩
 |succ N ih=>
  intro n hn m hm;cases n with
  |zero=>exact ih 0 au m hm
  |succ n=>
   cases m with
   |zero=>omega
   |succ m=>
    have H:∀n',n'<=n->∀m',4 * n'+30<=m'->RI l n' m':=λn' h=>ih n' au
    exact⟨aSr hl H hm,aSs hl H hm,aSt hl H hm,aSu hl H hm,aSz hl H hm,aSx hl H hm,aSy hl H hm,aSv hl H hm,aSw hl H hm,aHY hl H hm,aHZ hl H hm,aH0 hl H hm,aH1 hl H hm,aH2 hl H hm,aH5 hl H hm,aH4 hl H hm,aH3 hl H hm⟩
def RI.of(hl:l.length<=1048576)(n:Nat){m:Nat}(hm:4 * n+30<=m):RI l n m:=ri hl n n (zaX _) m hm
variable {l:List Tk}
def AT.Dx{β:Type}{o:Option TT}{j:Nat}(h:AT l o (.bad j)){f:TT->Option β}{R:Option β->Prop}
  (hb:∀k op x y fl ks nt,nt.length<=l.length->R (f (k,op,x,y,fl,ks,aF l,(j:Int),true,encS nt))):R (o.bind f):=by
 obtain⟨k,op,x,y,fl,ks,nt,h1,rfl⟩:=h;exact hb k op x y fl ks nt h1
def AT.jT{k op:Int}{x y:aC}{fl:Bool}{ks:ak}{j:Nat}{nt:dO}(hn:nt.length<=l.length):AT l (some (k,op,x,y,fl,ks,aF l,(j:Int),true,encS nt)) (.bad j):=⟨_,_,_,_,_,_,_,hn,rfl⟩
def AT.mk{x:Tn}{k op:Int}{s s':aC}{fl:Bool}{ks:ak}{j:Nat}{nt:dO}(h1:k=x.kind)(h2:op=x.op)(h3:s=x.text)(h4:s'=x.other)(h5:aB ks=cZ false x.kids):
  AT l (some (k,op,s,s',fl,ks,aF l,(j:Int),false,encS nt)) (.ok x j nt):=by
 subst h1 h2 h3 h4;exact⟨_,_,h5,rfl⟩
def AL.Dx{β:Type}{o:Option TL}{j:Nat}(h:AL l o (.bad j)){f:TL->Option β}{R:Option β->Prop}
  (hb:∀fl ks nt,nt.length<=l.length->R (f (fl,ks,aF l,(j:Int),true,encS nt))):R (o.bind f):=by
 obtain⟨fl,ks,nt,h1,rfl⟩:=h;exact hb fl ks nt h1
def AP.lim{o o':Option TP}{p:PR Xp}(h:AP l o p)(hof:∀r,o=some r->o'=some r):AP l o' p:=by
 cases p with
 |ok x j nt=>obtain⟨fl,ks,h1,h2⟩:=h;exact⟨fl,ks,h1,hof _ h2⟩
 |bad j=>obtain⟨k,op,x,y,fl,ks,tg,nt,h1,h2⟩:=h;exact⟨k,op,x,y,fl,ks,tg,nt,h1,hof _ h2⟩
 |out=>trivial
def AT.lim{o o':Option TT}{p:PR Tn}(h:AT l o p)(hof:∀r,o=some r->o'=some r):AT l o' p:=by
 cases p with
 |ok x j nt=>obtain⟨fl,ks,h1,h2⟩:=h;exact⟨fl,ks,h1,hof _ h2⟩
 |bad j=>obtain⟨k,op,x,y,fl,ks,nt,h1,h2⟩:=h;exact⟨k,op,x,y,fl,ks,nt,h1,hof _ h2⟩
 |out=>trivial
def AL.lim{o o':Option TL}{p:PR (List Tn)}(h:AL l o p)(hof:∀r,o=some r->o'=some r):AL l o' p:=by
 cases p with
 |ok x j nt=>obtain⟨fl,h2⟩:=h;exact⟨fl,hof _ h2⟩
 |bad j=>obtain⟨fl,ks,nt,h1,h2⟩:=h;exact⟨fl,ks,nt,h1,hof _ h2⟩
 |out=>trivial
section
variable (hl:l.length<=1048576)
include hl
theorem akH(n:Nat)(a b:Bool){i:Nat}{nt:dO}(hi:i<=l.length)(hn:nt.length<=i):AP l (M.bP a b (aF l) (i:Int) false (encS nt)) (ex l n 1 a b i nt):=
 AP.lim ((RI.of hl n (zaX _)).e1 a b i nt hi hn) λr h=>M.Rj h
theorem aSA(n:Nat)(a b:Bool){i:Nat}{nt:dO}(hi:i<=l.length)(hn:nt.length<=i):AP l (M.jQ a b (aF l) (i:Int) false (encS nt)) (ex l n 9 a b i nt):=
 AP.lim ((RI.of hl n (zaX _)).e9 a b i nt hi hn) λr h=>M.aeL h
theorem aSB(n:Nat)(a b:Bool){i:Nat}{nt:dO}(hi:i<=l.length)(hn:nt.length<=i):AL l (M.iW a b (aF l) (i:Int) false (encS nt)) (Ua l n a b [] i nt):=
 AL.lim ((RI.of hl n (zaX _)).its a b i nt hi hn) λr h=>M.aa5 h
theorem aH6(n:Nat){i:Nat}{nt:dO}(hi:i<=l.length)(hn:nt.length<=i):AL l (M.jg 35 (aF l) (i:Int) false (encS nt)) ((Ua l n false false [] i nt).bind λL i nt=>(o7 l 35 i nt).bind λ_ i nt=> .ok L i nt):=
 AL.lim (az2 hl ((RI.of hl n (zaX _)).its false false i nt hi hn) hi hn) λr h=>M.acn h
end
def az7(a b:Bool){i:Nat}{nt:dO}(hn:nt.length<=l.length):AP l (M.bP a b (aF l) (i:Int) true (encS nt)) (.bad i):=
 AP.lim (atU 0 hn) λr h=>M.Rj h
def aH7(b:Bool)(c:ak)(c1:Int)(c3:ak)(hf:aj c3=true):M.kN 9 false false false false c c1 b c3=(M.jQ false false c c1 b c3).bind λr=>bif aj r.2.2.2.2.2.2.2.2.2.2 then some (r.1,r.2.1,r.2.2.1,r.2.2.2.1,false,aB r.2.2.2.2.2.1,r.2.2.2.2.2.2.1,r.2.2.2.2.2.2.2.1,r.2.2.2.2.2.2.2.2.1,r.2.2.2.2.2.2.2.2.2.1,r.2.2.2.2.2.2.2.2.2.2) else none:=by simp only[M.kN,M.Gl,M.aY,bG,hf,aH];rfl
def avv(hl:l.length<=1048576)(n:Nat){i:Nat}{nt:dO}(hi:i<=l.length)(hn:nt.length<=i):AP l (M.kN 9 false false false false (aF l) (i:Int) false (encS nt)) (ex l n 9 false false i nt):=by rw[aH7 _ _ _ _ (dR nt)];exact AP.pass (aSA hl n false false hi hn) (by intros;simp only[dR,aH])
def atV(i:Nat)(nt:dO):M.jh (aF l) (i:Int) false (encS nt)=some (aF l,(i:Int), !(Uy (dP l i)),encS nt):=by simp only[M.jh,M.IQ,dR,aH,dY,ah,aov];cases Uy (dP l i)<;>rfl
def az8{k op:Int}{s s':aC}{fl:Bool}{ks:ak}{x:Tn}{j:Nat}{nt:dO}(h1:k=x.kind)(h2:op=x.op)(h3:s=x.text)(h4:s'=x.other)(h5:aB ks=cZ false x.kids)(hn:nt.length<=l.length):
  AT l (some (k,op,s,s',fl,ks,aF l,(j:Int), !(Uy (dP l j)),encS nt)) (endP l x j nt):=by
 rw[endP];cases Uy (dP l j) with
 |true=>exact AT.mk h1 h2 h3 h4 h5
 |false=>exact AT.jT hn
def az9{i:Nat}{nt:dO}(hn:nt.length<=l.length):AT l (M.ig (aF l) (i:Int) true (encS nt)) (.bad i):=by
 simp only[M.ig,M.uV,dR,aH,vk,ah];refine AP.Dx (R:=λo=>AT l o (.bad i)) (az7 false false hn) λk op x y fl ks tg nt hn=> ?_
 simp only[dR,aH,vk,ah];exact AT.jT hn
def atW(hl:l.length<=1048576)(n:Nat){i:Nat}{nt:dO}(hi:i<=l.length)(hn:nt.length<=i):AT l (M.ig (aF l) (i:Int) false (encS nt)) (Rk l n i nt):=by
 simp only[M.ig,M.uV,dR,aH,Rk];refine Ns (R:=AT l) hl (by decide) ?_ (λ_ hlt=> ?_)
 ·simp only[dR,aH];refine AP.Dx (R:=λo=>AT l o (.bad i)) (az7 false false au) λk op x y fl ks tg nt hn=> ?_
  simp only[dR,aH,vk,ah];exact AT.jT hn
 ·simp only[dR,aH];refine AP.elim (R:=AT l) (akH hl n false false au au) (λ_=>trivial) (λk op x y fl ks tg j nt hn=> ?_) (λx fl ks j nt hk he=> ?_)
  ·simp only[aH,dR,vk,ah];exact AT.jT hn
  ·have hs:=rM (Ko au au au) he;simp only[dR,aH];refine Ns (R:=AT l) hl (by decide) ?_ (λ_ hlt=> ?_)
   ·simp only[dR,aH];exact AT.jT au
   ·simp only[dR,aH];exact AT.mk rfl rfl rfl rfl (NP hk)
def Vt(e:Int)(a b:Bool){i:Nat}{nt:dO}(hn:nt.length<=l.length):AT l (M.fD e a b (aF l) (i:Int) true (encS nt)) (.bad i):=by
 simp only[M.fD,M.Ai,dR,aH,dY,ah];cases dP l i==e with
 |true=>exact AT.jT hn
 |false=>
  simp only[bG];refine AP.Dx (R:=λo=>AT l o (.bad i)) (az7 a b hn) λk op x y fl ks tg nt hn=> ?_
  simp only[dR,aH];exact AT.jT hn
def aow(hl:l.length<=1048576)(n:Nat)(e:Int)(a:Bool){i:Nat}{nt:dO}(hi:i<=l.length)(hn:nt.length<=i):AT l (M.fD e a false (aF l) (i:Int) false (encS nt)) (Jy l n e a i nt):=by
 simp only[M.fD,M.Ai,dR,aH,dY,ah,Jy];cases dP l i==e with
 |true=>exact AT.mk rfl rfl rfl rfl rfl
 |false=>
  simp only[bG];refine AP.elim (R:=AT l) (akH hl n a false hi hn) (λ_=>trivial) (λk op x y fl ks tg j nt hn=> ?_) (λx fl ks j nt hk he=> ?_)
  ·simp only[dR,aH];exact AT.jT hn
  ·simp only[dR,aH];exact AT.mk rfl rfl rfl rfl (NP hk)
def avw{i:Nat}(h:dP l i=0\/dP l i=31)(nt:dO):∀lv,1<=lv->lv<=15->∀n a b,16 - lv<=n->ex l n lv a b i nt=.bad i:=by
 have hz:∀k:Int,k≠0->k≠31->(dP l i==k)=false:=λk h0 h1=>by rw[QV];rcases h with h|h<;>rw[h]<;>omega
 have hst:isStep (dP l i)=false:=by simp only[isStep,hz 51 (by decide) (by decide),hz 52 (by decide) (by decide),Bool.or_self]
 have:∀d lv,15 - lv=d->1<=lv->lv<=15->∀n a b,16 - lv<=n->ex l n lv a b i nt=.bad i:=by
  intro d;induction d with
  |zero=>
   intro lv hd h1 h2 n a b hn;obtain rfl:lv=15:=au;obtain⟨n,rfl⟩:∃m,n=m+1:=⟨n - 1,au⟩
   simp only[ex,hz 3 (by decide) (by decide),hz 4 (by decide) (by decide),hz 5 (by decide) (by decide),hz 6 (by decide) (by decide),hz 7 (by decide) (by decide),hz 8 (by decide) (by decide),hz 32 (by decide) (by decide),bG,Bool.or_self]
  |succ d ih=>
   intro lv hd h1 h2 n a b hn;obtain⟨n,rfl⟩:∃m,n=m+1:=⟨n - 1,au⟩
   have hr:=ih (lv+1) au au au n a b au;have hc:lv=1\/lv=2\/lv=3\/lv=4\/lv=5\/lv=6\/lv=7\/lv=8\/lv=9\/lv=10\/lv=11\/lv=12\/lv=13\/lv=14:=au;rcases hc with rfl|rfl|rfl|rfl|rfl|rfl|rfl|rfl|rfl|rfl|rfl|rfl|rfl|rfl<;>simp only[ex]<;>
    simp only[hz 32 (by decide) (by decide),hz 55 (by decide) (by decide),hz 56 (by decide) (by decide),hz 61 (by decide) (by decide),hz 68 (by decide) (by decide),hst,Bool.false_and,Bool.or_self,bG,hr]<;>rfl
 exact λlv=>this _ lv rfl
variable {l:List Tk}
section
variable (hl:l.length<=1048576) (n:Nat) {i:Nat} {nt:dO} (hi:i<l.length) (hn:nt.length<=i)
include hl hi hn
theorem aAa(k:Int):AT l (bif !(Uy (dP l (i+1))) then(M.bP false false (aF l) ((i+1:Nat):Int) false (encS nt)).bind λr=>bif aj r.2.2.2.2.2.2.2.2.2.2 then
   some (k,0,[],[],true,[[D.int .i64 r.1,D.int .i64 r.2.1,D.str r.2.2.1,D.str r.2.2.2.1,D.sl false 5 (aB r.2.2.2.2.2.1)]],r.2.2.2.2.2.2.2.1,r.2.2.2.2.2.2.2.2.1,r.2.2.2.2.2.2.2.2.2.1,r.2.2.2.2.2.2.2.2.2.2) else none
  else some (k,0,[],[],true,[],aF l,((i+1:Nat):Int),false,encS nt)) (Xi l n k i nt):=by
 rw[Xi];cases Uy (dP l (i+1)) with
 |true=>exact AT.mk rfl rfl rfl rfl rfl
 |false=>
  simp only[Bool.not_false,aH,bG];refine AP.elim (R:=AT l) (akH hl n false false au au) (λ_=>trivial) (λk op x y fl ks tg j nt hn=> ?_) (λx fl ks j nt hk he=> ?_)
  ·simp only[dR,aH];exact AT.jT hn
  ·simp only[dR,aH];exact AT.mk rfl rfl rfl rfl (fz1 (NP hk))
theorem aSC:AT l ((M.bF (aF l) ((i+1:Nat):Int) false (encS nt)).bind λafO=>
  bif !afO.2.2.2.1 then
   (bif aj afO.2.2.2.2 then
   ((M.aA afO.2.1 afO.2.2.1 afO.2.2.2.1 afO.2.2.2.2).bind λakI=>
    (bif akI.1==34 then
    (bif aj akI.2.2.2.2 then
     ((M.jg 35 akI.2.1 (i64.wrap (akI.2.2.1+1)) akI.2.2.2.1 akI.2.2.2.2).bind λaxc=>
     (bif aj axc.2.2.2.2.2 then
      some (27,0,afO.1,[],false,aB axc.2.1,axc.2.2.1,axc.2.2.2.1,axc.2.2.2.2.1,axc.2.2.2.2.2) else none)) else none) else
    (bif aj akI.2.2.2.2 then
     some (27,0,afO.1,[],true,[],akI.2.1,akI.2.2.1,akI.2.2.2.1,akI.2.2.2.2) else none))) else none) else
   (bif aj afO.2.2.2.2 then
   some (27,0,afO.1,[],true,[],afO.2.1,afO.2.2.1,afO.2.2.2.1,afO.2.2.2.2) else none)) (agX l n i nt):=by
 rw[agX];refine azX (R:=AT l) hl ?_ (λ_ hlt=> ?_)
 ·simp only[zaW,bG,dR,aH];exact AT.jT au
 ·simp only[Bool.not_false,aH,dR,dY,ah];cases hc:dP l (i+1+1)==34 with
  |false=>exact AT.mk rfl rfl rfl rfl rfl
  |true=>
   have hlt':=fG hc (by decide);simp only[aH,oI hl hlt'];have e:(Ua l n false false [] (i+1+1+1) nt).bind (λL i_1 nt=>(o7 l 35 i_1 nt).bind λ_ i_2 nt=>PR.ok (Tn.mk 27 0 (Np l (i+1)) [] L) i_2 nt)=
     ((Ua l n false false [] (i+1+1+1) nt).bind λL i nt=>(o7 l 35 i nt).bind λ_ i nt=> .ok L i nt).bind λL j nt=> .ok (Tn.mk 27 0 (Np l (i+1)) [] L) j nt:=by
    cases Ua l n false false [] (i+1+1+1) nt with
    |ok L j m=>simp only[PR.bind];cases o7 l 35 j m<;>rfl
    |bad j=>rfl
    |out=>rfl
   rw[e];refine AL.elim (R:=AT l) (aH6 hl n au au) (λ_=>trivial) (λfl ks j nt hn=> ?_) (λL fl j nt he=> ?_)
   ·simp only[dR,aH];exact AT.jT hn
   ·simp only[dR,aH,iQ];exact AT.mk rfl rfl rfl rfl (iQ _ _)
end
def aSD(hl:l.length<=1048576)(n:Nat){i:Nat}{nt:dO}(hi:i<=l.length)(hn:nt.length<=i)
  (hp:∀k,k=dP l i->(k=25\/k=26)->AT l (M.oz k (aF l) ((i+1:Nat):Int) false (encS nt)) (aeU l n i nt)):
  AT l (M.mQ (aF l) (i:Int) false (encS nt)) (agY l n i nt):=by
 simp only[M.mQ,M.zk,M.xJ,M.xK,M.xM,M.xO,M.xP,M.xQ,dR,aH,dY,ah,agY];cases h25:dP l i==25 with
 |true=>
  have hlt:=fG h25 (by decide);have e:dP l i=25:=by rwa [beq_iff_eq] at h25
  simp only[aH,Bool.true_or,oI hl hlt];exact AT.pass (hp _ rfl (.inl e)) (by intros;simp only[dR,aH])
 |false=>
 cases h26:dP l i==26 with
 |true=>
  have hlt:=fG h26 (by decide);have e:dP l i=26:=by rwa [beq_iff_eq] at h26
  simp only[aH,bG,Bool.or_true,oI hl hlt];exact AT.pass (hp _ rfl (.inr e)) (by intros;simp only[dR,aH])
 |false=>
 simp only[bG,Bool.or_self];cases h20:dP l i==20 with
 |true=>
  have hlt:=fG h20 (by decide);have e:dP l i=20:=by rwa [beq_iff_eq] at h20
  have n1:(dP l i==21)=false:=by rw[e];rfl
  have n2:(dP l i==22)=false:=by rw[e];rfl
  simp only[n1,n2,aH,bG,oI hl hlt];exact AT.mk rfl rfl rfl rfl rfl
 |false=>
 cases h18:dP l i==18 with
 |true=>
  have hlt:=fG h18 (by decide);have e:dP l i=18:=by rwa [beq_iff_eq] at h18
  have n1:(dP l i==21)=false:=by rw[e];rfl
  have n2:(dP l i==22)=false:=by rw[e];rfl
  simp only[n1,n2,aH,bG,oI hl hlt];exact AT.mk rfl rfl rfl rfl rfl
 |false=>
 cases h19:dP l i==19 with
 |true=>
  have hlt:=fG h19 (by decide);have e:dP l i=19:=by rwa [beq_iff_eq] at h19
  have n1:(dP l i==21)=false:=by rw[e];rfl
  have n2:(dP l i==22)=false:=by rw[e];rfl
  simp only[n1,n2,aH,bG,oI hl hlt];exact AT.mk rfl rfl rfl rfl rfl
 |false=>
 cases h21:dP l i==21 with
 |true=>have hlt:=fG h21 (by decide);simp only[aH,bG,oI hl hlt,dY,ah,aov,dR];exact aAa hl n hlt hn 23
 |false=>
 cases h22:dP l i==22 with
 |true=>have hlt:=fG h22 (by decide);simp only[aH,bG,oI hl hlt,dY,ah,aov,dR];exact aAa hl n hlt hn 24
 |false=>
 cases h23:dP l i==23 with
 |true=>have hlt:=fG h23 (by decide);simp only[aH,bG,oI hl hlt];exact aSC hl n hlt hn
 |false=>
  simp only[bG];refine AP.elim (R:=AT l) (akH hl n false false hi hn) (λ_=>trivial) (λk op x y fl ks tg j nt hn=> ?_) (λx fl ks j nt hk he=> ?_)
  ·simp only[dR,aH];exact AT.jT hn
  ·simp only[dR,aH];exact AT.mk rfl rfl rfl rfl (fz1 (NP hk))
variable {l:List Tk}
def ALt(l:List Tk)(o:Option TL):PR (List Tn)->Prop
 | .ok L j nt=>o=some (true,cZ false L,aF l,(j:Int),false,encS nt)
 | .bad j=>∃ks nt,nt.length<=l.length/\o=some (true,ks,aF l,(j:Int),true,encS nt)
 | .out=>True
def AL.own{o:Option TL}{p:PR (List Tn)}(h:AL l o p)(ho:∀r,o=some r->r.1=true):ALt l o p:=by
 cases p with
 |ok L j nt=>obtain⟨fl,e⟩:=h;have:=ho _ e;simp only at this;subst this;exact e
 |bad j=>obtain⟨fl,ks,nt,h1,e⟩:=h;have:=ho _ e;simp only at this;subst this;exact⟨ks,nt,h1,e⟩
 |out=>trivial
def ALt.elim{β γ:Type}{R:Option β->PR γ->Prop}{o:Option TL}{p:PR (List Tn)}(h:ALt l o p){f:TL->Option β}{g:List Tn->Nat->dO->PR γ}(hout:∀o,R o .out)
  (hbad:∀ks j nt,nt.length<=l.length->R (f (true,ks,aF l,((j:Nat):Int),true,encS nt)) (.bad j))
  (hok:∀L j nt,p=.ok L j nt->R (f (true,cZ false L,aF l,(j:Int),false,encS nt)) (g L j nt)):R (o.bind f) (p.bind g):=by
 cases p with
 |ok L j nt=>have h':o=_:=h;rw[h',ah];exact hok L j nt rfl
 |bad j=>obtain⟨ks,nt,h1,rfl⟩:=h;exact hbad ks j nt h1
 |out=>exact hout _
def aDF{b:Bool}{x r:TL}(hx:x.1=true)(h:(bif b then some x else none)=some r):r.1=true:=by
 cases b with
 |true=>cases h;exact hx
 |false=>cases h
def axd{rec:Bool->Bool->ak->Int->Bool->ak->Option TP}{a b:Bool}{c:ak}{c1:Int}{c2:Bool}{c3:ak}{r:TL}(h:M.rQ rec a b c c1 c2 c3 some=some r):r.1=true:=by
 simp only[M.rQ] at h;cases hu:M.uP rec a b (c,c1,c2,[],c3) with
 |none=>rw[hu] at h;cases h
 |some u=>rw[hu,ah] at h;rcases u with t|t|t<;>simp only[jX,letE] at h<;>exact aDF rfl h
def aDG{a b:Bool}{c:ak}{c1:Int}{c2:Bool}{c3:ak}{r:TL}(h:M.iW a b c c1 c2 c3=some r):r.1=true:=by
 obtain⟨n,hn⟩:=VK h;cases n with
 |zero=>cases hn
 |succ n=>exact axd hn
def aFw(hl:l.length<=1048576)(n:Nat)(a b:Bool){i:Nat}{nt:dO}(hi:i<=l.length)(hn:nt.length<=i):ALt l (M.iW a b (aF l) (i:Int) false (encS nt)) (Ua l n a b [] i nt):=
 (aSB hl n a b hi hn).own λr h=>aDG h
def cOw(rows:ak):axK 5 [D.sl true 5 rows] 0=some rows:=rfl
def akJ{a b:Bool}:∀(n:Nat) (L:List Tn) (i:Nat) (nt:dO),L.length<6->(Ua l n a b L i nt).sat λL' _ _=>L'.length<=6
 |0,_,_,_,_=>by rw[Ua];trivial
 |n+1,L,i,nt,hL=>by
  rw[Ua,eY];refine bK arI λx j m _=> ?_
  rw[dX];refine⟨λ_=> ?_,λ_=> ?_⟩
  ·rw[dX];refine⟨λ_=>trivial,λh=> ?_⟩;have:=Nat.ne_of_beq_eq_false h;exact akJ n _ _ _ (by rw[Gt,OW];omega)
  ·show(L++[x.1]).length<=6;rw[Gt,OW];omega
section
variable (hl:l.length<=1048576) (n:Nat) (kd:Int)
include hl
theorem arJ{L:List Tn}{j:Nat}{nt:dO}(hj:j<=l.length)(hn:nt.length<=j)(hL:L.length<=6):
  AT l (bif IY (dP l j) then(M.fE (aF l) (j:Int) false (encS nt)).bind λag1=>
       (bif aj ag1.2.2.2.2 then
       ((M.kN 9 false false false false ag1.2.1 ag1.2.2.1 ag1.2.2.2.1 ag1.2.2.2.2).bind λMX=>
        (bif(((cZ false L).length+[[D.int .i64 MX.1,D.int .i64 MX.2.1,D.str MX.2.2.1,D.str MX.2.2.2.1,D.sl false 5 (aB MX.2.2.2.2.2.1)]].length) * 72).ble 140737488355328 then
        (bif((cZ false L).length+[[D.int .i64 MX.1,D.int .i64 MX.2.1,D.str MX.2.2.1,D.str MX.2.2.2.1,D.sl false 5 (aB MX.2.2.2.2.2.1)]].length).ble 140737488355328 then
         (bif aj MX.2.2.2.2.2.2.2.2.2.2 then
         some (21,kd,[],ag1.1,true,cZ false L++[[D.int .i64 MX.1,D.int .i64 MX.2.1,D.str MX.2.2.1,D.str MX.2.2.2.1,D.sl false 5 (aB MX.2.2.2.2.2.1)]],MX.2.2.2.2.2.2.2.1,MX.2.2.2.2.2.2.2.2.1,MX.2.2.2.2.2.2.2.2.2.1,MX.2.2.2.2.2.2.2.2.2.2) else none) else none) else none)) else none)
    else some (21,kd,[],[],true,cZ false L,aF l,(j:Int),false,encS nt))
   (bif IY (dP l j) then(ex l n 9 false false (j+1) nt).bind λx k nt=> .ok (.mk 21 kd [] (Np l j) (L++[x.1])) k nt else .ok (.mk 21 kd [] [] L) j nt):=by
 cases hs:IY (dP l j) with
 |false=>exact AT.mk rfl rfl rfl rfl (iQ _ _)
 |true=>
  have hlt:=gZ (akD hs);simp only[aH,Nq hl hlt,ah,dR];refine AP.elim (R:=AT l) (avv hl n au au) (λ_=>trivial) (λk op x y fl ks tg j nt hn=> ?_) (λx fl ks j nt hk he=> ?_)
  ·simp only[dG,OW,dR,aH];rw[bI au,aH,bI au,aH];exact AT.jT hn
  ·simp only[dG,OW,dR,aH,afN hk];rw[bI au,aH,bI au,aH];exact AT.mk rfl rfl rfl rfl (iQ _ _)
theorem arK{j:Nat}{nt:dO}(hj:j<=l.length)(hn:nt.length<=j):
  AT l (bif IY (dP l j) then(M.fE (aF l) (j:Int) false (encS nt)).bind λag1=>
       (bif aj ag1.2.2.2.2 then
       ((M.kN 9 false false false false ag1.2.1 ag1.2.2.1 ag1.2.2.2.1 ag1.2.2.2.2).bind λMX=>
         (bif aj MX.2.2.2.2.2.2.2.2.2.2 then
         some (21,kd,[],ag1.1,true,[[D.int .i64 MX.1,D.int .i64 MX.2.1,D.str MX.2.2.1,D.str MX.2.2.2.1,D.sl false 5 (aB MX.2.2.2.2.2.1)]],MX.2.2.2.2.2.2.2.1,MX.2.2.2.2.2.2.2.2.1,MX.2.2.2.2.2.2.2.2.2.1,MX.2.2.2.2.2.2.2.2.2.2) else none)) else none)
    else some (21,kd,[],[],true,[],aF l,(j:Int),false,encS nt))
   (bif IY (dP l j) then(ex l n 9 false false (j+1) nt).bind λx k nt=> .ok (.mk 21 kd [] (Np l j) ([]++[x.1])) k nt else .ok (.mk 21 kd [] [] []) j nt):=by
 cases hs:IY (dP l j) with
 |false=>exact AT.mk rfl rfl rfl rfl rfl
 |true=>
  have hlt:=gZ (akD hs);simp only[aH,Nq hl hlt,ah,dR];refine AP.elim (R:=AT l) (avv hl n au au) (λ_=>trivial) (λk op x y fl ks tg j nt hn=> ?_) (λx fl ks j nt hk he=> ?_)
  ·simp only[dR,aH];exact AT.jT hn
  ·simp only[dR,aH];exact AT.mk rfl rfl rfl rfl (fz1 (NP hk))
end
def aSE(hl:l.length<=1048576)(n:Nat){i:Nat}{nt:dO}(hi:i<l.length)(hn:nt.length<=i)(k:Int)(hk:k=dP l i)(h:k=25\/k=26):
  AT l (M.oz k (aF l) ((i+1:Nat):Int) false (encS nt)) (aeU l n i nt):=by
 rcases h with rfl|rfl
 ·have w0:i64.wrap ((25:Int) - 25)=0:=rfl;have w1:((0:Int)==1)=false:=rfl;have w2:((25:Int)==26)=false:=rfl;have w3:(25:Int) - 25=0:=rfl;simp only[M.oz,M.Aj,M.zh,M.zi,w0,w1,bG,dR,aH,dY,ah,aov,aeU,<-hk,w2,w3,Bool.false_or];cases hE:Uy (dP l (i+1)) with
  |true=>simp only[zaW,Bool.not_false,aH,bG,Bool.true_or,aiN,ah,dR];exact arK hl n 0 au au
  |false=>
   simp only[Bool.not_false,aH,aiN,ah,Bool.false_or];cases hS:IY (dP l (i+1)) with
   |true=>simp only[zaW,Bool.not_false,aH,bG,dR];have:=arK hl n 0 (j:=i+1) (nt:=nt) au au;rw[hS,aH,aH] at this;show AT l _ (bif IY (dP l (i+1)) then _ else _);rw[hS,aH];exact this
   |false=>
    simp only[Bool.not_false,aH,dR];refine ALt.elim (R:=AT l) (aFw hl n false true au au) (λ_=>trivial) (λks j nt hn=> ?_) (λL j nt he=> ?_)
    ·simp only[cOw,ah,zaW,bG,dR,aH];exact AT.jT hn
    ·have hs:=rM (am8 au) he;have hs6:=rM (akJ n [] _ _ (by decide)) he;simp only[cOw,ah,Bool.not_false,aH,dR,dY,aiN];exact arJ hl n 0 au au hs6
 ·have w0:i64.wrap ((26:Int) - 25)=1:=rfl;have w3:(26:Int) - 25=1:=rfl;simp only[M.oz,M.Aj,M.zh,M.zi,w0,BEq.rfl,dR,aH,aeU,<-hk,w3,Bool.true_or];refine ALt.elim (R:=AT l) (aFw hl n false true au au) (λ_=>trivial) (λks j nt hn=> ?_) (λL j nt he=> ?_)
  ·simp only[cOw,ah,zaW,bG,dR,aH];exact AT.jT hn
  ·have hs:=rM (am8 au) he;have hs6:=rM (akJ n [] _ _ (by decide)) he;simp only[cOw,ah,Bool.not_false,aH,dR,dY,aiN];exact arJ hl n 1 au au hs6
variable {l:List Tk}
structure RS(l:List Tk)(n m:Nat):Prop where
 st:∀i nt,i<=l.length->nt.length<=i->AT l (M.jO m (aF l) (i:Int) false (encS nt)) (stP l n i nt)
 blk:∀i nt,i<=l.length->nt.length<=i->AT l (M.nP m (aF l) (i:Int) false (encS nt)) (Jz l n i nt)
 body:∀i nt,i<=l.length->nt.length<=i->AT l (M.kX m (aF l) (i:Int) false (encS nt)) (Aq l n i nt)
def aeW:∀a b:ak,aB (a++b)=aB a++aB b
 |[],b=>rfl
 |r::a,b=>by rw[zca,aB,aB,aeW a b];rfl
def afP:∀(r:List Tk) (i:Nat) (nt:dO),∃u,(Ux r i nt).2=nt++u
 |[],i,nt=>⟨[],by rw[Ux,List.append_nil]⟩
 |t::r,i,nt=>by
  rw[Ux];cases(t.kind==1||t.kind==37)<;>cases t.kind==2<;>simp only[aH,bG]
  ·exact⟨[],(List.append_nil _).symm⟩
  ·obtain⟨u,h⟩:=afP r (i+1) (nt++[t.text]);exact⟨[t.text]++u,by rw[h,QW]⟩
  ·exact afP r (i+1) nt
  ·exact afP r (i+1) nt
def Wj(m:Nat){i:Nat}{nt:dO}(hn:nt.length<=l.length):AT l (M.kX (m+1) (aF l) (i:Int) true (encS nt)) (.bad i):=by rw[M.V9];simp only[Fj,M.uJ,dR,aH,IZ,ah];exact AT.jT hn
def aDH(hl:l.length<=1048576)(m:Nat){i:Nat}{nt:dO}(hn:nt.length<=l.length):AT l (M.nP (m+1) (aF l) (i:Int) true (encS nt)) (.bad i):=by rw[M.U4];simp only[M.rX,dR,aH,vk,ah,akF];rw[show M.qN _ _=_ from aV rfl];simp only[ah,jX,dR,aH,vk,Dn (l:=l) _ _ nt au,iQ,dG,Dw];rw[bI au,aH,bI au,aH];exact AT.jT (Nat.zero_le _)
section
variable {n m:Nat} (hl:l.length<=1048576) (H:∀n',n'<=n->∀m',3 * n'+10<=m'->RS l n' m') (hm:3 * (n+1)+10<=m+1)
include hl H hm
theorem aDI(i:Nat)(nt:dO)(hi:i<=l.length)(hn:nt.length<=i):AT l (M.kX (m+1) (aF l) (i:Int) false (encS nt)) (Aq l (n+1) i nt):=by
 have h:=H n (zaX _) m au;have hf:=Ph (l:=l) (nt:=nt) hi;rw[M.V9];simp only[Fj,M.uJ,dR,aH,Sl hl i nt hi hn,ah,bG,dY,Aq];generalize nl l i nt=q at hf|-;cases h30:dP l q.1==30 with
 |true=>simp only[aH];exact AT.pass (h.blk q.1 q.2 au au) (by intros;simp only[dR,aH])
 |false=>
  simp only[bG,Dn (l:=l) _ _ q.2 au,ah,cOw,dR,aH,dY];cases h37:dP l q.1==37 with
  |true=>have hlt:=fG h37 (by decide);simp only[aH,oI hl hlt];exact AT.mk rfl rfl rfl rfl (iQ _ _)
  |false=>
   simp only[bG];refine AT.elim (R:=AT l) (h.st q.1 [] au (Nat.zero_le _)) (λ_=>trivial) (λk op x y fl ks j nt hn=> ?_) (λx fl ks j nt hk he=> ?_)
   ·simp only[dG,Dw,OW,dR,aH];rw[bI au,aH,bI au,aH];exact AT.jT hn
   ·simp only[dG,Dw,OW,dR,aH];rw[bI au,aH,bI au,aH];exact AT.mk rfl rfl rfl rfl (by rw[aeW,iQ,fz1 (NP hk)];exact(yL _ _ _).symm)
def ifP(l:List Tk)(n i:Nat)(nt:dO):PR Tn:=(Rk l n i nt).bind λx i nt=>(Aq l n i nt).bind λy i nt=>bif dP l (sep l i nt).1==14 then(Aq l n ((sep l i nt).1+1) (sep l i nt).2).bind λz i nt=> .ok (.mk 28 0 [] [] [x,y,z]) i nt else .ok (.mk 28 0 [] [] [x,y]) i nt
theorem axe(i:Nat)(nt:dO)(hi:i<=l.length)(hn:nt.length<=i):AT l (M.zl m (aF l) (i:Int) false (encS nt)) (ifP l n i nt):=by
 obtain⟨m2,rfl⟩:∃m2,m=m2+1+1:=⟨m - 2,au⟩
 have h:=H n (zaX _) (m2+1) au;rw[M.abr,ifP];simp only[M.uY,dR,aH];have hbad:∀{k op:Int} {x y:aC} {fl:Bool} {ks:ak} {k' op':Int} {x' y':aC} {ks':ak} {j:Nat} {nt:dO},nt.length<=l.length->
   AT l (some (28,0,[],[],true,[[D.int .i64 k,D.int .i64 op,D.str x,D.str y,D.sl false 5 ks],[D.int .i64 k',D.int .i64 op',D.str x',D.str y',D.sl false 5 ks']],aF l,(j:Int),true,encS nt)) (.bad j):=λhn=>AT.jT hn
 refine AT.elim (R:=AT l) (atW hl n hi hn) (λ_=>trivial) (λk op x y fl ks j nt hn=> ?_) (λx fl ks j nt hk he=> ?_)
 ·simp only[dR,aH];refine AT.Dx (R:=λo=>AT l o (.bad j)) (Wj m2 hn) λk op x y fl ks nt hn=> ?_
  simp only[dR,aH,akF,ah,zaW,bG];exact AT.jT hn
 ·have hs:=rM (abY hi) he;simp only[dR,aH];refine AT.elim (R:=AT l) (h.body j nt au au) (λ_=>trivial) (λk op x y fl ks j nt hn=> ?_) (λy fl' kt j2 nt2 hk' he'=> ?_)
  ·simp only[dR,aH,akF,ah,zaW,bG];exact AT.jT hn
  ·have hs':=rM ((afL l n).body j nt au) he';have hf:=abJ (l:=l) (i:=j2) (nt:=nt2) au;obtain⟨u,hu⟩:=afP (l.drop j2) j2 nt2;have hu':(sep l j2 nt2).2=nt2++u:=hu;simp only[dR,aH,anc hl j2 nt2 au au,ah,bG,dY,bne];cases h14:dP l (sep l j2 nt2).1==14 with
   |false=>
    simp only[Bool.not_false,aH,bG,lnS];have e1:(decide (0<=(nt2.length:Int)) && decide ((nt2.length:Int)<=((sep l j2 nt2).2.length:Int)))=true:=by rw[hu',Gt,zdt au,zdt au];rfl
    have e2:List.take (nt2.length:Int).toNat (encS (sep l j2 nt2).2)=encS nt2:=by rw[hu',ztn,encS,encS,<-List.map_take];congr 1;simp
    rw[e1,aH,e2,dR,aH];exact AT.mk rfl rfl rfl rfl (fz2 (NP hk) (NP hk'))
   |true=>
    have hlt:=fG h14 (by decide);simp only[zaW,bG,aH,oI hl hlt];refine AT.elim (R:=AT l) (h.body _ _ au au) (λ_=>trivial) (λk op x y fl ks j nt hn=> ?_) (λz a0S ku j3 nt3 hk'' a0T=> ?_)
    ·simp only[dR,aH];exact AT.jT hn
    ·simp only[dR,aH];exact AT.mk rfl rfl rfl rfl (fz3 (NP hk) (NP hk') (NP hk''))
def aH8(l:List Tk)(n i:Nat)(nt:dO):PR Tn:=(Jy l n 37 true i nt).bind λx i nt=>(o7 l 37 i nt).bind λ_ i nt=>(Jy l n 37 false (nl l i nt).1 (nl l i nt).2).bind λy i nt=>(o7 l 37 i nt).bind λ_ i nt=>(Jy l n 33 false (nl l i nt).1 (nl l i nt).2).bind λz i nt=>(o7 l 33 i nt).bind λ_ i nt=>(Aq l n i nt).bind λw i nt=> .ok (.mk 31 0 [] [] [x,y,z,w]) i nt
omit hl H hm in
theorem fz4{x y z u:Tn}{kx ky kz ku:ak}(h:aB kx=cZ false x.kids)(h':aB ky=cZ false y.kids)(h'':aB kz=cZ false z.kids)(h3:aB ku=cZ false u.kids):
  aB [[.int .i64 x.kind,.int .i64 x.op,.str x.text,.str x.other,.sl false 5 kx],[.int .i64 y.kind,.int .i64 y.op,.str y.text,.str y.other,.sl false 5 ky],[.int .i64 z.kind,.int .i64 z.op,.str z.text,.str z.other,.sl false 5 kz],[.int .i64 u.kind,.int .i64 u.op,.str u.text,.str u.other,.sl false 5 ku]]=cZ false [x,y,z,u]:=by
 rw[aB,fzT x _ kx h,aB,fzT y _ ky h',aB,fzT z _ kz h'',aB,fzT u _ ku h3];rfl
omit hl H hm in
theorem aSF(m2:Nat){j:Nat}{nt:dO}(hn:nt.length<=l.length):AT l ((M.fD 37 true false (aF l) (j:Int) true (encS nt)).bind λXE=>
       (bif aj XE.2.2.2.2.2.2.2.2.2 then
        ((M.aO 37 XE.2.2.2.2.2.2.1 XE.2.2.2.2.2.2.2.1 XE.2.2.2.2.2.2.2.2.1 XE.2.2.2.2.2.2.2.2.2).bind λakK=>
        (bif aj akK.2.2.2.2 then
         ((M.aQ akK.2.1 akK.2.2.1 akK.2.2.2.1 akK.2.2.2.2).bind λakL=>
         (bif aj akL.2.2.2 then
          ((M.fD 37 false false akL.1 akL.2.1 akL.2.2.1 akL.2.2.2).bind λXF=>
          (bif aj XF.2.2.2.2.2.2.2.2.2 then
           ((M.aO 37 XF.2.2.2.2.2.2.1 XF.2.2.2.2.2.2.2.1 XF.2.2.2.2.2.2.2.2.1 XF.2.2.2.2.2.2.2.2.2).bind λagD=>
           (bif aj agD.2.2.2.2 then
            ((M.aQ agD.2.1 agD.2.2.1 agD.2.2.2.1 agD.2.2.2.2).bind λakM=>
            (bif aj akM.2.2.2 then
             ((M.fD 33 false false akM.1 akM.2.1 akM.2.2.1 akM.2.2.2).bind λXG=>
             (bif aj XG.2.2.2.2.2.2.2.2.2 then
              ((M.aO 33 XG.2.2.2.2.2.2.1 XG.2.2.2.2.2.2.2.1 XG.2.2.2.2.2.2.2.2.1 XG.2.2.2.2.2.2.2.2.2).bind λagE=>
              (bif aj agE.2.2.2.2 then
               ((M.kX (m2+1) agE.2.1 agE.2.2.1 agE.2.2.2.1 agE.2.2.2.2).bind λXH=>
               (bif aj XH.2.2.2.2.2.2.2.2.2 then
                some (31,0,[],[],true,[[D.int .i64 XE.1,D.int .i64 XE.2.1,D.str XE.2.2.1,D.str XE.2.2.2.1,D.sl false 5 (aB XE.2.2.2.2.2.1)],[D.int .i64 XF.1,D.int .i64 XF.2.1,D.str XF.2.2.1,D.str XF.2.2.2.1,D.sl false 5 (aB XF.2.2.2.2.2.1)],[D.int .i64 XG.1,D.int .i64 XG.2.1,D.str XG.2.2.1,D.str XG.2.2.2.1,D.sl false 5 (aB XG.2.2.2.2.2.1)],[D.int .i64 XH.1,D.int .i64 XH.2.1,D.str XH.2.2.1,D.str XH.2.2.2.1,D.sl false 5 (aB XH.2.2.2.2.2.1)]],XH.2.2.2.2.2.2.1,XH.2.2.2.2.2.2.2.1,XH.2.2.2.2.2.2.2.2.1,XH.2.2.2.2.2.2.2.2.2) else none)) else none)) else none)) else none)) else none)) else none)) else none)) else none)) else none)) (.bad j):=by
 refine AT.Dx (R:=λo=>AT l o (.bad j)) (Vt 37 true false hn) λk op x y fl ks nt hn=> ?_
 simp only[dR,aH,vk,ah,IZ];refine AT.Dx (R:=λo=>AT l o (.bad j)) (Vt 37 false false hn) λk op x y fl ks nt hn=> ?_
 simp only[dR,aH,vk,ah,IZ];refine AT.Dx (R:=λo=>AT l o (.bad j)) (Vt 33 false false hn) λk op x y fl ks nt hn=> ?_
 simp only[dR,aH,vk,ah,IZ];refine AT.Dx (R:=λo=>AT l o (.bad j)) (Wj m2 hn) λk op x y fl ks nt hn=> ?_
 simp only[dR,aH];exact AT.jT hn
theorem aSG(m2:Nat)(hm2:m=m2+1+1)(i:Nat)(nt:dO)(hi:i<=l.length)(hn:nt.length<=i):AT l ((M.fD 37 true false (aF l) (i:Int) false (encS nt)).bind λXE=>
       (bif aj XE.2.2.2.2.2.2.2.2.2 then
        ((M.aO 37 XE.2.2.2.2.2.2.1 XE.2.2.2.2.2.2.2.1 XE.2.2.2.2.2.2.2.2.1 XE.2.2.2.2.2.2.2.2.2).bind λakK=>
        (bif aj akK.2.2.2.2 then
         ((M.aQ akK.2.1 akK.2.2.1 akK.2.2.2.1 akK.2.2.2.2).bind λakL=>
         (bif aj akL.2.2.2 then
          ((M.fD 37 false false akL.1 akL.2.1 akL.2.2.1 akL.2.2.2).bind λXF=>
          (bif aj XF.2.2.2.2.2.2.2.2.2 then
           ((M.aO 37 XF.2.2.2.2.2.2.1 XF.2.2.2.2.2.2.2.1 XF.2.2.2.2.2.2.2.2.1 XF.2.2.2.2.2.2.2.2.2).bind λagD=>
           (bif aj agD.2.2.2.2 then
            ((M.aQ agD.2.1 agD.2.2.1 agD.2.2.2.1 agD.2.2.2.2).bind λakM=>
            (bif aj akM.2.2.2 then
             ((M.fD 33 false false akM.1 akM.2.1 akM.2.2.1 akM.2.2.2).bind λXG=>
             (bif aj XG.2.2.2.2.2.2.2.2.2 then
              ((M.aO 33 XG.2.2.2.2.2.2.1 XG.2.2.2.2.2.2.2.1 XG.2.2.2.2.2.2.2.2.1 XG.2.2.2.2.2.2.2.2.2).bind λagE=>
              (bif aj agE.2.2.2.2 then
               ((M.kX (m2+1) agE.2.1 agE.2.2.1 agE.2.2.2.1 agE.2.2.2.2).bind λXH=>
               (bif aj XH.2.2.2.2.2.2.2.2.2 then
                some (31,0,[],[],true,[[D.int .i64 XE.1,D.int .i64 XE.2.1,D.str XE.2.2.1,D.str XE.2.2.2.1,D.sl false 5 (aB XE.2.2.2.2.2.1)],[D.int .i64 XF.1,D.int .i64 XF.2.1,D.str XF.2.2.1,D.str XF.2.2.2.1,D.sl false 5 (aB XF.2.2.2.2.2.1)],[D.int .i64 XG.1,D.int .i64 XG.2.1,D.str XG.2.2.1,D.str XG.2.2.2.1,D.sl false 5 (aB XG.2.2.2.2.2.1)],[D.int .i64 XH.1,D.int .i64 XH.2.1,D.str XH.2.2.1,D.str XH.2.2.2.1,D.sl false 5 (aB XH.2.2.2.2.2.1)]],XH.2.2.2.2.2.2.1,XH.2.2.2.2.2.2.2.1,XH.2.2.2.2.2.2.2.2.1,XH.2.2.2.2.2.2.2.2.2) else none)) else none)) else none)) else none)) else none)) else none)) else none)) else none)) else none)) (aH8 l n i nt):=by
 have h:=H n (zaX _) (m2+1) au;rw[aH8];refine AT.elim (R:=AT l) (aow hl n 37 true hi hn) (λ_=>trivial) (λk op x y fl ks j nt hn=> ?_) (λx fx kx j nt hx ex=> ?_)
 ·simp only[dR,aH,vk,ah,IZ];refine AT.Dx (R:=λo=>AT l o (.bad j)) (Vt 37 false false hn) λk op x y fl ks nt hn=> ?_
  simp only[dR,aH,vk,ah,IZ];refine AT.Dx (R:=λo=>AT l o (.bad j)) (Vt 33 false false hn) λk op x y fl ks nt hn=> ?_
  simp only[dR,aH,vk,ah,IZ];refine AT.Dx (R:=λo=>AT l o (.bad j)) (Wj m2 hn) λk op x y fl ks nt hn=> ?_
  simp only[dR,aH];exact AT.jT hn
 have s1:=rM (Yt hi) ex;simp only[dR,aH];refine Ns (R:=AT l) hl (by decide) ?_ (λ_ hlt=> ?_)
 ·simp only[dR,aH,IZ,ah];have hn:nt.length<=l.length:=au;refine AT.Dx (R:=λo=>AT l o (.bad j)) (Vt 37 false false hn) λk op x y fl ks nt hn=> ?_
  simp only[dR,aH,vk,ah,IZ];refine AT.Dx (R:=λo=>AT l o (.bad j)) (Vt 33 false false hn) λk op x y fl ks nt hn=> ?_
  simp only[dR,aH,vk,ah,IZ];refine AT.Dx (R:=λo=>AT l o (.bad j)) (Wj m2 hn) λk op x y fl ks nt hn=> ?_
  simp only[dR,aH];exact AT.jT hn
 have g1:=Ph (l:=l) (i:=j+1) (nt:=nt) au;simp only[dR,aH,Sl hl (j+1) nt au au,ah];refine AT.elim (R:=AT l) (aow hl n 37 false au au) (λ_=>trivial) (λk op x y fl ks j nt hn=> ?_) (λy fy ky j nt hy ey=> ?_)
 ·simp only[dR,aH,vk,ah,IZ];refine AT.Dx (R:=λo=>AT l o (.bad j)) (Vt 33 false false hn) λk op x y fl ks nt hn=> ?_
  simp only[dR,aH,vk,ah,IZ];refine AT.Dx (R:=λo=>AT l o (.bad j)) (Wj m2 hn) λk op x y fl ks nt hn=> ?_
  simp only[dR,aH];exact AT.jT hn
 have s2:=rM (Yt au) ey;simp only[dR,aH];refine Ns (R:=AT l) hl (by decide) ?_ (λ_ hlt=> ?_)
 ·simp only[dR,aH,IZ,ah];have hn:nt.length<=l.length:=au;refine AT.Dx (R:=λo=>AT l o (.bad j)) (Vt 33 false false hn) λk op x y fl ks nt hn=> ?_
  simp only[dR,aH,vk,ah,IZ];refine AT.Dx (R:=λo=>AT l o (.bad j)) (Wj m2 hn) λk op x y fl ks nt hn=> ?_
  simp only[dR,aH];exact AT.jT hn
 have g2:=Ph (l:=l) (i:=j+1) (nt:=nt) au;simp only[dR,aH,Sl hl (j+1) nt au au,ah];refine AT.elim (R:=AT l) (aow hl n 33 false au au) (λ_=>trivial) (λk op x y fl ks j nt hn=> ?_) (λz fz kz j nt hz ez=> ?_)
 ·simp only[dR,aH,vk,ah];refine AT.Dx (R:=λo=>AT l o (.bad j)) (Wj m2 hn) λk op x y fl ks nt hn=> ?_
  simp only[dR,aH];exact AT.jT hn
 have s3:=rM (Yt au) ez;simp only[dR,aH];refine Ns (R:=AT l) hl (by decide) ?_ (λ_ hlt=> ?_)
 ·simp only[dR,aH];have hn:nt.length<=l.length:=au;refine AT.Dx (R:=λo=>AT l o (.bad j)) (Wj m2 hn) λk op x y fl ks nt hn=> ?_
  simp only[dR,aH];exact AT.jT hn
 simp only[dR,aH];refine AT.elim (R:=AT l) (h.body _ _ au au) (λ_=>trivial) (λk op x y fl ks j nt hn=> ?_) (λw fw kw j nt hw ew=> ?_)
 ·simp only[dR,aH];exact AT.jT hn
 ·simp only[dR,aH];exact AT.mk rfl rfl rfl rfl (fz4 (NP hx) (NP hy) (NP hz) (NP hw))
def lpP(l:List Tk)(n i:Nat)(nt:dO):PR Tn:=(o7 l 32 i nt).bind λ_ i nt=>(bif dP l i==6 && dP l (i+1)==24 then(nameP l (i+2) nt).bind λs j nt=>(o7 l 33 j nt).bind λ_ j nt=>(Aq l n j nt).bind λy j nt=> .ok (.mk 32 0 (Np l i) s [y]) j nt else aH8 l n i nt)
theorem aDJ(i:Nat)(nt:dO)(hi:i<=l.length)(hn:nt.length<=i):AT l (M.CX m (aF l) (i:Int) false (encS nt)) (lpP l n i nt):=by
 obtain⟨m2,hm2⟩:∃m2,m=m2+1+1:=⟨m - 2,au⟩
 subst hm2;have h:=H n (zaX _) (m2+1) au;rw[M.aeN,lpP];simp only[M.yA,M.xq,dR,aH];refine Ns (R:=AT l) hl (by decide) ?_ (λ_ hlt=> ?_)
 ·simp only[zaW,bG,dR,aH];exact aSF m2 au
 ·simp only[Bool.not_false,aH,dR,dY,ah,jI];have aH9:=aSG hl H hm m2 rfl (i+1) nt au au;cases h6:dP l (i+1)==6 with
  |false=>simp only[bG,Bool.false_and];exact aH9
  |true=>
   have aSH:=fG h6 (by decide);simp only[aH,oI hl aSH,Bool.true_and]
   by_cases hb:i+1+1<l.length
   ·obtain⟨t,ht⟩:∃t,l[i+1+1]? =some t:=⟨l[i+1+1],by simp[hb]⟩
    have e1:dP l (i+1+1)=t.kind:=by rw[dP,ht]
    rw[zdt au,aH];simp only[bZ,o8,ht,MS,ah,cT0,e1];cases h24:t.kind==24 with
    |false=>simp only[bG];exact aH9
    |true=>
     have n1:M.bF (aF l) ((i+1:Nat):Int) false (encS nt)=some (Np l (i+1),aF l,((i+1+1:Nat):Int),false,encS nt):=by simp only[M.bF,M.iY,dR,aH,bG,dY,ah,bne,h6,zaW,Nq hl aSH]
     have n2:M.aO 24 (aF l) ((i+1+1:Nat):Int) false (encS nt)=some (true,aF l,((i+1+1+1:Nat):Int),false,encS nt):=by simp only[M.aO,M.uz,dR,aH,bG,dY,ah,bne,e1,h24,zaW,oI hl hb]
     simp only[aH,n1,n2,ah,dR];refine azX (R:=AT l) hl ?_ (λ_ hlt=> ?_)
     ·simp only[dR,aH,vk,ah];refine AT.Dx (R:=λo=>AT l o (.bad (i+1+1+1))) (Wj m2 au) λk op x y fl ks nt hn=> ?_
      simp only[dR,aH];exact AT.jT hn
     ·simp only[dR,aH];refine Ns (R:=AT l) hl (by decide) ?_ (λ_ hlt=> ?_)
      ·simp only[dR,aH];refine AT.Dx (R:=λo=>AT l o (.bad (i+1+1+1+1))) (Wj m2 au) λk op x y fl ks nt hn=> ?_
       simp only[dR,aH];exact AT.jT hn
      ·simp only[dR,aH];refine AT.elim (R:=AT l) (h.body _ _ au au) (λ_=>trivial) (λk op x y fl ks j nt hn=> ?_) (λw fw kw j nt hw ew=> ?_)
       ·simp only[dR,aH];exact AT.jT hn
       ·simp only[dR,aH];exact AT.mk rfl rfl rfl rfl (fz1 (NP hw))
   ·have e0:dP l (i+1+1)=0:=by rw[dP,List.getElem?_eq_none au]
    rw[xE au,bG,e0];exact aH9
end
variable {l:List Tk}
abbrev B1:=ak×Int×Bool×Int×Int×aC×aC×Int×Int×aC×aC×ak
abbrev B2:=ak×Int×Bool×Int×Int×aC×aC×Int×Int×aC×aC×ak×ak
def b1(l:List Tk)(i:Nat)(b:Bool)(nt:dO):B1:=(aF l,(i:Int),b,0,0,[],[],33,0,[],[],encS nt)
def b2(l:List Tk)(i:Nat)(b:Bool)(nt:dO)(rows:ak):B2:=(aF l,(i:Int),b,0,0,[],[],33,0,[],[],encS nt,rows)
def atX(hl:l.length<=1048576){k:Int}(hk:k≠0){i:Nat}{nt:dO}(h:dP l i=k):M.aO k (aF l) (i:Int) false (encS nt)=some (true,aF l,((i+1:Nat):Int),false,encS nt):=by
 have hlt:i<l.length:=gZ (by rw[h];exact hk);have e:(dP l i==k)=true:=by rw[h];exact BEq.rfl
 simp only[M.aO,M.uz,dR,aH,bG,dY,ah,bne,e,zaW,oI hl hlt]
def AB(l:List Tk)(o:Option (B1⊕B2)):PR (List Tn)->Prop
 | .ok L' j ZR=>∃L0 i0 nt0 u,o=some u/\(u=.inl (b1 l i0 false nt0)/\L0=[]\/u=.inr (b2 l i0 false nt0 (cZ false L0)))/\L'=L0++WA nt0/\j=i0+1/\ZR=[]/\dP l i0=31/\nt0.length<=i0/\L0.length<=2 * l.length
 | .bad j=>∃u nt0,o=some u/\nt0.length<=l.length/\(u=.inl (b1 l j true nt0)\/∃rows:ak,rows.length<=4 * l.length+4/\u=.inr (b2 l j true nt0 rows))
 | .out=>True
def aAb(hl:l.length<=1048576){i:Nat}{nt:dO}(h:dP l i=0)(hi:i<=l.length)(hn:nt.length<=i):AT l (M.mQ (aF l) (i:Int) false (encS nt)) (.bad i):=by
 have e:ex l 20 1 false false i nt=.bad i:=avw (.inl h) nt 1 (by decide) (by decide) 20 false false (by decide);have ha:=akH hl 20 false false hi hn;rw[e] at ha;have hz:∀k:Int,k≠0->(dP l i==k)=false:=λk h0=>by rw[QV,h];exact λe=>h0 e.symm
 simp only[M.mQ,M.zk,M.xJ,M.xK,M.xM,M.xO,M.xP,M.xQ,dR,aH,dY,ah,hz 25 (by decide),hz 26 (by decide),hz 20 (by decide),hz 18 (by decide),hz 19 (by decide),hz 21 (by decide),hz 22 (by decide),hz 23 (by decide),bG];refine AP.Dx (R:=λo=>AT l o (.bad i)) ha λk op x y fl ks tg nt hn=> ?_
 simp only[dR,aH];exact AT.jT hn
def aDK(hl:l.length<=1048576)(m:Nat){i:Nat}{nt:dO}(h:dP l i=0)(hi:i<=l.length)(hn:nt.length<=i):AT l (M.jO (m+1) (aF l) (i:Int) false (encS nt)) (.bad i):=by
 have hz:∀k:Int,k≠0->(dP l i==k)=false:=λk h0=>by rw[QV,h];exact λe=>h0 e.symm
 rw[M.O5];simp only[M.nX,M.mW,dR,aH,dY,ah,hz 30 (by decide),hz 13 (by decide),hz 15 (by decide),hz 17 (by decide),hz 16 (by decide),bG];refine AT.Dx (R:=λo=>AT l o (.bad i)) (aAb hl h hi hn) λk op x y fl ks nt hn=> ?_
 simp only[zaW,bG,dR,aH];exact AT.jT hn
def arL(hl:l.length<=1048576){f:ak->Int->Bool->ak->Option TT}(hf0:∀i,dP l i=0->i<=l.length->AT l (f (aF l) (i:Int) false (encS [])) (.bad i)):
  ∀n,(∀n',n'<n->∀i nt,i<=l.length->nt.length<=i->AT l (f (aF l) (i:Int) false (encS nt)) (stP l n' i nt))->
   ∀(L:List Tn) (i:Nat) (nt:dO) (s:B1⊕B2),(s=.inl (b1 l (sep l i nt).1 false (sep l i nt).2)/\L=[]\/s=.inr (b2 l (sep l i nt).1 false (sep l i nt).2 (cZ false L)))->i<=l.length->nt.length<=i->L.length+nt.length<=2 * i->
   AB l (M.qN f s) (UN l n L i nt)
 |0,_,_,_,_,_,_,_,_,_=>by rw[UN];trivial
 |n+1,hst,L,i,nt,s,hs,hi,hn,hL=>by
  have hq:=abJ (l:=l) (i:=i) (nt:=nt) hi;simp only[UN];generalize hqe:sep l i nt=q at hs hq|-;rw[M.qN];cases h31:dP l q.1==31 with
  |true=>
   have hlt:=fG h31 (by decide);have e31:dP l q.1=31:=by rwa [beq_iff_eq] at h31
   refine⟨L,q.1,q.2,s, ?_,hs,rfl,rfl,rfl,e31,au,au⟩;rcases hs with⟨rfl,rfl⟩|rfl<;>refine aV ?_<;>
    simp only[Fj,M.rJ,M.rH,b1,b2,Bool.not_false,aH,dR,dY,ah,bne,h31,zaW,bG]
  |false=>
   have hb:M.rJ f s=(f (aF l) (q.1:Int) false (encS [])).bind λr=>
     bif(((cZ false (L++WA q.2)).length+[[D.int .i64 r.1,D.int .i64 r.2.1,D.str r.2.2.1,D.str r.2.2.2.1,D.sl false 5 (aB r.2.2.2.2.2.1)]].length) * 72).ble 140737488355328 then
      (bif((cZ false (L++WA q.2)).length+[[D.int .i64 r.1,D.int .i64 r.2.1,D.str r.2.2.1,D.str r.2.2.2.1,D.sl false 5 (aB r.2.2.2.2.2.1)]].length).ble 140737488355328 then
      (bif aj r.2.2.2.2.2.2.2.2.2 then
       ((M.bT r.2.2.2.2.2.2.1 r.2.2.2.2.2.2.2.1 r.2.2.2.2.2.2.2.2.1 r.2.2.2.2.2.2.2.2.2).bind λr'=>
       (some (.inl (.inr ((r'.1,r'.2.1,r'.2.2.1,0,0,[],[],33,0,[],[],r'.2.2.2,cZ false (L++WA q.2)++[[D.int .i64 r.1,D.int .i64 r.2.1,D.str r.2.2.1,D.str r.2.2.2.1,D.sl false 5 (aB r.2.2.2.2.2.1)]]):B2))))) else none) else none) else none:=by
    have hc:=Dn (l:=l) (q.1:Int) false q.2 au;have hlen:(L.length+q.2.length) * 72<=140737488355328:=au;rcases hs with⟨rfl,rfl⟩|rfl
    ·simp only[Fj,M.rJ,M.rH,b1,Bool.not_false,aH,dR,dY,ah,bne,h31,hc,iQ,List.nil_append];rw[show(cZ false (WA q.2)).length=q.2.length by rw[dG,Dw],bI au,aH,bI au,aH]
    ·simp only[Fj,M.rJ,M.rH,b2,Bool.not_false,aH,dR,dY,ah,bne,h31,hc,iQ,<-yL];rw[show(cZ false L).length+(cZ false (WA q.2)).length=L.length+q.2.length by rw[dG,dG,Dw],bI au,aH,bI au,aH]
   rw[bG];have hbad:∀{j:Nat},AT l (f (aF l) (q.1:Int) false (encS [])) (.bad j)->AB l (fH (M.rJ f) s) (.bad j):=by intro j hj;obtain⟨k,op,x,y,fl,ks,ZR,h1,h2⟩:=hj;rw[h2,ah] at hb;simp only[dG,Gt,Dw,OW,dR,aH,akF,ah] at hb;rw[bI au,aH,bI au,aH] at hb;rw[bQ hb];refine⟨_,ZR,aV rfl,h1,.inr ⟨_, ?_,rfl⟩⟩;simp only[Gt,dG,Dw,OW];omega
   cases h0:dP l q.1==0 with
   |true=>
    have e0:dP l q.1=0:=by rwa [beq_iff_eq] at h0
    exact hbad (hf0 q.1 e0 au)
   |false=>
    rw[bG];have hr:=hst n (Nat.lt_succ_self n) q.1 [] au (Nat.zero_le _);have arM:=(afL l n).st q.1 [] au;generalize stP l n q.1 []=p at hr arM|-;cases p with
    |out=>trivial
    |bad j=>exact hbad hr
    |ok x j m'=>obtain⟨fl,kt,h1,h2⟩:=hr;have aAc:FS l q.1 ([]:dO).length x.size j m'.length:=arM;rw[UR] at aAc;rw[h2,ah] at hb;simp only[afN h1,dG,Gt,Dw,OW,dR,aH,anc hl j m' au au,ah] at hb;rw[bI au,aH,bI au,aH] at hb;rw[bQ hb];refine arL hl hf0 n (λn' h=>hst n' au) ((L++WA q.2)++[x]) j m' _ (.inr rfl) au au ?_;simp only[Gt,Dw,OW];omega
section
variable {n m:Nat} (hl:l.length<=1048576) (H:∀n',n'<=n->∀m',3 * n'+10<=m'->RS l n' m') (hm:3 * (n+1)+10<=m+1)
include hl H hm
theorem aIa(i:Nat)(nt:dO)(hi:i<=l.length)(hn:nt.length<=i):AT l (M.nP (m+1) (aF l) (i:Int) false (encS nt)) (Jz l (n+1) i nt):=by
 obtain⟨m2,rfl⟩:∃m2,m=m2+1:=⟨m - 1,au⟩
 rw[M.U4,Jz];simp only[M.rX,dR,aH];refine Ns (R:=AT l) hl (by decide) ?_ (λ_ hlt=> ?_)
 ·simp only[dR,aH,akF,ah];rw[show M.qN _ _=_ from aV rfl];simp only[ah,jX,dR,aH,vk,Dn (l:=l) _ _ nt au,iQ,dG,Dw];rw[bI au,aH,bI au,aH];exact AT.jT (Nat.zero_le _)
 ·simp only[dR,aH,anc hl (i+1) nt au au,ah];have hloop:=arL hl (f:=M.jO (m2+1)) (λi h0 hi=>aDK hl m2 h0 hi (Nat.zero_le _)) n (λn' h i nt hi hn=>(H n' au (m2+1) au).st i nt hi hn) [] (i+1) nt (.inl (b1 l (sep l (i+1) nt).1 false (sep l (i+1) nt).2)) (.inl ⟨rfl,rfl⟩) au au (by rw[UR];omega);generalize UN l n [] (i+1) nt=p at hloop|-;rw[b1] at hloop;cases p with
  |out=>trivial
  |bad j=>
   obtain⟨u,nt0,h1,h2,h3⟩:=hloop;rw[h1,ah];rcases h3 with rfl|⟨rows,h4,rfl⟩
   ·simp only[b1,jX,dR,aH,vk,ah,Dn (l:=l) _ _ nt0 au,iQ,dG,Dw];rw[bI au,aH,bI au,aH];exact AT.jT (Nat.zero_le _)
   ·simp only[b2,jX,letE,dR,aH,vk,ah,Dn (l:=l) _ _ nt0 au,iQ,dG,Dw];rw[bI au,aH,bI au,aH];exact AT.jT (Nat.zero_le _)
  |ok L' j ZR=>
   obtain⟨L0,i0,nt0,u,h1,h2,rfl,rfl,rfl,h31,h4,h5⟩:=hloop;have hlt0:i0<l.length:=gZ (by rw[h31];decide);rw[h1,ah];rcases h2 with⟨rfl,rfl⟩|rfl
   ·simp only[b1,jX,dR,aH,atX hl (by decide) h31,ah,Dn (l:=l) _ _ nt0 au,iQ,dG,Dw];rw[bI au,aH,bI au,aH];exact AT.mk rfl rfl rfl rfl (iQ _ _)
   ·simp only[b2,jX,letE,dR,aH,atX hl (by decide) h31,ah,Dn (l:=l) _ _ nt0 au,iQ,dG,Dw,<-yL];rw[bI au,aH,bI au,aH];exact AT.mk rfl rfl rfl rfl (iQ _ _)
theorem aSI(i:Nat)(nt:dO)(hi:i<=l.length)(hn:nt.length<=i):AT l (M.jO (m+1) (aF l) (i:Int) false (encS nt)) (stP l (n+1) i nt):=by
 have h:=H n (zaX _) m au;have hbr:=axe hl H hm;have hlp:=aDJ hl H hm;obtain⟨m2,rfl⟩:∃m2,m=m2+1:=⟨m - 1,au⟩
 rw[M.O5];simp only[M.nX,M.mW,dR,aH,dY,ah,stP];cases h30:dP l i==30 with
 |true=>simp only[aH];exact AT.pass (h.blk i nt hi hn) (by intros;simp only[dR,aH])
 |false=>
 cases h13:dP l i==13 with
 |true=>have hlt:=fG h13 (by decide);simp only[aH,bG,oI hl hlt];exact AT.pass (hbr (i+1) nt au au) (by intros;simp only[dR,aH])
 |false=>
 cases h15:dP l i==15 with
 |true=>
  have hlt:=fG h15 (by decide);simp only[aH,bG,oI hl hlt];refine AT.elim (R:=AT l) (atW hl n au au) (λ_=>trivial) (λk op x y fl ks j nt hn=> ?_) (λx fx kx j nt hx ex=> ?_)
  ·simp only[dR,aH];refine AT.Dx (R:=λo=>AT l o (.bad j)) (Wj m2 hn) λk op x y fl ks nt hn=> ?_
   simp only[dR,aH];exact AT.jT hn
  ·have s1:=rM (abY au) ex;simp only[dR,aH];refine AT.elim (R:=AT l) (h.body j nt au au) (λ_=>trivial) (λk op x y fl ks j nt hn=> ?_) (λy fy ky j nt hy ey=> ?_)
   ·simp only[dR,aH];exact AT.jT hn
   ·simp only[dR,aH];exact AT.mk rfl rfl rfl rfl (fz2 (NP hx) (NP hy))
 |false=>
 cases h17:dP l i==17 with
 |true=>
  have hlt:=fG h17 (by decide);simp only[aH,bG,oI hl hlt];refine AT.elim (R:=AT l) (h.body (i+1) nt au au) (λ_=>trivial) (λk op x y fl ks j nt hn=> ?_) (λx fx kx j nt hx ex=> ?_)
  ·simp only[dR,aH,akF,vk,ah];refine AT.Dx (R:=λo=>AT l o (.bad j)) (az9 hn) λk op x y fl ks nt hn=> ?_
   simp only[zaW,bG,dR,aH];exact AT.jT hn
  ·have s1:=rM ((afL l n).body (i+1) _ au) ex;have hf:=abJ (l:=l) (i:=j) (nt:=nt) au;simp only[dR,aH,anc hl j nt au au,ah];refine Ns (R:=AT l) hl (by decide) ?_ (λ_ hlt=> ?_)
   ·simp only[dR,aH];refine AT.Dx (R:=λo=>AT l o (.bad (sep l j nt).1)) (az9 au) λk op x y fl ks nt hn=> ?_
    simp only[zaW,bG,dR,aH];exact AT.jT hn
   ·simp only[dR,aH];refine AT.elim (R:=AT l) (atW hl n au au) (λ_=>trivial) (λk op x y fl ks j nt hn=> ?_) (λy fy ky j2 nt2 hy ey=> ?_)
    ·simp only[zaW,bG,dR,aH];exact AT.jT hn
    ·have s2:=rM (abY au) ey;simp only[Bool.not_false,aH,dR,atV,ah];exact az8 rfl rfl rfl rfl (fz2 (NP hx) (NP hy)) au
 |false=>
 cases h16:dP l i==16 with
 |true=>have hlt:=fG h16 (by decide);simp only[aH,bG,oI hl hlt];exact AT.pass (hlp (i+1) nt au au) (by intros;simp only[dR,aH])
 |false=>
  simp only[bG];have hs:=aSD hl n hi hn λk hk h=>aSE hl n (gZ (by rw[<-hk];rcases h with rfl|rfl<;>decide)) hn k hk h
  refine AT.elim (R:=AT l) hs (λ_=>trivial) (λk op x y fl ks j nt hn=> ?_) (λx fx kx j nt hx ex=> ?_)
  ·simp only[zaW,bG,dR,aH];exact AT.jT hn
  ·have s1:=rM (azU hi) ex;simp only[Bool.not_false,aH,dR,atV,ah];exact az8 rfl rfl rfl rfl (NP hx) au
end
def rs(hl:l.length<=1048576):∀N n,n<=N->∀m,3 * n+10<=m->RS l n m:=by
 intro N;induction N with
 |zero=>intro n hn m hm;obtain rfl:n=0:=au;exact⟨λ_ _ _ _=>by rw[stP];trivial,λ_ _ _ _=>by rw[Jz];trivial,λ_ _ _ _=>by rw[Aq];trivial⟩
 |succ N ih=>
  intro n hn m hm;cases n with
  |zero=>exact ih 0 au m hm
  |succ n=>
   cases m with
   |zero=>omega
   |succ m=>
    have H:∀n',n'<=n->∀m',3 * n'+10<=m'->RS l n' m':=λn' h=>ih n' au
    exact⟨aSI hl H hm,aIa hl H hm,aDI hl H hm⟩
def RS.of(hl:l.length<=1048576)(n:Nat){m:Nat}(hm:3 * n+10<=m):RS l n m:=rs hl n n (zaX _) m hm
def arN(hl:l.length<=1048576)(n:Nat){i:Nat}{nt:dO}(hi:i<=l.length)(hn:nt.length<=i):AT l (M.dh (aF l) (i:Int) false (encS nt)) (Jz l n i nt):=
 AT.lim ((RS.of hl n (zaX _)).blk i nt hi hn) λr h=>M.Ut h
def avx(hl:l.length<=1048576){i:Nat}{nt:dO}(hn:nt.length<=l.length):AT l (M.dh (aF l) (i:Int) true (encS nt)) (.bad i):=
 AT.lim (aDH hl 0 hn) λr h=>M.Ut h
variable {l:List Tk}
abbrev G2:=ak×Int×Bool×Int×Int×aC×aC×Int×Int×aC×aC×ak×ak
abbrev G3:=ak×Int×Int×Int×aC×aC×Int×Int×aC×aC×ak×ak
abbrev GO:=G2⊕B1⊕G3⊕G2
def g2(l:List Tk)(x:aC)(i:Nat)(b:Bool)(nt:dO)(rows:ak):G2:=(aF l,(i:Int),b,0,0,[],[],44,0,x,[],encS nt,rows)
def g3(l:List Tk)(x:aC)(i:Nat)(nt:dO)(rows:ak):G3:=(aF l,(i:Int),0,0,[],[],44,0,x,[],encS nt,rows)
def AQ(l:List Tk)(x:aC)(o:Option GO):PR (List Tn)->Prop
 | .ok L' j ZR=>o=some (.inl (g2 l x j false ZR (cZ true L')))
 | .bad j=>∃ZR rows,ZR.length<=l.length/\rows.length<=8/\(o=some (.inl (g2 l x j true ZR rows))\/o=some (.inr (.inr (.inl (g3 l x j ZR rows)))))
 | .out=>True
def akN(hl:l.length<=1048576){i:Nat}{nt:dO}(h:(dP l i==6)=true):M.bF (aF l) (i:Int) false (encS nt)=some (Np l i,aF l,((i+1:Nat):Int),false,encS nt):=by simp only[M.bF,M.iY,dR,aH,bG,dY,ah,bne,h,zaW,Nq hl (fG h (by decide))]
def aAd{i:Nat}{nt:dO}(h:(dP l i==6)=false):M.bF (aF l) (i:Int) false (encS nt)=some ([],aF l,(i:Int),true,encS nt):=by simp only[M.bF,M.iY,dR,aH,bG,dY,ah,bne,h,Bool.not_false]
def afQ(L:List Tn)(s:aC):cZ true L++[[D.int .i64 1,D.int .i64 0,D.str s,D.str [],D.sl true 5 []]]=cZ true (L++[.mk 1 0 s [] []]):=by rw[yL];rfl
def arO(hl:l.length<=1048576)(x:aC):∀(n:Nat) (L:List Tn) (i:Nat) (nt:dO),L.length<6->i<=l.length->nt.length<=i->AQ l x (M.lF (.inr (g2 l x i false nt (cZ true L)))) (Fb l n L i nt)
 |0,_,_,_,_,_,_=>by rw[Fb];trivial
 |n+1,L,i,nt,hL,hi,hn=>by
  rw[Fb,M.lF,nameP];cases h6:dP l i==6 with
  |false=>
   have hb:M.dV (.inr (g2 l x i false nt (cZ true L)))=some (.inr (.inl (g2 l x i true nt (cZ true (L++[.mk 1 0 [] [] []]))))):=by simp only[Fj,M.dV,M.iO,g2,Bool.not_false,aH,dR,aAd h6,ah,afQ,dG,OW];rw[bI au,aH,bI au,aH]
   rw[aV hb];exact⟨nt,_,au,by rw[dG,Gt,OW];omega,.inl rfl⟩
  |true=>
   have hlt:=fG h6 (by decide);simp only[aH,PR.bind];cases hc:dP l (i+1)==36 with
   |false=>
    have hb:M.dV (.inr (g2 l x i false nt (cZ true L)))=some (.inr (.inl (g2 l x (i+1) false nt (cZ true (L++[.mk 1 0 (Np l i) [] []]))))):=by simp only[Fj,M.dV,M.iO,g2,Bool.not_false,aH,bG,dR,akN hl h6,ah,afQ,dG,OW,dY,bne,hc];rw[bI au,aH,bI au,aH]
    rw[aV hb];rfl
   |true=>
    have hlt':=fG hc (by decide);simp only[aH];cases hs:Nat.beq (L.length+1) 6 with
    |true=>
     have e:=Kr hs;have e':(((L.length+1:Nat):Int)==6)=true:=by rw[e];rfl
     have hb:M.dV (.inr (g2 l x i false nt (cZ true L)))=some (.inr (.inr (.inr (.inl (g3 l x (i+1) nt (cZ true (L++[.mk 1 0 (Np l i) [] []]))))))):=by simp only[Fj,M.dV,M.iO,g2,g3,Bool.not_false,zaW,aH,bG,dR,akN hl h6,ah,afQ,dG,OW,Gt,dY,bne,hc,e'];rw[bI au,aH,bI au,aH]
     rw[aV hb];exact⟨nt,_,au,by rw[dG,Gt,OW];omega,.inr rfl⟩
    |false=>
     have e:L.length+1≠6:=Nat.ne_of_beq_eq_false hs;have e':(((L.length+1:Nat):Int)==6)=false:=by rw[QV];omega
     have hf:=Ph (l:=l) (i:=i+1+1) (nt:=nt) au;have hb:M.dV (.inr (g2 l x i false nt (cZ true L)))=some (.inl (.inr (g2 l x (nl l (i+1+1) nt).1 false (nl l (i+1+1) nt).2 (cZ true (L++[.mk 1 0 (Np l i) [] []]))))):=by simp only[Fj,M.dV,M.iO,g2,Bool.not_false,zaW,aH,bG,dR,akN hl h6,ah,afQ,dG,OW,Gt,dY,bne,hc,e',oI hl hlt',Sl hl (i+1+1) nt au au];rw[bI au,aH,bI au,aH]
     rw[bQ hb];exact arO hl x n _ _ _ (by rw[Gt,OW];omega) au au
def axf(hl:l.length<=1048576)(x:aC)(n:Nat){i:Nat}{nt:dO}(hi:i<=l.length)(hn:nt.length<=i):
  AQ l x (M.lF (.inl (true,aF l,(i:Int),false,0,0,[],[],44,0,x,[],encS nt))) (Fb l n [] i nt):=by
 cases n with
 |zero=>rw[Fb];trivial
 |succ n=>
  have hrow:∀s:aC,[[D.int .i64 1,D.int .i64 0,D.str s,D.str [],D.sl true 5 []]]=cZ true ([]++[Tn.mk 1 0 s [] []]):=λs=>rfl
  rw[Fb,M.lF,nameP];cases h6:dP l i==6 with
  |false=>
   have hb:M.dV (.inl (true,aF l,(i:Int),false,0,0,[],[],44,0,x,[],encS nt))=some (.inr (.inl (g2 l x i true nt (cZ true ([]++[.mk 1 0 [] [] []]))))):=by simp only[Fj,M.dV,M.iO,g2,Bool.not_false,aH,dR,aAd h6,ah,hrow]
   rw[aV hb];exact⟨nt,_,au,by rw[dG];decide,.inl rfl⟩
  |true=>
   have hlt:=fG h6 (by decide);simp only[aH,PR.bind];cases hc:dP l (i+1)==36 with
   |false=>
    have hb:M.dV (.inl (true,aF l,(i:Int),false,0,0,[],[],44,0,x,[],encS nt))=some (.inr (.inl (g2 l x (i+1) false nt (cZ true ([]++[.mk 1 0 (Np l i) [] []]))))):=by simp only[Fj,M.dV,M.iO,g2,Bool.not_false,aH,bG,dR,akN hl h6,ah,hrow,dY,bne,hc]
    rw[aV hb];rfl
   |true=>
    have hlt':=fG hc (by decide);have hf:=Ph (l:=l) (i:=i+1+1) (nt:=nt) au;have hb:M.dV (.inl (true,aF l,(i:Int),false,0,0,[],[],44,0,x,[],encS nt))=some (.inl (.inr (g2 l x (nl l (i+1+1) nt).1 false (nl l (i+1+1) nt).2 (cZ true ([]++[.mk 1 0 (Np l i) [] []]))))):=by simp only[Fj,M.dV,M.iO,g2,Bool.not_false,zaW,aH,bG,dR,akN hl h6,ah,hrow,dY,bne,hc,oI hl hlt',Sl hl (i+1+1) nt au au]
    rw[bQ hb];exact arO hl x n _ _ _ (by simp) au au
def ane:∀(n:Nat) (L:List Tn) (i:Nat) (nt:dO),L.length<6->(Fb l n L i nt).sat λL' _ _=>L'.length<=6
 |0,_,_,_,_=>by rw[Fb];trivial
 |n+1,L,i,nt,hL=>by
  rw[Fb,eY,Yr];intro _;rw[dX];refine⟨λ_=> ?_,λ_=> ?_⟩
  ·rw[dX];refine⟨λ_=>trivial,λh=> ?_⟩;have:=Nat.ne_of_beq_eq_false h;exact ane n _ _ _ (by rw[Gt,OW];omega)
  ·show(L++[_]).length<=6;rw[Gt,OW];omega
noncomputable def fnC(x:aC)(c:ak)(c1:Int)(c2:Bool)(c3:ak):Option TT:=
 ((M.aO 32 c c1 c2 c3).bind λakO=>
 (bif !akO.2.2.2.1 then
 (bif aj akO.2.2.2.2 then
 ((M.aA akO.2.1 akO.2.2.1 akO.2.2.2.1 akO.2.2.2.2).bind λalE=>
 (bif alE.1 !=33 then
 ((M.lF (.inl ((true,alE.2.1,alE.2.2.1,alE.2.2.2.1,0,0,[],[],44,0,x,[],alE.2.2.2.2)))).bind λa0V=>
 jX a0V (λair=>
 (bif aj air.2.2.2.2.2.2.2.2.2.2.2.1 then
 ((M.aO 33 air.1 air.2.1 air.2.2.1 air.2.2.2.2.2.2.2.2.2.2.2.1).bind λaAe=>
 (bif aj aAe.2.2.2.2 then
 ((M.aQ aAe.2.1 aAe.2.2.1 aAe.2.2.2.1 aAe.2.2.2.2).bind λaAf=>
 (bif aj aAf.2.2.2 then
 ((M.dh aAf.1 aAf.2.1 aAf.2.2.1 aAf.2.2.2).bind λYv=>
 (bif((air.2.2.2.2.2.2.2.2.2.2.2.2.length+[[D.int IntKind.i64 Yv.1,D.int IntKind.i64 Yv.2.1,D.str Yv.2.2.1,D.str Yv.2.2.2.1,D.sl false 5 (aB Yv.2.2.2.2.2.1)]].length) * 72).ble 140737488355328 then
 (bif(air.2.2.2.2.2.2.2.2.2.2.2.2.length+[[D.int IntKind.i64 Yv.1,D.int IntKind.i64 Yv.2.1,D.str Yv.2.2.1,D.str Yv.2.2.2.1,D.sl false 5 (aB Yv.2.2.2.2.2.1)]].length).ble 140737488355328 then
 (bif aj Yv.2.2.2.2.2.2.2.2.2 then
 (some ((air.2.2.2.2.2.2.2.1,air.2.2.2.2.2.2.2.2.1,air.2.2.2.2.2.2.2.2.2.1,air.2.2.2.2.2.2.2.2.2.2.1,true,air.2.2.2.2.2.2.2.2.2.2.2.2++[[D.int IntKind.i64 Yv.1,D.int IntKind.i64 Yv.2.1,D.str Yv.2.2.1,D.str Yv.2.2.2.1,D.sl false 5 (aB Yv.2.2.2.2.2.1)]],Yv.2.2.2.2.2.2.1,Yv.2.2.2.2.2.2.2.1,Yv.2.2.2.2.2.2.2.2.1,Yv.2.2.2.2.2.2.2.2.2))) else none) else none) else none)) else none)) else none)) else none)) λa0W=>
 jX a0W (λaox=>
 (bif aj aox.2.2.2.2.2.2.2.2.2.2.2 then
 ((M.aO 33 aox.1 aox.2.1 aox.2.2.1 aox.2.2.2.2.2.2.2.2.2.2.2).bind λapP=>
 (bif aj apP.2.2.2.2 then
 ((M.aQ apP.2.1 apP.2.2.1 apP.2.2.2.1 apP.2.2.2.2).bind λaAg=>
 (bif aj aAg.2.2.2 then
 ((M.dh aAg.1 aAg.2.1 aAg.2.2.1 aAg.2.2.2).bind λalF=>
 (bif aj alF.2.2.2.2.2.2.2.2.2 then
 (some ((aox.2.2.2.2.2.2.2.1,aox.2.2.2.2.2.2.2.2.1,aox.2.2.2.2.2.2.2.2.2.1,aox.2.2.2.2.2.2.2.2.2.2.1,true,[[D.int IntKind.i64 alF.1,D.int IntKind.i64 alF.2.1,D.str alF.2.2.1,D.str alF.2.2.2.1,D.sl false 5 (aB alF.2.2.2.2.2.1)]],alF.2.2.2.2.2.2.1,alF.2.2.2.2.2.2.2.1,alF.2.2.2.2.2.2.2.2.1,alF.2.2.2.2.2.2.2.2.2))) else none)) else none)) else none)) else none)) λa0X=>
 jX a0X (λakP=>
 (bif aj akP.2.2.2.2.2.2.2.2.2.2.1 then
 ((M.aO 33 akP.1 akP.2.1 true akP.2.2.2.2.2.2.2.2.2.2.1).bind λaAh=>
 (bif aj aAh.2.2.2.2 then
 ((M.aQ aAh.2.1 aAh.2.2.1 aAh.2.2.2.1 aAh.2.2.2.2).bind λaAi=>
 (bif aj aAi.2.2.2 then
 ((M.dh aAi.1 aAi.2.1 aAi.2.2.1 aAi.2.2.2).bind λYw=>
 (bif((akP.2.2.2.2.2.2.2.2.2.2.2.length+[[D.int IntKind.i64 Yw.1,D.int IntKind.i64 Yw.2.1,D.str Yw.2.2.1,D.str Yw.2.2.2.1,D.sl false 5 (aB Yw.2.2.2.2.2.1)]].length) * 72).ble 140737488355328 then
 (bif(akP.2.2.2.2.2.2.2.2.2.2.2.length+[[D.int IntKind.i64 Yw.1,D.int IntKind.i64 Yw.2.1,D.str Yw.2.2.1,D.str Yw.2.2.2.1,D.sl false 5 (aB Yw.2.2.2.2.2.1)]].length).ble 140737488355328 then
 (bif aj Yw.2.2.2.2.2.2.2.2.2 then
 (some ((akP.2.2.2.2.2.2.1,akP.2.2.2.2.2.2.2.1,akP.2.2.2.2.2.2.2.2.1,akP.2.2.2.2.2.2.2.2.2.1,true,akP.2.2.2.2.2.2.2.2.2.2.2++[[D.int IntKind.i64 Yw.1,D.int IntKind.i64 Yw.2.1,D.str Yw.2.2.1,D.str Yw.2.2.2.1,D.sl false 5 (aB Yw.2.2.2.2.2.1)]],Yw.2.2.2.2.2.2.1,Yw.2.2.2.2.2.2.2.1,Yw.2.2.2.2.2.2.2.2.1,Yw.2.2.2.2.2.2.2.2.2))) else none) else none) else none)) else none)) else none)) else none)) λa0Y=>
 letE a0Y λais=>
 (bif aj ais.2.2.2.2.2.2.2.2.2.2.2.1 then
 ((M.aO 33 ais.1 ais.2.1 ais.2.2.1 ais.2.2.2.2.2.2.2.2.2.2.2.1).bind λato=>
 (bif aj ato.2.2.2.2 then
 ((M.aQ ato.2.1 ato.2.2.1 ato.2.2.2.1 ato.2.2.2.2).bind λatp=>
 (bif aj atp.2.2.2 then
 ((M.dh atp.1 atp.2.1 atp.2.2.1 atp.2.2.2).bind λWx=>
 (bif((ais.2.2.2.2.2.2.2.2.2.2.2.2.length+[[D.int IntKind.i64 Wx.1,D.int IntKind.i64 Wx.2.1,D.str Wx.2.2.1,D.str Wx.2.2.2.1,D.sl false 5 (aB Wx.2.2.2.2.2.1)]].length) * 72).ble 140737488355328 then
 (bif(ais.2.2.2.2.2.2.2.2.2.2.2.2.length+[[D.int IntKind.i64 Wx.1,D.int IntKind.i64 Wx.2.1,D.str Wx.2.2.1,D.str Wx.2.2.2.1,D.sl false 5 (aB Wx.2.2.2.2.2.1)]].length).ble 140737488355328 then
 (bif aj Wx.2.2.2.2.2.2.2.2.2 then
 (some ((ais.2.2.2.2.2.2.2.1,ais.2.2.2.2.2.2.2.2.1,ais.2.2.2.2.2.2.2.2.2.1,ais.2.2.2.2.2.2.2.2.2.2.1,true,ais.2.2.2.2.2.2.2.2.2.2.2.2++[[D.int IntKind.i64 Wx.1,D.int IntKind.i64 Wx.2.1,D.str Wx.2.2.1,D.str Wx.2.2.2.1,D.sl false 5 (aB Wx.2.2.2.2.2.1)]],Wx.2.2.2.2.2.2.1,Wx.2.2.2.2.2.2.2.1,Wx.2.2.2.2.2.2.2.2.1,Wx.2.2.2.2.2.2.2.2.2))) else none) else none) else none)) else none)) else none)) else none)) else
 (bif aj alE.2.2.2.2 then
 ((M.aO 33 alE.2.1 alE.2.2.1 alE.2.2.2.1 alE.2.2.2.2).bind λatn=>
 (bif aj atn.2.2.2.2 then
 ((M.aQ atn.2.1 atn.2.2.1 atn.2.2.2.1 atn.2.2.2.2).bind λaAj=>
 (bif aj aAj.2.2.2 then
 ((M.dh aAj.1 aAj.2.1 aAj.2.2.1 aAj.2.2.2).bind λalG=>
 (bif aj alG.2.2.2.2.2.2.2.2.2 then
 (some ((44,0,x,[],true,[[D.int IntKind.i64 alG.1,D.int IntKind.i64 alG.2.1,D.str alG.2.2.1,D.str alG.2.2.2.1,D.sl false 5 (aB alG.2.2.2.2.2.1)]],alG.2.2.2.2.2.2.1,alG.2.2.2.2.2.2.2.1,alG.2.2.2.2.2.2.2.2.1,alG.2.2.2.2.2.2.2.2.2))) else none)) else none)) else none)) else none))) else none) else
 (bif aj akO.2.2.2.2 then
 ((M.aO 33 akO.2.1 akO.2.2.1 akO.2.2.2.1 akO.2.2.2.2).bind λaAk=>
 (bif aj aAk.2.2.2.2 then
 ((M.aQ aAk.2.1 aAk.2.2.1 aAk.2.2.2.1 aAk.2.2.2.2).bind λaAl=>
 (bif aj aAl.2.2.2 then
 ((M.dh aAl.1 aAl.2.1 aAl.2.2.1 aAl.2.2.2).bind λalH=>
 (bif aj alH.2.2.2.2.2.2.2.2.2 then
 (some ((44,0,x,[],true,[[D.int IntKind.i64 alH.1,D.int IntKind.i64 alH.2.1,D.str alH.2.2.1,D.str alH.2.2.2.1,D.sl false 5 (aB alH.2.2.2.2.2.1)]],alH.2.2.2.2.2.2.1,alH.2.2.2.2.2.2.2.1,alH.2.2.2.2.2.2.2.2.1,alH.2.2.2.2.2.2.2.2.2))) else none)) else none)) else none)) else none)))
def fpP(l:List Tk)(n:Nat)(x:aC)(j:Nat)(nt:dO):PR Tn:=(o7 l 32 j nt).bind λ_ j nt=>(bif dP l j==33 then .ok [] j nt else Fb l n [] j nt).bind λL j nt=>(o7 l 33 j nt).bind λ_ j nt=>(Jz l n (nl l j nt).1 (nl l j nt).2).bind λb j nt=> .ok (.mk 44 0 x [] (L++[b])) j nt
def aFx(hl:l.length<=1048576)(n:Nat)(x:aC){i:Nat}{nt:dO}(hi:i<=l.length)(hn:nt.length<=i):AT l (fnC x (aF l) (i:Int) false (encS nt)) (fpP l n x i nt):=by
 rw[fnC,fpP];refine Ns (R:=AT l) hl (by decide) ?_ (λ_ hlt=> ?_)
 ·simp only[zaW,bG,dR,aH,vk,ah,IZ];refine AT.Dx (R:=λo=>AT l o (.bad i)) (avx hl au) λk op x y fl ks nt hn=> ?_
  simp only[dR,aH];exact AT.jT hn
 ·simp only[Bool.not_false,aH,dR,dY,ah,bne];cases h33:dP l (i+1)==33 with
  |true=>
   simp only[zaW,bG,dR,aH,PR.bind];have e33:dP l (i+1)=33:=by rwa [beq_iff_eq] at h33
   have hlt':=fG h33 (by decide);have hf:=Ph (l:=l) (i:=i+1+1) (nt:=nt) au;simp only[o7,h33,aH,atX hl (by decide) e33,ah,dR,Sl hl (i+1+1) nt au au];refine AT.elim (R:=AT l) (arN hl n au au) (λ_=>trivial) (λk op x y fl ks j nt hn=> ?_) (λb fb kb j nt hb eb=> ?_)
   ·simp only[dR,aH];exact AT.jT hn
   ·simp only[dR,aH];exact AT.mk rfl rfl rfl rfl (fz1 (NP hb))
  |false=>
   simp only[Bool.not_false,aH,bG];have hp:=axf hl x n (i:=i+1) (nt:=nt) au au;have arM:=aou (l:=l) n [] (i+1) nt au;have h6:(Fb l n [] (i+1) nt).sat λL _ _=>L.length<=6:=ane n [] (i+1) nt (by decide)
   generalize Fb l n [] (i+1) nt=p at hp arM h6|-;cases p with
   |out=>trivial
   |bad j=>
    obtain⟨ZR,rows,h1,h2,h3|h3⟩:=hp
    ·rw[h3,ah];simp only[g2,jX,dR,aH,vk,ah,IZ];refine AT.Dx (R:=λo=>AT l o (.bad j)) (avx hl h1) λk op x y fl ks nt hn=> ?_
     simp only[OW,dR,aH];rw[bI au,aH,bI au,aH];exact AT.jT hn
    ·rw[h3,ah];simp only[g3,jX,dR,aH,vk,ah,IZ];refine AT.Dx (R:=λo=>AT l o (.bad j)) (avx hl h1) λk op x y fl ks nt hn=> ?_
     simp only[OW,dR,aH];rw[bI au,aH,bI au,aH];exact AT.jT hn
   |ok L j m=>
    have hp':_=_:=hp;have hs':i+1<j/\FN l (i+1) nt.length j m.length/\sizes L+m.length+6 * (i+1)<=sizes ([]:List Tn)+nt.length+6 * j:=arM;have h6':L.length<=6:=h6;rw[hp',ah];simp only[g2,jX,dR,aH,PR.bind];refine Ns (R:=AT l) hl (by decide) ?_ (λ_ hlt=> ?_)
    ·simp only[dR,aH,IZ,ah];refine AT.Dx (R:=λo=>AT l o (.bad j)) (avx hl au) λk op x y fl ks nt hn=> ?_
     simp only[OW,dG,dR,aH];rw[bI au,aH,bI au,aH];exact AT.jT hn
    ·have hf:=Ph (l:=l) (i:=j+1) (nt:=m) au;simp only[dR,aH,Sl hl (j+1) m au au,ah];refine AT.elim (R:=AT l) (arN hl n au au) (λ_=>trivial) (λk op x y fl ks j nt hn=> ?_) (λb fb kb j nt hb eb=> ?_)
     ·simp only[OW,dG,dR,aH];rw[bI au,aH,bI au,aH];exact AT.jT hn
     ·simp only[OW,dG,dR,aH];rw[bI au,aH,bI au,aH];exact AT.mk rfl rfl rfl rfl (by rw[aeW,iQ,fz1 (NP hb)];exact(yL _ _ _).symm)
def aSJ(hl:l.length<=1048576)(n:Nat){i:Nat}{nt:dO}(hi:i<=l.length)(hn:nt.length<=i):AT l (M.oH (aF l) (i:Int) false (encS nt)) (agZ l n i nt):=by
 simp only[M.oH,M.A8,M.CY,M.CZ,M.zF,dR,aH,dY,ah,bne,agZ];cases h6:dP l i==6 with
 |true=>have hlt:=fG h6 (by decide);simp only[zaW,bG,dR,aH,Nq hl hlt,ah,Bool.true_or];exact aFx hl n (Np l i) au au
 |false=>
  simp only[Bool.not_false,aH,Bool.false_or];cases h7:dP l i==7 with
  |true=>have hlt:=fG h7 (by decide);simp only[zaW,bG,dR,aH,Nq hl hlt,ah];exact aFx hl n (Np l i) au au
  |false=>simp only[Bool.not_false,aH,bG,dR];exact AT.jT au
def aAm{k op:Int}{s s':aC}{fl:Bool}{ks:ak}{x:Tn}{j:Nat}{nt:dO}(h1:k=x.kind)(h2:op=x.op)(h3:s=x.text)(h4:s'=x.other)(h5:aB ks=cZ false x.kids)(hn:nt.length<=l.length):
  AT l ((M.jh (aF l) (j:Int) false (encS nt)).bind λr=>bif aj r.2.2.2 then some (k,op,s,s',fl,ks,r.1,r.2.1,r.2.2.1,r.2.2.2) else none) (endP l x j nt):=by
 rw[atV,ah];simp only[dR,aH];exact az8 h1 h2 h3 h4 h5 hn
def aoy(hl:l.length<=1048576)(n:Nat)(k op:Int){i:Nat}{nt:dO}(hi:i<=l.length)(hn:nt.length<=i):
  AT l ((M.dh (aF l) (i:Int) false (encS nt)).bind λr=>bif aj r.2.2.2.2.2.2.2.2.2 then some (k,op,[],[],true,[[D.int .i64 r.1,D.int .i64 r.2.1,D.str r.2.2.1,D.str r.2.2.2.1,D.sl false 5 (aB r.2.2.2.2.2.1)]],r.2.2.2.2.2.2.1,r.2.2.2.2.2.2.2.1,r.2.2.2.2.2.2.2.2.1,r.2.2.2.2.2.2.2.2.2) else none)
   ((Jz l n i nt).bind λb i nt=> .ok (.mk k op [] [] [b]) i nt):=by
 refine AT.elim (R:=AT l) (arN hl n hi hn) (λ_=>trivial) (λk op x y fl ks j nt hn=> ?_) (λb fb kb j nt hb eb=> ?_)
 ·simp only[dR,aH];exact AT.jT hn
 ·simp only[dR,aH];exact AT.mk rfl rfl rfl rfl (fz1 (NP hb))
def aAn(hl:l.length<=1048576)(n:Nat){i:Nat}{nt:dO}(hi:i<=l.length)(hn:nt.length<=i):AT l (M.lZ (aF l) (i:Int) false (encS nt)) (Rl l n i nt):=by
 simp only[M.lZ,M.IU,M.Gm,M.Gn,dR,aH,dY,ah,Rl];cases h10:dP l i==10 with
 |true=>have hlt:=fG h10 (by decide);simp only[aH,oI hl hlt];exact aoy hl n 40 0 au au
 |false=>
 cases h11:dP l i==11 with
 |true=>have hlt:=fG h11 (by decide);simp only[aH,bG,oI hl hlt];exact aoy hl n 41 0 au au
 |false=>
 cases h12:dP l i==12 with
 |true=>have hlt:=fG h12 (by decide);simp only[aH,bG,oI hl hlt];exact AT.pass (aSJ hl n au au) (by intros;simp only[dR,aH])
 |false=>
 cases h30:dP l i==30 with
 |true=>simp only[aH,bG];exact aoy hl n 42 2 hi hn
 |false=>
 simp only[bG];refine AP.elim (R:=AT l) (akH hl n false false hi hn) (λ_=>trivial) (λk op x y fl ks tg j nt hn=> ?_) (λx fx kx j nt hx ex=> ?_)
 ·simp only[zaW,bG,dR,aH];exact AT.jT hn
 ·have s1:=rM (Ko au au hi) ex;simp only[Bool.not_false,aH,dR,dY,ah];cases h36:dP l j==36 with
  |false=>
   simp only[bG,PR.bind];cases hb:dP l j==30 with
   |false=>simp only[bG];exact aAm rfl rfl rfl rfl (fz1 (NP hx)) au
   |true=>
    simp only[aH];refine AT.elim (R:=AT l) (arN hl n au au) (λ_=>trivial) (λk op x y fl ks j nt hn=> ?_) (λb fb kb j nt hb eb=> ?_)
    ·simp only[dR,aH];exact AT.jT hn
    ·simp only[dR,aH];exact AT.mk rfl rfl rfl rfl (by rw[aeW,fz1 (NP hx),fz1 (NP hb)];rfl)
  |true=>
   have hlt:=fG h36 (by decide);have hf:=Ph (l:=l) (i:=j+1) (nt:=nt) au;simp only[aH,oI hl hlt,Sl hl (j+1) nt au au,ah,dR];have e:∀p:PR Xp,((p.bind λy i nt=>PR.ok ((43:Int),[x.1,y.1]) i nt).bind λq i nt=>bif dP l i==30 then(Jz l n i nt).bind λb i nt=>PR.ok (Tn.mk q.1 3 [] [] (q.2++[b])) i nt else endP l (Tn.mk q.1 1 [] [] q.2) i nt)=
     p.bind λy i nt=>bif dP l i==30 then(Jz l n i nt).bind λb i nt=>PR.ok (Tn.mk 43 3 [] [] ([x.1,y.1]++[b])) i nt else endP l (Tn.mk 43 1 [] [] [x.1,y.1]) i nt:=by
    intro p;cases p<;>rfl
   rw[e];refine AP.elim (R:=AT l) (akH hl n false false au au) (λ_=>trivial) (λk op x y fl ks tg j nt hn=> ?_) (λy fy ky j nt hy ey=> ?_)
   ·simp only[zaW,bG,dR,aH];exact AT.jT hn
   ·have s2:=rM (Ko au au au) ey;simp only[Bool.not_false,aH,dR,dY,ah];cases hb:dP l j==30 with
    |false=>simp only[bG];exact aAm rfl rfl rfl rfl (by rw[aeW,fz1 (NP hx),fz1 (NP hy)];rfl) au
    |true=>
     simp only[aH];refine AT.elim (R:=AT l) (arN hl n au au) (λ_=>trivial) (λk op x y fl ks j nt hn=> ?_) (λb fb kb j nt hb eb=> ?_)
     ·simp only[dR,aH];exact AT.jT hn
     ·simp only[dR,aH];exact AT.mk rfl rfl rfl rfl (by rw[aeW,aeW,fz1 (NP hx),fz1 (NP hy),fz1 (NP hb)];rfl)
def axg(hl:l.length<=1048576){i:Nat}{nt:dO}(h:dP l i=31)(hi:i<=l.length)(hn:nt.length<=i):AT l (M.lZ (aF l) (i:Int) false (encS nt)) (.bad i):=by
 have e:Rl l 20 i nt=.bad i:=by
  have e:ex l 20 1 false false i nt=.bad i:=avw (.inr h) nt 1 (by decide) (by decide) 20 false false (by decide);have h1:(dP l i==10)=false:=by rw[h];rfl
  have h2:(dP l i==11)=false:=by rw[h];rfl
  have h3:(dP l i==12)=false:=by rw[h];rfl
  have h4:(dP l i==30)=false:=by rw[h];rfl
  simp only[Rl,h1,h2,h3,h4,bG,e];rfl
 have:=aAn hl 20 hi hn
 rwa [e] at this
variable {l:List Tk}
abbrev P1:=ak×Int×Int×ak×Int×Bool×Int×Int×aC×aC×ak
abbrev P2:=ak×Int×Int×ak×Int×Bool×Int×Int×aC×aC×ak×ak
def p1(l:List Tk)(i:Nat)(b:Bool)(nt:dO):P1:=(aF l,0,0,aF l,(i:Int),b,45,0,[],[],encS nt)
def p2(l:List Tk)(i:Nat)(b:Bool)(nt:dO)(rows:ak):P2:=(aF l,0,0,aF l,(i:Int),b,45,0,[],[],encS nt,rows)
def AD(l:List Tk)(o:Option (P1⊕P2)):PR (List Tn)->Prop
 | .ok L' j ZR=>∃L0 i0 nt0 u,o=some u/\(u=.inl (p1 l i0 false nt0)/\L0=[]\/u=.inr (p2 l i0 false nt0 (cZ false L0)))/\L'=L0++WA nt0/\nt0.length<=l.length/\L0.length<=2 * l.length
 | .bad j=>∃u nt0,o=some u/\(u=.inl (p1 l j true nt0)\/∃rows:ak,u=.inr (p2 l j true nt0 rows))
 | .out=>True
def anf(hl:l.length<=1048576)(hk:∀i,i<l.length->dP l i≠0):
  ∀n,∀(L:List Tn) (i:Nat) (nt:dO) (s:P1⊕P2),(s=.inl (p1 l (sep l i nt).1 false (sep l i nt).2)/\L=[]\/s=.inr (p2 l (sep l i nt).1 false (sep l i nt).2 (cZ false L)))->i<=l.length->nt.length<=i->L.length+nt.length<=2 * i->
   AD l (M.Am s) (Ig l n L i nt)
 |0,_,_,_,_,_,_,_,_=>by rw[Ig];trivial
 |n+1,L,i,nt,s,hs,hi,hn,hL=>by
  have hq:=abJ (l:=l) (i:=i) (nt:=nt) hi;simp only[Ig];generalize hqe:sep l i nt=q at hs hq|-;rw[M.Am];cases h0:dP l q.1==0 with
  |true=>
   have e0:dP l q.1=0:=by rwa [beq_iff_eq] at h0
   have hge:¬q.1<l.length:=λh=>hk q.1 h e0
   refine⟨L,q.1,q.2,s, ?_,hs,rfl,au,au⟩;rcases hs with⟨rfl,rfl⟩|rfl<;>refine aV ?_<;>simp only[Fj,M.sK,M.sJ,p1,p2,Bool.not_false,aH,jI]<;>
    rw[xE au,bG]
  |false=>
   have hlt:q.1<l.length:=gZ (by rwa [QV] at h0);have hb:M.sK s=(M.lZ (aF l) (q.1:Int) false (encS [])).bind λr=>
     bif(((cZ false (L++WA q.2)).length+[[D.int .i64 r.1,D.int .i64 r.2.1,D.str r.2.2.1,D.str r.2.2.2.1,D.sl false 5 (aB r.2.2.2.2.2.1)]].length) * 72).ble 140737488355328 then
      (bif((cZ false (L++WA q.2)).length+[[D.int .i64 r.1,D.int .i64 r.2.1,D.str r.2.2.1,D.str r.2.2.2.1,D.sl false 5 (aB r.2.2.2.2.2.1)]].length).ble 140737488355328 then
      (bif aj r.2.2.2.2.2.2.2.2.2 then
       ((M.bT r.2.2.2.2.2.2.1 r.2.2.2.2.2.2.2.1 r.2.2.2.2.2.2.2.2.1 r.2.2.2.2.2.2.2.2.2).bind λr'=>
       (some (.inl (.inr ((aF l,0,0,r'.1,r'.2.1,r'.2.2.1,45,0,[],[],r'.2.2.2,cZ false (L++WA q.2)++[[D.int .i64 r.1,D.int .i64 r.2.1,D.str r.2.2.1,D.str r.2.2.2.1,D.sl false 5 (aB r.2.2.2.2.2.1)]]):P2))))) else none) else none) else none:=by
    have hc:=Dn (l:=l) (q.1:Int) false q.2 au;have hlen:(L.length+q.2.length) * 72<=140737488355328:=au;rcases hs with⟨rfl,rfl⟩|rfl
    ·simp only[Fj,M.sK,M.sJ,p1,Bool.not_false,aH,jI];rw[zdt au,aH];simp only[aH,dR,ah,hc,iQ,List.nil_append];rw[show(cZ false (WA q.2)).length=q.2.length by rw[dG,Dw],bI au,aH,bI au,aH]
    ·simp only[Fj,M.sK,M.sJ,p2,Bool.not_false,aH,jI];rw[zdt au,aH];simp only[aH,dR,ah,hc,iQ,<-yL];rw[show(cZ false L).length+(cZ false (WA q.2)).length=L.length+q.2.length by rw[dG,dG,Dw],bI au,aH,bI au,aH]
   rw[bG];have hbad:∀{j:Nat},AT l (M.lZ (aF l) (q.1:Int) false (encS [])) (.bad j)->AD l (fH M.sK s) (.bad j):=by intro j hj;obtain⟨k,op,x,y,fl,ks,ZR,h1,h2⟩:=hj;rw[h2,ah] at hb;simp only[dG,Gt,Dw,OW,dR,aH,akF,ah] at hb;rw[bI au,aH,bI au,aH] at hb;rw[bQ hb];exact⟨_,ZR,aV rfl,.inr ⟨_,rfl⟩⟩
   cases h31:dP l q.1==31 with
   |true=>
    have e31:dP l q.1=31:=by rwa [beq_iff_eq] at h31
    exact hbad (axg hl e31 au (Nat.zero_le _))
   |false=>
    rw[bG];have hr:=aAn hl n (i:=q.1) (nt:=[]) au (Nat.zero_le _);have arM:=avp (l:=l) (n:=n) (i:=q.1) (nt:=[]) au;generalize Rl l n q.1 []=p at hr arM|-;cases p with
    |out=>trivial
    |bad j=>exact hbad hr
    |ok x j m'=>obtain⟨fl,kt,h1,h2⟩:=hr;have aAc:FS l q.1 ([]:dO).length x.size j m'.length:=arM;rw[UR] at aAc;rw[h2,ah] at hb;simp only[afN h1,dG,Gt,Dw,OW,dR,aH,anc hl j m' au au,ah] at hb;rw[bI au,aH,bI au,aH] at hb;rw[bQ hb];refine anf hl hk n ((L++WA q.2)++[x]) j m' _ (.inr rfl) au au ?_;simp only[Gt,Dw,OW];omega
noncomputable def aDL(rows:ak):Option (ak×Int×Int):=
 (M.wz 45 0 [] [] rows).bind λr=>bif !bif r.1==0 then bif r.2==0 then true else false else false then some ([],r.1,r.2) else
  (M.nT 45 0 [] [] rows).bind λr'=>bif[[D.sl true 5 r']].all fB then some (r',0,0) else none
def AE(l:List Tk)(o:Option (ak×Int×Int)):PR (List Tn)->Prop
 | .ok L _ _=>o=aDL (cZ false L)
 | .bad j=>o=(M.pY (aF l) (j:Int)).bind λr=>some ([],3,r)
 | .out=>True
def aDM(hl:l.length<=1048576)(hk:∀i,i<l.length->dP l i≠0)(h0:M.wu (aF l)=some (0,0))(n:Nat):AE l (M.jC (aF l)) (Ig l n [] 0 []):=by
 have hloop:=anf hl hk n [] 0 [] (.inl (p1 l (sep l 0 []).1 false (sep l 0 []).2)) (.inl ⟨rfl,rfl⟩) (Nat.zero_le _) (zaX _) (zaX _);have hsep:=anc hl 0 [] (Nat.zero_le _) (zaX _);have aSK:M.bT (aF l) 0 false []=some (aF l,((sep l 0 []).1:Int),false,encS (sep l 0 []).2):=hsep;simp only[M.jC,M.yC,h0,ah,show((0:Int)==0)=true from rfl,aH,zaW,bG,aSK];generalize sep l 0 []=q at hloop;rw[p1] at hloop;generalize Ig l n [] 0 []=p at hloop|-;cases p with
 |out=>trivial
 |bad j=>
  obtain⟨u,nt0,h1,h3⟩:=hloop;rw[h1,ah];show _=(M.pY (aF l) (j:Int)).bind λr=>some ([],3,r)
  rcases h3 with rfl|⟨rows,rfl⟩
  ·simp only[p1,jX,aH]
  ·simp only[p2,jX,letE,aH]
 |ok L' j ZR=>
  obtain⟨L0,i0,nt0,u,h1,h2,rfl,h4,h5⟩:=hloop;rw[h1,ah];show _=aDL _;rcases h2 with⟨rfl,rfl⟩|rfl
  ·simp only[p1,jX,bG,dR,aH,ah,Dn (l:=l) _ _ nt0 au,iQ,dG,Dw];rw[bI au,aH,bI au,aH];rfl
  ·simp only[p2,jX,letE,bG,dR,aH,ah,Dn (l:=l) _ _ nt0 au,iQ,dG,Dw,<-yL];rw[bI au,aH,bI au,aH];rfl
def aAo(w:Bool)(t:Tn):jq .i64 (t.row w) 0=some t.kind/\jq .i64 (t.row w) 1=some t.op/\cStr (t.row w) 2=some t.text/\cStr (t.row w) 3=some t.other/\cSl 5 (t.row w) 4=some (cZ w t.kids):=by rw[aoo];exact⟨rfl,rfl,rfl,rfl,rfl⟩
def ang{w:Bool}{ks:List Tn}{j:Nat}{t:Tn}(h:ks[j]? =some t):(cZ w ks)[j]? =some (t.row w):=by rw[RJ,List.getElem?_map,h];rfl
def avy(w:Bool):∀(f:Nat) (t:Tn) (a b:Int) (c d:aC),t.size<=f->t.size<=1048576->M.mg f a b c d (cZ w t.kids)=some (t.size:Int)
 |0,t,_,_,_,_,hf,_=>by have:=t.size_pos;omega
 |f+1,.mk k op x y ks,a,b,c,d,hf,hs=>by
  rw[Tn.size] at hf hs;have hkl:=zV ks;simp only[M.mg,M.Ht,Tn.kids,dG];have hloop:=uM (b:=M.Gp (M.mg f) (cZ w ks) (ks.length:Int)) (t:=(((1+sizes ks:Nat):Int),(ks.length:Int))) (λj=>(((1+sizes (ks.take j):Nat):Int),(j:Int))) ks.length
   (by
    intro j hj;obtain⟨t,ht⟩:∃t,ks[j]? =some t:=⟨ks[j],by simp⟩
    have hst:=Lh ht;obtain⟨r0,r1,r2,r3,r4⟩:=aAo w t;have hrec:=avy w f t t.kind t.op t.text t.other au au;simp only[Fj,M.Gp,M.Ak,bZ,ang ht,ah,r0,r1,r2,r3,r4,hrec];rw[zdt au,aH,aJ au au,aJ au au,List.take_add_one,ht,Option.toList_some,sizes1];congr 3;omega)
   (by simp only[Fj,M.Gp,M.Ak];rw[xE au,bG,List.take_length]) 0 (Nat.zero_le _)
  have OQ:M.J6 (M.mg f) (cZ w ks) (ks.length:Int) (1,0)=_:=hloop;rw[OQ,ah,Tn.size,Nat.add_comm]
def dF:Nat->Tn->Int
 |0,_=>0
 |f+1,t=>mx 0 (t.kids.map (dF f))+1
def arP:∀f t,0<=dF f t/\dF f t<=f
 |0,t=>by simp[dF]
 |f+1,t=>by have:=abC (f:Int) (t.kids.map (dF f)) 0 au (λx hx=>by obtain⟨k,_,rfl⟩:=List.mem_map.1 hx;exact(arP f k).2);rw[dF];omega
def arQ(w:Bool):∀(f:Nat) (t:Tn) (a b:Int) (c d:aC),t.size<=f->f<=1048576->M.iL f a b c d (cZ w t.kids)=some (dF f t)
 |0,t,_,_,_,_,hf,_=>by have:=t.size_pos;omega
 |f+1,.mk k op x y ks,a,b,c,d,hf,hs=>by
  rw[Tn.size] at hf;have hkl:=zV ks;have hdr:=arP (f+1) (.mk k op x y ks);simp only[M.iL,M.zG,Tn.kids,dG];have hloop:=uM (b:=M.qP (M.iL f) (cZ w ks) (ks.length:Int)) (t:=(mx 0 (ks.map (dF f)),(ks.length:Int))) (λj=>(mx 0 ((ks.take j).map (dF f)),(j:Int))) ks.length
   (by
    intro j hj;obtain⟨t,ht⟩:∃t,ks[j]? =some t:=⟨ks[j],by simp⟩
    have hst:=Lh ht;obtain⟨r0,r1,r2,r3,r4⟩:=aAo w t;have hrec:=arQ w f t t.kind t.op t.text t.other au au;simp only[Fj,M.qP,M.qO,bZ,ang ht,ah,r0,r1,r2,r3,r4,hrec];rw[zdt au,aH,aJ au au,List.take_add_one,ht,Option.toList_some,List.map_append,zmc,List.map_nil,aiK];rfl)
   (by simp only[Fj,M.qP,M.qO];rw[xE au,bG,List.take_length]) 0 (Nat.zero_le _)
  have OQ:M.C9 (M.iL f) (cZ w ks) (ks.length:Int) (0,0)=_:=hloop;rw[OQ,ah];rw[dF] at hdr|-;simp only[Tn.kids] at hdr|-;rw[aJ au au]
def arR{l:List Nd}:∀(f:Nat) (t:Tn) (b:Nat),Lies l b t->dep l f (b+sizes t.kids)=dF f t
 |0,_,_,_=>rfl
 |f+1,.mk k op x y ks,b,h=>by
  rw[dep,dF];congr 2;rw[MP (Lies.root' h)];simp only[Tn.kids];refine List.ext_getElem? λj=> ?_
  rw[List.getElem?_map,List.getElem?_map]
  by_cases hj:j<ks.length
  ·obtain⟨t,ht⟩:∃t,ks[j]? =some t:=⟨ks[j],by simp⟩
   rw[Y7 ht,ht];simp only[MS,ztn];rw[arR f t _ (Lies.XD h ht)]
  ·have e:(Go.Vm.ends ks b).length=ks.length:=by rw[Go.Vm.iP]
   rw[List.getElem?_eq_none au,List.getElem?_eq_none au];rfl
def aAp(t:Tn)(h:t.size<=400):Fh (t.flat 0)=true:=by have hp:=t.size_pos;obtain⟨u,h1,h2⟩:=t.aao 0;rw[Fh,uN,OZ,t.flat_length,if_pos ⟨hp,h⟩,WS];simp only[h1];rw[List.getElem?_append_right au,h2,Nat.sub_self];rfl
def abZ(k:Int):Bool:=k==3||(k==4||(k==5||(k==6||(k==8||(k==33||(k==35||(k==51||(k==52||false))))))))
def atY(k:Int):M.fA k=some (abZ k)/\M.jf k=some (abZ k):=by simp only[M.fA,M.x9,M.jf,M.CO,abZ];cases k==3<;>first|exact⟨rfl,rfl⟩|(cases k==4<;>first|exact⟨rfl,rfl⟩|(cases k==5<;>first|exact⟨rfl,rfl⟩|(cases k==6<;>first|exact⟨rfl,rfl⟩|(cases k==8<;>first|exact⟨rfl,rfl⟩|(cases k==33<;>first|exact⟨rfl,rfl⟩|(cases k==35<;>first|exact⟨rfl,rfl⟩|(cases k==51<;>first|exact⟨rfl,rfl⟩|(cases k==52<;>exact⟨rfl,rfl⟩))))))))
def gd(A k7 n32 k2 n1 k5 e k58 k41:Bool):Bool:=A &&((!k7||n32) &&((!k2||n1) &&((!k5|| !e) &&((!k58||e) &&(!k41||e)))))
def n32:List Tk->Bool
 |[]=>false
 |u::_=>u.kind==32
def n1(z:Bool):List Tk->Bool
 |[]=>true
 |u::_=>u.kind==1||(z && u.kind==0)
def gT(z:Bool)(b:Int)(t:Tk)(r:List Tk):Bool:=gd (tX t.kind t.text) (t.kind==7) (n32 r) (t.kind==2) (n1 z r) (t.kind==5) (abZ b) (t.kind==58) (t.kind==41)
def afR(z:Bool):Int->List Tk->Bool
 |_,[]=>true
 |b,t::r=>gT z b t r && afR z t.kind r
def aSL(s:aC):tX 0 s=false:=by
 cases s with
 |nil=>rfl
 |cons c s=>rfl
def aAq:∀(l:List Tk) (b:Int),afR true b l=afR false b l
 |[],_=>rfl
 |t::r,b=>by
  rw[afR,afR,aAq r];cases r with
  |nil=>rfl
  |cons u r=>
   cases h:u.kind==0 with
   |true=>
    have e:u.kind=0:=by rwa [beq_iff_eq] at h
    have:afR false t.kind (u::r)=false:=by rw[afR,gT,e,aSL];rfl
    rw[this,Bool.and_false,Bool.and_false]
   |false=>rw[gT,gT,n1,n1,h];rfl
section
variable {l:List Tk} (hl:l.length<=3000) (hf:∀t,t∈l->I64 t.kind/\t.text.length<=1048576)
include hl hf
theorem axh{i:Nat}{t:Tk}(ht:l[i]? =some t)(b:Int):M.CS (aF l) (aF l) (l.length:Int) (b,(i:Int))=some (bif gT true b t (l.drop (i+1)) then .inl (t.kind,((i+1:Nat):Int)) else .inr (.inl ())):=by
 have hi:=(Po.1 ht).1;have hft:=hf t (Ro ht);have hw:i64.wrap ((i:Int)+1)=((i+1:Nat):Int):=by rw[aJ au au];omega
 have hT:=(aeR t.kind t.text t.at_ hft.2 hft.1).2;have hE:=(atY b).2;simp only[M.CS,M.CQ,M.jY,jI,hw];rw[zdt au,aH];simp only[bZ,o8,ht,MS,ah,cT0,cT1,cT2]
 by_cases h2:i+1<l.length
 ·obtain⟨u,hu⟩:∃u,l[i+1]? =some u:=⟨l[i+1],by simp[h2]⟩
  have hd:l.drop (i+1)=u::l.drop (i+2):=by rw[List.drop_eq_getElem_cons h2];rw[List.getElem?_eq_getElem h2] at hu;rw[Option.some.inj hu]
  rw[hd,gT,n32,n1,zdt au,aH];simp only[hu,MS,ah,cT0,cT1,cT2,hT,hE,bne,aH,Bool.true_and];cases tX t.kind t.text<;>cases t.kind==7<;>cases u.kind==32<;>cases t.kind==2<;>cases u.kind==1<;>cases u.kind==0<;>cases t.kind==5<;>cases abZ b<;>cases t.kind==58<;>cases t.kind==41<;>rfl
 ·have hd:l.drop (i+1)=[]:=List.drop_of_length_le au;rw[hd,gT,n32,n1,xE au,bG];simp only[hT,hE,ah,bne,bG];cases tX t.kind t.text<;>cases t.kind==7<;>cases t.kind==2<;>cases t.kind==5<;>cases abZ b<;>cases t.kind==58<;>cases t.kind==41<;>rfl
end
def anh{l:List Tk}{z:Bool}{B:Int×Int->Option ((Int×Int)⊕(Unit⊕(Int×Int)))}(hb:∀(i:Nat) (t:Tk) (b:Int),l[i]? =some t->B (b,(i:Int))=some (bif gT z b t (l.drop (i+1)) then .inl (t.kind,((i+1:Nat):Int)) else .inr (.inl ())))
  (he:∀b,B (b,(l.length:Int))=some (.inr (.inr (b,(l.length:Int))))):∀(n i:Nat) (b:Int),l.length - i=n->i<=l.length->∃b',fH B (b,(i:Int))=some (bif afR z b (l.drop i) then .inr (b',(l.length:Int)) else .inl ())
 |0,i,b,hn,hi=>by obtain rfl:i=l.length:=au;rw[List.drop_length,afR];exact⟨b,aV (he b)⟩
 |n+1,i,b,hn,hi=>by
  have h2:i<l.length:=au;obtain⟨t,ht⟩:∃t,l[i]? =some t:=⟨l[i],by simp[h2]⟩
  have hd:l.drop i=t::l.drop (i+1):=by rw[List.drop_eq_getElem_cons h2];rw[List.getElem?_eq_getElem h2] at ht;rw[Option.some.inj ht]
  have h:=hb i t b ht;rw[hd,afR];cases hg:gT z b t (l.drop (i+1)) with
  |false=>rw[hg,bG] at h;exact⟨0,aV h⟩
  |true=>rw[hg,aH] at h;obtain⟨b',h'⟩:=anh hb he n (i+1) t.kind au au;exact⟨b',by rw[bQ h,h',Bool.true_and]⟩
def Wn(l:List Tk):Bool:=decide (l.length<=3000) && afR false 0 l
def akQ{z:Bool}:∀(l:List Tk) (b:Int),afR z b l=true->∀t,t∈l->tX t.kind t.text=true
 |[],_,_,t,h=>by cases h
 |u::r,b,h,t,ht=>by
  rw[afR,zq] at h;rcases List.mem_cons.1 ht with rfl|ht
  ·have:=h.1;rw[gT,gd,zq] at this;exact this.1
  ·exact akQ r _ h.2 t ht
def akR{l:List Tk}(h:Wn l=true):∀i,i<l.length->dP l i≠0:=λi hi e=>by
 rw[Wn,zq] at h;obtain⟨t,ht⟩:∃t,l[i]? =some t:=⟨l[i],by simp[hi]⟩
 have:=akQ l 0 h.2 t (Ro ht);rw[dP,ht] at e;have e':t.kind=0:=e;rw[e',aSL] at this;cases this
def arS(k:Int):Bool:=k==32||(k==34||k==30)
def atZ(k:Int):Bool:=k==33||(k==35||k==31)
def nst(d k:Int):Int:=bif arS k then d+1 else bif atZ k then(bif decide (d - 1<0) then 0 else d - 1) else d
def ani:Int->Nat->List Tk->Option Nat
 |_,_,[]=>none
 |d,i,t::r=>bif decide (nst d t.kind>40) then some i else ani (nst d t.kind) (i+1) r
def aSM{d k:Int}(h:arS k=true):nst d k=d+1:=by rw[nst,h];rfl
def aSN{d k:Int}(h:arS k=false)(h2:atZ k=true):nst d k=(bif decide (d - 1<0) then 0 else d - 1):=by rw[nst,h,h2];rfl
def aSO{d k:Int}(h:arS k=false)(h2:atZ k=false):nst d k=d:=by rw[nst,h,h2];rfl
def axi{d k:Int}(h0:0<=d)(h1:d<=40):0<=nst d k/\nst d k<=41:=by
 rw[nst];cases arS k<;>cases atZ k<;>simp only[aH,bG]
 ·omega
 ·cases h:decide (d - 1<0)<;>simp only[decide_eq_true_eq,decide_eq_false_iff_not] at h<;>simp only[aH,bG]<;>omega
 ·omega
 ·omega
section
variable {l:List Tk} (hl:l.length<=3000)
include hl
end
def anj{l:List Tk}{B:Int×Int->Option ((Int×Int)⊕(Int⊕(Int×Int)))}(hb:∀(i:Nat) (t:Tk) (d:Int),l[i]? =some t->0<=d->d<=40->B (d,(i:Int))=some (bif decide (nst d t.kind>40) then .inr (.inl (i:Int)) else .inl (nst d t.kind,((i+1:Nat):Int))))
  (he:∀d,B (d,(l.length:Int))=some (.inr (.inr (d,(l.length:Int))))):∀(n i:Nat) (d:Int),l.length - i=n->i<=l.length->0<=d->d<=40->∃d',fH B (d,(i:Int))=some (match ani d i (l.drop i) with|some p=> .inl (p:Int)|none=> .inr (d',(l.length:Int)))
 |0,i,d,hn,hi,_,_=>by obtain rfl:i=l.length:=au;rw[List.drop_length,ani];exact⟨d,aV (he d)⟩
 |n+1,i,d,hn,hi,h0,h1=>by
  have h2:i<l.length:=au;obtain⟨t,ht⟩:∃t,l[i]? =some t:=⟨l[i],by simp[h2]⟩
  have hd:l.drop i=t::l.drop (i+1):=by rw[List.drop_eq_getElem_cons h2];rw[List.getElem?_eq_getElem h2] at ht;rw[Option.some.inj ht]
  have h:=hb i t d ht h0 h1;have hr:=axi (k:=t.kind) h0 h1;rw[hd,ani]
  by_cases hg:nst d t.kind>40
  ·rw[zdt hg,aH] at h|-;exact⟨0,aV h⟩
  ·rw[xE hg,bG] at h|-;obtain⟨d',h'⟩:=anj hb he n (i+1) (nst d t.kind) au au hr.1 au;exact⟨d',by rw[bQ h,h']⟩
def akS(l:List Tk):Int:=match ani 0 0 l with
 |some p=>p
 |none=> -1
def opF(s:aC):List (aC)->Nat->Int->Nat->Int×Nat
 |[],_,k,m=>(k,m)
 |g::l,i,k,m=>bif Nat.blt m g.length && g.isPrefixOf s then opF s l (i+1) (30+(i:Int)) g.length else opF s l (i+1) k m
def aoz(s:aC):∀(l:List (aC)) (i:Nat) (k:Int) (m:Nat),(opF s l i k m).2=am7 s l m
 |[],_,_,_=>rfl
 |g::l,i,k,m=>by
  rw[opF,am7];cases(Nat.blt m g.length && g.isPrefixOf s) with
  |true=>rw[aH,aH,aoz s l]
  |false=>rw[bG,bG,aoz s l]
def aoA(s:aC)(L:List (aC)){b:Int×Int×Int->Option (Int×Int×Int⊕Int×Int×Int)}
  (hb:∀(i:Nat) g k (m:Nat),L[i]? =some g->m<=2->b (k,(m:Int),(i:Int))=some (.inl (bif Nat.blt m g.length && g.isPrefixOf s then(30+(i:Int),(g.length:Int),(i:Int)+1) else(k,(m:Int),(i:Int)+1))))
  (he:∀k m,b (k,m,(L.length:Int))=some (.inr (k,m,(L.length:Int)))) (h2:∀g,g∈L->g.length<=2):
  fH b (0,0,0)=some ((opF s L 0 0 0).1,((opF s L 0 0 0).2:Int),(L.length:Int)):=by
 have key:∀(t:List (aC)) (i:Nat) (k:Int) (m:Nat),L.drop i=t->i<=L.length->m<=2->fH b (k,(m:Int),(i:Int))=some ((opF s t i k m).1,((opF s t i k m).2:Int),(L.length:Int)):=by
  intro t;induction t with
  |nil=>
   intro i k m hd hi hm;have:i=L.length:=by have:=congrArg List.length hd;simp at this;omega
   subst this;exact aV (he _ _)
  |cons g t ih=>
   intro i k m hd hi hm;have hx:L[i]? =some g:=by
    have:(L.drop i)[0]? =some g:=by rw[hd];rfl
    simpa using this
   have hlt:i<L.length:=(Po.1 hx).1;have hd':L.drop (i+1)=t:=by rw[<-List.drop_drop,hd];rfl
   have hs:=hb i g k m hx hm;have hg:=h2 g (Ro hx);rw[opF];cases hc:(Nat.blt m g.length && g.isPrefixOf s) with
   |true=>rw[hc,aH] at hs;rw[bQ hs,aH,show(i:Int)+1=((i+1:Nat):Int) by omega,ih (i+1) _ _ hd' hlt hg]
   |false=>rw[hc,bG] at hs;rw[bQ hs,bG,show(i:Int)+1=((i+1:Nat):Int) by omega,ih (i+1) _ _ hd' hlt hm]
 have:=key L 0 0 0 rfl (Nat.zero_le _) au;rw[Wy] at this;exact this
def aSP{α:Type}(s:List α)(n:Nat)(h:n<=s.length):cut s 0 (n:Int)=some (s.take n):=by unfold cut;rw[zdt au,zdt au,zdt au];simp
def pre_eq:∀(g s:aC),g.length<=s.length->(s.take g.length==g)=g.isPrefixOf s
 |[],s,_=>by simp
 |x::g,[],h=>by simp at h
 |x::g,y::s,h=>by
  have hr:=pre_eq g s (by simpa using h);have hxy:(y==x)=(x==y):=by rw[Bool.eq_iff_iff,beq_iff_eq,beq_iff_eq];exact⟨Eq.symm,Eq.symm⟩
  rw[List.isPrefixOf,Pq,List.take_succ_cons,<-hr,<-hxy];rfl
def ag2(g s:aC)(h:s.length<g.length):g.isPrefixOf s=false:=by
 cases hp:g.isPrefixOf s with
 |false=>rfl
 |true=>have:=(List.isPrefixOf_iff_prefix.1 hp).length_le;omega
def aoB(s g:aC):M.strings_HasPrefix s g=some (g.isPrefixOf s):=by
 simp only[M.strings_HasPrefix,M.Gj,M.jA,M.qg]
 by_cases h:g.length<=s.length
 ·rw[zdt au,aH,aSP s g.length h,ah,ah,pre_eq g s h]
 ·rw[xE au,bG,ah,ag2 g s au]
def arU:∀g,g∈UL->g.length<=2:=by decide+kernel
def aiO(m n:Nat):decide ((n:Int)>(m:Int))=Nat.blt m n:=by
 cases hb:Nat.blt m n with
 |true=>rw[Nat.blt_eq] at hb;exact zdt au
 |false=>
  have:¬m<n:=by rw[<-Nat.blt_eq,hb];simp
  exact xE au
def aAr{s:aC}(h:s≠[])(hl:s.length<=2000000):∃c,idx s (i64.wrap ((s.length:Int) - 1))=some c/\lastB s=(c.toNat:Int):=by
 have hn:1<=s.length:=by cases s with|nil=>exact absurd rfl h|cons=>simp
 obtain⟨c,hc⟩:∃c,s[s.length - 1]? =some c:=⟨s[s.length - 1],by simp⟩
 refine⟨c, ?_, ?_⟩
 ·rw[aJ au au,show((s.length:Int) - 1)=((s.length - 1:Nat):Int) by omega,bZ,hc]
 ·rw[lastB,List.getLast?_eq_getElem?,hc]
def aDN{s:aC}(h:s≠[]):∃c,idx s 0=some c/\atI s=(c.toNat:Int):=by
 cases s with
 |nil=>exact absurd rfl h
 |cons c s=>exact⟨c,rfl,rfl⟩
def afS(c:UInt8):i64.wrap (c.toNat:Int)=(c.toNat:Int):=by have:=arj c;exact aJ au au
def arV(a b:Tk):afJ a b=bif a.text==[] then false else bif b.text==[] then false else bif a.kind==2 then false else bif a.kind==1 then false else bif b.kind==1 then false else
 bif isW (lastB a.text) && isW (atI b.text) then true else
 bif a.kind==3 &&(isW (atI b.text)||atI b.text==46) then true else
 bif a.kind==6 && b.kind==32 then true else
 bif !(decide (30<=a.kind) && decide (a.kind<=68)) then false else Nat.blt a.text.length (am7 (a.text++b.text) UL 0):=by
 unfold afJ;simp only[aeV]
def aoC(s:aC)(h0:s≠[])(hs:s.length<=4000000):M.zy s 0=some ((opF s UL 0 0 0).1,((am7 s UL 0:Nat):Int)):=by
 have hl:UL.length=39:=rfl;have hn:1<=s.length:=by cases s with|nil=>exact absurd rfl h0|cons=>simp
 simp only[M.zy,M.Ul,M.Qh,akq,ah];rw[aoA s UL (λi g k m hg hm=> ?_) (λk m=> ?_) arU,ah,aoz]
 ·have hi:=(Po.1 hg).1;rw[hl] at hi;have hg2:=arU g (Ro hg);have hw1:i64.wrap (30+(i:Int))=30+(i:Int):=aJ au au;have hw2:i64.wrap ((i:Int)+1)=(i:Int)+1:=aJ au au;have hw3:i64.wrap ((s.length:Int) - 0)=(s.length:Int):=by rw[aJ au au];omega
  have hw4:i64.wrap (0+(g.length:Int))=(g.length:Int):=by rw[aJ au au];omega
  simp only[M.KI,M.Cc,Le,bZ,Yp,ztn,hg,MS,ah,cS0,hw1,hw2,hw3,hw4,hl];rw[zdt (show((i:Int))<((39:Nat):Int) by omega),aH,zdt (show(0:Int)>=0 by omega),aH,zdt (show(0:Int)<=(s.length:Int) by omega),aH]
  by_cases hq:g.length<=s.length
  ·rw[zdt au,aH,aSP s g.length hq,ah,pre_eq g s hq,aiO];cases Nat.blt m g.length<;>cases g.isPrefixOf s<;>rfl
  ·rw[xE au,bG,ag2 g s au,Bool.and_false];rfl
 ·simp only[M.KI,M.Cc,Le];rw[xE au,bG]
def Yx(a b:Tk)(ha:a.text.length<=2000000)(hb:b.text.length<=2000000):M.vM a.kind a.text a.at_ b.kind b.text b.at_=some (afJ a b):=by
 rw[arV];simp only[M.vM,M.Oe,M.BM]
 by_cases h1:a.text=[]
 ·rw[show(a.text==[])=true by simpa using h1,aH,aH]
 ·rw[show(a.text==[])=false by simpa using h1,bG,bG]
  by_cases h2:b.text=[]
  ·rw[show(b.text==[])=true by simpa using h2,aH,aH]
  ·obtain⟨c,hc,hc'⟩:=aAr h1 ha;obtain⟨d,hd,hd'⟩:=aDN h2;have hop:=aoC (a.text++b.text) (by simp[h1]) (by simp only[Gt];omega);rw[show(b.text==[])=false by simpa using h2,bG,bG,hc',hd'];have hnn:∀(c:Bool) (r:Bool),some (bif !c then false else r)=bif c then some r else some false:=by intro c r;cases c<;>rfl
   simp only[hc,hd,ah,afS,FU,dL,hop,aiO,ge_iff_le,aeV,avr,Yu,hnn,bI (show a.text.length+b.text.length<=9223372036854775807 by omega),aH]
def sub(s:aC)(i e:Nat):aC:=(s.drop i).take (e - i)
def Vu{s:aC}{i e:Nat}(h1:i<=e)(h2:e<=s.length):(sub s i e).length=e - i:=by rw[sub,zlt,List.length_drop];omega
def Kq{s:aC}{i e:Nat}(h1:i<=e)(h2:e<=s.length):cut s (i:Int) (e:Int)=some (sub s i e):=by unfold cut;rw[zdt au,zdt au,zdt au];simp[sub]
def aoD(s:aC)(i:Nat):sub s i s.length=s.drop i:=by rw[sub,List.take_of_length_le];rw[List.length_drop];omega
def OT(s:aC)(i:Nat):Nat:=i+((s.drop i).takeWhile λc=>isW (c.toNat:Int)).length
def abK(s:aC)(i:Nat):Nat:=i+((s.drop i).takeWhile λc=> !(c==10)).length
def aoE{s:aC}{i:Nat}(h:i<=s.length):OT s i<=s.length:=by have:=(List.takeWhile_prefix (l:=s.drop i) λc=>isW (c.toNat:Int)).length_le;rw[List.length_drop] at this;unfold OT;omega
def aoF{s:aC}{i:Nat}(h:i<=s.length):abK s i<=s.length:=by have:=(List.takeWhile_prefix (l:=s.drop i) λc=> !(c==10)).length_le;rw[List.length_drop] at this;unfold abK;omega
def arW(p:UInt8->Bool){s:aC}{i:Nat}{c:UInt8}(h:s[i]? =some c):((s.drop i).takeWhile p).length=bif p c then((s.drop (i+1)).takeWhile p).length+1 else 0:=by have hl:=(Po.1 h).1;rw[List.drop_eq_getElem_cons hl];have hc:s[i]=c:=(Po.1 h).2;rw[hc,List.takeWhile_cons];cases p c<;>simp
def ag3{s:aC}{i:Nat}{c:UInt8}(h:s[i]? =some c):OT s i=bif isW (c.toNat:Int) then OT s (i+1) else i:=by
 unfold OT;rw[arW (λc=>isW (c.toNat:Int)) h];cases isW (c.toNat:Int)
 ·rfl
 ·simp only[aH];omega
def ank{s:aC}{i:Nat}{c:UInt8}(h:s[i]? =some c):abK s i=bif c==10 then i else abK s (i+1):=by
 unfold abK;rw[arW (λc=> !(c==10)) h];cases c==10
 ·simp only[Bool.not_false,aH,bG];omega
 ·rfl
def XI(k:Int):Bool:=k==3||(k==4||(k==5||(k==6||(k==8||(k==33||(k==35||(k==51||k==52)))))))
def abL(k:Int):M.fA k=some (XI k)/\M.jf k=some (XI k):=by simp only[M.fA,M.x9,M.jf,M.CO,XI];cases k==3<;>cases k==4<;>cases k==5<;>cases k==6<;>cases k==8<;>cases k==33<;>cases k==35<;>cases k==51<;>cases k==52<;>exact⟨rfl,rfl⟩
def afT(b:Int):Bool:=b==32||b==9
def akT(b:Int):M.Eh b=some (afT b)/\M.Ee b=some (afT b):=by simp only[M.Eh,M.QH,M.Ee,M.Qo,afT];cases b==32<;>cases b==9<;>exact⟨rfl,rfl⟩
def afU{s:aC}(h:s.length<=1048576){r:Int}(h0:0<=r):r<=XB s r/\(XB s r<=r\/XB s r<=s.length):=by
 have r1:=Ld h (a:=r+1) au;have r2:=Ld h (a:=r+1+1) au;unfold XB;cases(qx s r==101)||(qx s r==69) with
 |false=>rw[bG];omega
 |true=>
  rw[aH];cases(qx s (r+1)==43)||(qx s (r+1)==45) with
  |true=>
   rw[aH];cases hd:decide (E9 s (r+1+1)>r+1+1) with
   |true=>rw[aH];rw[decide_eq_true_eq] at hd;omega
   |false=>rw[bG];omega
  |false=>
   rw[bG];cases hd:decide (E9 s (r+1)>r+1) with
   |true=>rw[aH];rw[decide_eq_true_eq] at hd;omega
   |false=>rw[bG];omega
def Xl{s:aC}{a:Int}(h:(s.length:Int)<=a):qx s a= -1:=by unfold qx;rw[if_pos au,List.getElem?_eq_none au]
def Vw{s:aC}(h:s.length<=1048576){i:Nat}(hi:i<s.length):Wi s i<0\/((i:Int)<Wi s i/\Wi s i<=s.length):=by
 have r1:=Ld h (a:=(i:Int)) au;have r2:=Ld h (a:=E9 s i+1) au;have e1:=afU h (r:=E9 s (E9 s i+1)) au;have e2:=afU h (r:=E9 s i) au;unfold Wi;rw[if_neg au];cases hp:qx s (E9 s i)==46 with
 |true=>
  rw[aH];have hlt:E9 s i<s.length:=by
   by_cases hc:E9 s i<s.length
   ·exact hc
   ·rw[Xl au] at hp;cases hp
  cases hq:(E9 s i==(i:Int)) &&(E9 s (E9 s i+1)==E9 s i+1) with
  |true=>rw[aH];omega
  |false=>rw[bG];omega
 |false=>
  rw[bG];cases hq:E9 s i==(i:Int) with
  |true=>rw[aH];omega
  |false=>rw[bG];rw[QV] at hq;omega
def aeX(q:Int):∀(n:Nat) (l:aC) (i:Int),l.length<=n->0<=i->afF q l i<0\/(i<afF q l i/\afF q l i<=i+(l.length:Int))
 |n,[],i,_,h0=>by rw[afF];omega
 |0,c::l,i,hn,_=>by simp at hn
 |n+1,c::l,i,hn,h0=>by
  rw[agQ];rw[Pq] at hn|-
  by_cases h1:(c.toNat:Int)=q
  ·rw[if_pos h1];omega
  rw[if_neg h1]
  by_cases h2:(c.toNat:Int)=10
  ·rw[if_pos h2];omega
  rw[if_neg h2]
  by_cases h3:(c.toNat:Int)=92
  ·rw[if_pos h3];cases l with
   |nil=>simp only[];omega
   |cons d l=>
    simp only[];rw[Pq] at hn|-
    by_cases h4:(d.toNat:Int)=10
    ·rw[if_pos h4];omega
    ·rw[if_neg h4];have:=aeX q n l (i+2) au au;omega
  ·rw[if_neg h3];have:=aeX q n l (i+1) au au;omega
def Vx{s:aC}{q:Int}{i:Nat}(hi:i<s.length):quoted s i q<0\/((i:Int)<quoted s i q/\quoted s i q<=s.length):=by
 unfold quoted;split
 ·have:=aeX q _ (s.drop ((i:Int)+1).toNat) ((i:Int)+1) (zaX _) au;rw[List.length_drop] at this;omega
 ·omega
def ag4{s:aC}{i:Nat}(hi:i<s.length):XC s i<0\/((i:Int)<XC s i/\XC s i<=s.length):=by
 have:=Vx (s:=s) (q:=47) hi;unfold XC;cases quoted s i 47==(i:Int)+2 with
 |true=>rw[aH];omega
 |false=>rw[bG];exact this
def akU(s:aC):∀(l:List (aC)) (i:Nat) (k:Int) (m:Nat),((k=0/\m=0)\/(30<=k/\1<=m))->(((opF s l i k m).1=0/\(opF s l i k m).2=0)\/(30<=(opF s l i k m).1/\1<=(opF s l i k m).2))
 |[],_,_,_,h=>h
 |g::l,i,k,m,h=>by
  rw[opF];cases hc:(Nat.blt m g.length && g.isPrefixOf s) with
  |false=>rw[bG];exact akU s l (i+1) k m h
  |true=>rw[aH];rw[zq,Nat.blt_eq] at hc;exact akU s l (i+1) _ _ (.inr au)
def aoG(s:aC):∀(l:List (aC)) (i:Nat) (k:Int) (m:Nat),m<=s.length->(opF s l i k m).2<=s.length
 |[],_,_,_,h=>h
 |g::l,i,k,m,h=>by
  rw[opF];cases hc:(Nat.blt m g.length && g.isPrefixOf s) with
  |false=>rw[bG];exact aoG s l (i+1) k m h
  |true=>rw[aH];rw[zq] at hc;exact aoG s l (i+1) _ _ (List.isPrefixOf_iff_prefix.1 hc.2).length_le
def opK(s:aC)(i:Nat):Int:=(opF (s.drop i) UL 0 0 0).1
def opN(s:aC)(i:Nat):Nat:=(opF (s.drop i) UL 0 0 0).2
def avz(s:aC)(i:Nat):(opK s i=0/\opN s i=0)\/(30<=opK s i/\1<=opN s i):=akU _ _ _ _ _ (.inl ⟨rfl,rfl⟩)
def at1{s:aC}{i:Nat}(h:i<=s.length):i+opN s i<=s.length:=by have:=aoG (s.drop i) UL 0 0 0 (Nat.zero_le _);rw[List.length_drop] at this;unfold opN;omega
def aoH(s:aC)(i:Nat)(h0:i<s.length)(hs:s.length<=4000000):M.LD s (i:Int)=some (opK s i,(opN s i:Int)):=by
 have hl:UL.length=39:=rfl;simp only[M.LD,M.WU,M.Vp,eF,ah];rw[aJ au au,zdt au,zdt au,Bool.and_self,zaW,bG];have hc:=Kq (s:=s) (i:=i) (Nat.le_of_lt h0) (zaX _);rw[aoD] at hc;rw[aoA (s.drop i) UL (λj g k m hg hm=> ?_) (λk m=> ?_) arU,ah]
 ·rfl
 ·have hi:=(Po.1 hg).1;rw[hl] at hi;have hsc:=avj j hi;simp only[VO,hg] at hsc;simp only[M.aas,M.Qu,ztn,hsc,ah,hc,aoB,aiO];rw[zdt au,zdt au,aJ au au,aJ au au];cases Nat.blt m g.length<;>cases g.isPrefixOf (s.drop i)<;>rfl
 ·rw[hl];rfl
def aoI(s:aC)(i:Nat)(h0:i<s.length)(hs:s.length<=4000000):M.zy s (i:Int)=some (opK s i,(opN s i:Int)):=by
 have hl:UL.length=39:=rfl;simp only[M.zy,M.Ul,M.Qh,akq,ah];rw[aoA (s.drop i) UL (λj g k m hg hm=> ?_) (λk m=> ?_) arU,ah]
 ·rfl
 ·have hi:=(Po.1 hg).1;rw[hl] at hi;have hg2:=arU g (Ro hg);have hw1:i64.wrap (30+(j:Int))=30+(j:Int):=aJ au au;have hw2:i64.wrap ((j:Int)+1)=(j:Int)+1:=aJ au au;have hw3:i64.wrap ((s.length:Int) - (i:Int))=((s.length - i:Nat):Int):=by rw[aJ au au];omega
  have hw4:i64.wrap ((i:Int)+(g.length:Int))=((i+g.length:Nat):Int):=by rw[aJ au au];omega
  simp only[M.KI,M.Cc,Le,bZ,Yp,ztn,hg,MS,ah,cS0,hw1,hw2,hw3,hw4,hl];rw[zdt (show((j:Int))<((39:Nat):Int) by omega),aH,zdt (show(i:Int)>=0 by omega),aH,zdt (show(i:Int)<=(s.length:Int) by omega),aH]
  by_cases hq:g.length<=s.length - i
  ·have hcs:=Kq (s:=s) (i:=i) (e:=i+g.length) au au;have hpe:=pre_eq g (s.drop i) (by rw[List.length_drop];exact hq);have hse:sub s i (i+g.length)=(s.drop i).take g.length:=by rw[sub,show i+g.length - i=g.length by omega]
   rw[zdt au,aH,hcs,ah,hse,hpe,aiO];cases Nat.blt m g.length<;>cases g.isPrefixOf (s.drop i)<;>rfl
  ·rw[xE au,bG,ag2 g (s.drop i) (by rw[List.length_drop];omega),Bool.and_false];rfl
 ·simp only[M.KI,M.Cc,Le];rw[xE au,bG]
def anl{s:aC}{b:(aC×Int×Bool)⊕(aC×Int)->Option (((aC×Int×Bool)⊕(aC×Int))⊕(aC×Int))}(hs:s.length<=1048576)
  (h1:∀(a:Int) (v:Bool),b (.inl (s,a,v))=some (bif isW (qx s a) then .inl (.inr (s,i64.wrap (a+1))) else .inr (s,a)))
  (h2:∀(a:Int),b (.inr (s,a))=some (bif isW (qx s a) then .inl (.inr (s,i64.wrap (a+1))) else .inr (s,a))) (v:Bool) {i:Nat} (hi:i<=s.length):fH b (.inl (s,(i:Int),v))=some (s,(OT s i:Int)):=by
 have key:∀(n i:Nat),s.length - i<=n->i<=s.length->fH b (.inr (s,(i:Int)))=some (s,(OT s i:Int)):=by
  intro n;induction n with
  |zero=>
   intro i hn hi;have e:i=s.length:=au;subst e;refine aV ?_;rw[h2,Xl (Int.le_refl _)];have:OT s s.length=s.length:=by unfold OT;simp
   rw[this];rfl
  |succ n ih=>
   intro i hn hi
   by_cases hlt:i<s.length
   ·obtain⟨c,hc⟩:∃c,s[i]? =some c:=⟨s[i],by simp[hlt]⟩
    have hb:qx s (i:Int)=(c.toNat:Int):=by rw[IW,hc]
    have hst:=ag3 hc;cases hw:isW (c.toNat:Int) with
    |true=>rw[hw,aH] at hst;have hx:=h2 (i:Int);rw[hb,hw,aH,aJ au au] at hx;rw[bQ hx,hst,show(i:Int)+1=((i+1:Nat):Int) by omega];exact ih (i+1) au au
    |false=>rw[hw,bG] at hst;refine aV ?_;rw[h2,hb,hw,bG,hst]
   ·exact ih i au hi
 by_cases hlt:i<s.length
 ·obtain⟨c,hc⟩:∃c,s[i]? =some c:=⟨s[i],by simp[hlt]⟩
  have hb:qx s (i:Int)=(c.toNat:Int):=by rw[IW,hc]
  have hst:=ag3 hc;cases hw:isW (c.toNat:Int) with
  |true=>rw[hw,aH] at hst;have hx:=h1 (i:Int) v;rw[hb,hw,aH,aJ au au] at hx;rw[bQ hx,hst,show(i:Int)+1=((i+1:Nat):Int) by omega];exact key _ (i+1) (zaX _) au
  |false=>rw[hw,bG] at hst;refine aV ?_;rw[h1,hb,hw,bG,hst]
 ·have e:i=s.length:=au;subst e;refine aV ?_;rw[h1,Xl (Int.le_refl _)];have:OT s s.length=s.length:=by unfold OT;simp
  rw[this];rfl
def akV{s:aC}(hs:s.length<=1048576){i:Nat}(hi:i<=s.length)(hL:isL (qx s i)=true):M.AX s (i:Int)=some (OT s i:Int)/\M.AU s (i:Int)=some (OT s i:Int):=by
 have hb1:=λa=>Df hs a
 have hb2:=λa=>Dh hs a
 constructor
 ·simp only[M.AX,M.QJ,hb1,ah,(O9 _).1,hL,zaW,bG,M.Oz];rw[anl hs (λa v=> ?_) (λa=> ?_) false hi,ah]
  ·simp only[M.QI,M.EW,hb1,ah,(FU _).1];cases isW (qx s a)<;>rfl
  ·simp only[M.QI,M.EW,hb1,ah,(FU _).1];cases isW (qx s a)<;>rfl
 ·simp only[M.AU,M.Qr,hb2,ah,(O9 _).2,hL,zaW,bG,M.Oq];rw[anl hs (λa v=> ?_) (λa=> ?_) false hi,ah]
  ·simp only[M.Qq,M.EJ,hb2,ah,(FU _).2];cases isW (qx s a)<;>rfl
  ·simp only[M.Qq,M.EJ,hb2,ah,(FU _).2];cases isW (qx s a)<;>rfl
def ahT(s w:aC)(e:Nat):Int:=bif aio w !=0 then aio w else bif Xg w then 8 else bif qx s e==40 then 7 else 6
def avA{s:aC}(hs:s.length<=1048576){i e:Nat}(h1:i<=e)(h2:e<=s.length):M.Ei s (i:Int) (e:Int)=some (ahT s (sub s i e) e,sub s i e,(i:Int))/\M.wo s (i:Int) (e:Int)=some (ahT s (sub s i e) e,sub s i e,(i:Int)):=by
 have hb1:=λa=>Df hs a
 have hb2:=λa=>Dh hs a
 simp only[M.Ei,M.TR,M.wo,M.MF,Kq h1 h2,(Y3 _).1,(Y3 _).2,(MO _).1,(MO _).2,hb1,hb2,ah,ahT];cases aio (sub s i e) !=0<;>cases Xg (sub s i e)<;>cases qx s (e:Int)==40<;>exact⟨rfl,rfl⟩
def n10'{c:UInt8}(h:(c.toNat:Int)≠10):(c==10)=false:=QV.2 λe=>h (by rw[e];rfl)
def aAs(s w:aC)(e:Nat):ahT s w e≠0:=by
 unfold ahT;cases h:aio w !=0 with
 |true=>rw[aH];simpa using h
 |false=>
  rw[bG];cases Xg w
  ·rw[bG];cases qx s (e:Int)==40<;>decide
  ·rw[aH];decide
end Go.Proofs.YtgealgmioiepeaaGreatDoor
