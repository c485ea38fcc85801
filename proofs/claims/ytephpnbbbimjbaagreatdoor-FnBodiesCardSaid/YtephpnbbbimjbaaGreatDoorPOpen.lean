import Derived.Test.YtephpnbbbimjbaaGreatDoorXRi12
import Derived.Shelf.Small.Strs
import Derived.Shelf.Strings.Search1
import Derived.Shelf.Strings.Search2
import Derived.Shelf.Strings.Search3
import Derived.Shelf.LaysM
import Derived.Shelf.Strings.Shaped
import Derived.Test.YtephpnbbbimjbaaGreatDoorProg
import Derived.Test.YtephpnbbbimjbaaGreatDoorRows
set_option linter.defProp false
set_option linter.unusedVariables false
set_option linter.unusedSimpArgs false
set_option linter.unusedSectionVars false
open Go.IntKind (i64)
namespace Go.Proofs.YtephpnbbbimjbaaGreatDoor
open Go Go.Vm
def aBx(w:Bool)(t:Tn):jR .i64 (t.row w) 0=some t.kind/\jR .i64 (t.row w) 1=some t.op/\cStr (t.row w) 2=some t.text/\cStr (t.row w) 3=some t.other/\cSl 5 (t.row w) 4=some (dG w t.kids):=by rw[aug];exact⟨rfl,rfl,rfl,rfl,rfl⟩
def anO{w:Bool}{ks:List Tn}{j:Nat}{t:Tn}(h:ks[j]? =some t):(dG w ks)[j]? =some (t.row w):=by rw[Xn,List.getElem?_map,h];rfl
def awx(w:Bool):∀(f:Nat) (t:Tn) (a b:Int) (c d:aC),t.size<=f->t.size<=1048576->M.kZ f a b c d (dG w t.kids)=some (t.size:Int)
 |0,t,_,_,_,_,hf,_=>by have:=t.size_pos;omega
 |f+1,.mk k op x y ks,a,b,c,d,hf,hs=>by
  rw[Tn.size] at hf hs;have hkl:=BN ks;simp only[M.kZ,M.EY,Tn.kids,dh];have hloop:=vW (b:=M.Ep (M.kZ f) (dG w ks) (ks.length:Int)) (t:=(((1+sizes ks:Nat):Int),(ks.length:Int))) (λj=>(((1+sizes (ks.take j):Nat):Int),(j:Int))) ks.length
   (by
    intro j hj;obtain⟨t,ht⟩:∃t,ks[j]? =some t:=⟨ks[j],by simp⟩
    have hst:=Nh ht;obtain⟨r0,r1,r2,r3,r4⟩:=aBx w t;have hrec:=awx w f t t.kind t.op t.text t.other ak ak;simp only[yH,M.Ep,M.zl,dn,anO ht,ah,r0,r1,r2,r3,r4,hrec];rw[zdt ak,aG,aS ak ak,aS ak ak,List.take_add_one,ht,Option.toList_some,sizes1];congr 3;omega)
   (by simp only[yH,M.Ep,M.zl];rw[vG ak,aQ,List.take_length]) 0 (Nat.zero_le _)
  have MZ:M.Iz (M.kZ f) (dG w ks) (ks.length:Int) (1,0)=_:=hloop;rw[MZ,ah,Tn.size,Nat.add_comm]
def dF:Nat->Tn->Int
 |0,_=>0
 |f+1,t=>mx 0 (t.kids.map (dF f))+1
def asD:∀f t,0<=dF f t/\dF f t<=f
 |0,t=>by simp[dF]
 |f+1,t=>by have:=abb (f:Int) (t.kids.map (dF f)) 0 ak (λx hx=>by obtain⟨k,_,rfl⟩:=List.mem_map.1 hx;exact(asD f k).2);rw[dF];omega
def asE(w:Bool):∀(f:Nat) (t:Tn) (a b:Int) (c d:aC),t.size<=f->f<=1048576->M.kD f a b c d (dG w t.kids)=some (dF f t)
 |0,t,_,_,_,_,hf,_=>by have:=t.size_pos;omega
 |f+1,.mk k op x y ks,a,b,c,d,hf,hs=>by
  rw[Tn.size] at hf;have hkl:=BN ks;have hdr:=asD (f+1) (.mk k op x y ks);simp only[M.kD,M.Dp,Tn.kids,dh];have hloop:=vW (b:=M.Dn (M.kD f) (dG w ks) (ks.length:Int)) (t:=(mx 0 (ks.map (dF f)),(ks.length:Int))) (λj=>(mx 0 ((ks.take j).map (dF f)),(j:Int))) ks.length
   (by
    intro j hj;obtain⟨t,ht⟩:∃t,ks[j]? =some t:=⟨ks[j],by simp⟩
    have hst:=Nh ht;obtain⟨r0,r1,r2,r3,r4⟩:=aBx w t;have hrec:=asE w f t t.kind t.op t.text t.other ak ak;simp only[yH,M.Dn,M.xZ,dn,anO ht,ah,r0,r1,r2,r3,r4,hrec];rw[zdt ak,aG,aS ak ak,List.take_add_one,ht,Option.toList_some,List.map_append,zmc,List.map_nil,ao1];rfl)
   (by simp only[yH,M.Dn,M.xZ];rw[vG ak,aQ,List.take_length]) 0 (Nat.zero_le _)
  have MZ:M.Gu (M.kD f) (dG w ks) (ks.length:Int) (0,0)=_:=hloop;rw[MZ,ah];rw[dF] at hdr|-;simp only[Tn.kids] at hdr|-;rw[aS ak ak]
def asF{l:List Nd}:∀(f:Nat) (t:Tn) (b:Nat),Lies l b t->dep l f (b+sizes t.kids)=dF f t
 |0,_,_,_=>rfl
 |f+1,.mk k op x y ks,b,h=>by
  rw[dep,dF];congr 2;rw[abA (Lies.root' h)];simp only[Tn.kids];refine List.ext_getElem? λj=> ?_
  rw[List.getElem?_map,List.getElem?_map]
  by_cases hj:j<ks.length
  ·obtain⟨t,ht⟩:∃t,ks[j]? =some t:=⟨ks[j],by simp⟩
   rw[afC ht,ht];simp only[Nw,Zt];rw[asF f t _ (Lies.aes h ht)]
  ·have e:(Go.Vm.ends ks b).length=ks.length:=by rw[Go.Vm.jr]
   rw[List.getElem?_eq_none ak,List.getElem?_eq_none ak];rfl
def asG(t:Tn)(h:t.size<=400):Hw (t.flat 0)=true:=by have hp:=t.size_pos;obtain⟨u,h1,h2⟩:=t.afc 0;rw[Hw,GV,Qm,t.flat_length,if_pos ⟨hp,h⟩,ZT];simp only[h1];rw[List.getElem?_append_right ak,h2,Nat.sub_self];rfl
def YK(k:Int):Bool:=k==3||(k==4||(k==5||(k==6||(k==8||(k==33||(k==35||(k==51||(k==52||false))))))))
def auS(k:Int):True/\M.iU k=some (YK k):=by simp only[M.iU,M.Aq,YK];cases k==3<;>first|exact⟨trivial,rfl⟩|(cases k==4<;>first|exact⟨trivial,rfl⟩|(cases k==5<;>first|exact⟨trivial,rfl⟩|(cases k==6<;>first|exact⟨trivial,rfl⟩|(cases k==8<;>first|exact⟨trivial,rfl⟩|(cases k==33<;>first|exact⟨trivial,rfl⟩|(cases k==35<;>first|exact⟨trivial,rfl⟩|(cases k==51<;>first|exact⟨trivial,rfl⟩|(cases k==52<;>exact⟨trivial,rfl⟩))))))))
def gd(A k7 n32 k2 n1 k5 e k58 k41:Bool):Bool:=A &&((!k7||n32) &&((!k2||n1) &&((!k5|| !e) &&((!k58||e) &&(!k41||e)))))
def n32:List Tk->Bool
 |[]=>false
 |u::_=>u.kind==32
def n1(z:Bool):List Tk->Bool
 |[]=>true
 |u::_=>u.kind==1||(z && u.kind==0)
def gT(z:Bool)(b:Int)(t:Tk)(r:List Tk):Bool:=gd (iR t.kind t.text) (t.kind==7) (n32 r) (t.kind==2) (n1 z r) (t.kind==5) (YK b) (t.kind==58) (t.kind==41)
def ab4(z:Bool):Int->List Tk->Bool
 |_,[]=>true
 |b,t::r=>gT z b t r && ab4 z t.kind r
def aSh(s:aC):iR 0 s=false:=by
 cases s with
 |nil=>rfl
 |cons c s=>rfl
def aBy:∀(l:List Tk) (b:Int),ab4 true b l=ab4 false b l
 |[],_=>rfl
 |t::r,b=>by
  rw[ab4,ab4,aBy r];cases r with
  |nil=>rfl
  |cons u r=>
   cases h:u.kind==0 with
   |true=>
    have e:u.kind=0:=by rwa [beq_iff_eq] at h
    have:ab4 false t.kind (u::r)=false:=by rw[ab4,gT,e,aSh];rfl
    rw[this,Bool.and_false,Bool.and_false]
   |false=>rw[gT,gT,n1,n1,h];rfl
section
variable {l:List Tk} (hl:l.length<=3000) (hf:∀t,t∈l->I64 t.kind/\t.text.length<=1048576)
include hl hf
theorem ayd{i:Nat}{t:Tk}(ht:l[i]? =some t)(b:Int):M.Aw (aF l) (aF l) (l.length:Int) (b,(i:Int))=some (bif gT true b t (l.drop (i+1)) then .inl (t.kind,((i+1:Nat):Int)) else .inr (.inl ())):=by
 have hi:=(NV.1 ht).1;have hft:=hf t (WW ht);have hw:i64.wrap ((i:Int)+1)=((i+1:Nat):Int):=by rw[aS ak ak];omega
 have hT:=(Qv t.kind t.text t.at_ hft.2 hft.1).2;have hE:=(auS b).2;simp only[M.Aw,M.Au,M.jM,gZ,hw];rw[zdt ak,aG];simp only[dn,yh,ht,Nw,ah,cT0,cT1,cT2]
 by_cases h2:i+1<l.length
 ·obtain⟨u,hu⟩:∃u,l[i+1]? =some u:=⟨l[i+1],by simp[h2]⟩
  have hd:l.drop (i+1)=u::l.drop (i+2):=by rw[List.drop_eq_getElem_cons h2];rw[List.getElem?_eq_getElem h2] at hu;rw[Option.some.inj hu]
  rw[hd,gT,n32,n1,zdt ak,aG];simp only[hu,Nw,ah,cT0,cT1,cT2,hT,hE,bne,aG,Bool.true_and];cases iR t.kind t.text<;>cases t.kind==7<;>cases u.kind==32<;>cases t.kind==2<;>cases u.kind==1<;>cases u.kind==0<;>cases t.kind==5<;>cases YK b<;>cases t.kind==58<;>cases t.kind==41<;>rfl
 ·have hd:l.drop (i+1)=[]:=List.drop_of_length_le ak;rw[hd,gT,n32,n1,vG ak,aQ];simp only[hT,hE,ah,bne,aQ];cases iR t.kind t.text<;>cases t.kind==7<;>cases t.kind==2<;>cases t.kind==5<;>cases YK b<;>cases t.kind==58<;>cases t.kind==41<;>rfl
end
def anP{l:List Tk}{z:Bool}{B:Int×Int->Option ((Int×Int)⊕(Unit⊕(Int×Int)))}(hb:∀(i:Nat) (t:Tk) (b:Int),l[i]? =some t->B (b,(i:Int))=some (bif gT z b t (l.drop (i+1)) then .inl (t.kind,((i+1:Nat):Int)) else .inr (.inl ())))
  (he:∀b,B (b,(l.length:Int))=some (.inr (.inr (b,(l.length:Int))))):∀(n i:Nat) (b:Int),l.length - i=n->i<=l.length->∃b',fJ B (b,(i:Int))=some (bif ab4 z b (l.drop i) then .inr (b',(l.length:Int)) else .inl ())
 |0,i,b,hn,hi=>by obtain rfl:i=l.length:=ak;rw[List.drop_length,ab4];exact⟨b,aT (he b)⟩
 |n+1,i,b,hn,hi=>by
  have h2:i<l.length:=ak;obtain⟨t,ht⟩:∃t,l[i]? =some t:=⟨l[i],by simp[h2]⟩
  have hd:l.drop i=t::l.drop (i+1):=by rw[List.drop_eq_getElem_cons h2];rw[List.getElem?_eq_getElem h2] at ht;rw[Option.some.inj ht]
  have h:=hb i t b ht;rw[hd,ab4];cases hg:gT z b t (l.drop (i+1)) with
  |false=>rw[hg,aQ] at h;exact⟨0,aT h⟩
  |true=>rw[hg,aG] at h;obtain⟨b',h'⟩:=anP hb he n (i+1) t.kind ak ak;exact⟨b',by rw[cu h,h',Bool.true_and]⟩
def WR(l:List Tk):Bool:=decide (l.length<=3000) && ab4 false 0 l
def asH{z:Bool}:∀(l:List Tk) (b:Int),ab4 z b l=true->∀t,t∈l->iR t.kind t.text=true
 |[],_,_,t,h=>by cases h
 |u::r,b,h,t,ht=>by
  rw[ab4,rZ] at h;rcases List.mem_cons.1 ht with rfl|ht
  ·have:=h.1;rw[gT,gd,rZ] at this;exact this.1
  ·exact asH r _ h.2 t ht
def auT{l:List Tk}(h:WR l=true):∀i,i<l.length->aP l i≠0:=λi hi e=>by
 rw[WR,rZ] at h;obtain⟨t,ht⟩:∃t,l[i]? =some t:=⟨l[i],by simp[hi]⟩
 have:=asH l 0 h.2 t (WW ht);rw[aP,ht] at e;have e':t.kind=0:=e;rw[e',aSh] at this;cases this
def XU(k:Int):Bool:=k==32||(k==34||k==30)
def abl(k:Int):Bool:=k==33||(k==35||k==31)
def nst(d k:Int):Int:=bif XU k then d+1 else bif abl k then(bif decide (d - 1<0) then 0 else d - 1) else d
def Lc:Int->Nat->List Tk->Option Nat
 |_,_,[]=>none
 |d,i,t::r=>bif decide (nst d t.kind>40) then some i else Lc (nst d t.kind) (i+1) r
def aG7{d k:Int}(h:XU k=true):nst d k=d+1:=by rw[nst,h];rfl
def aG8{d k:Int}(h:XU k=false)(h2:abl k=true):nst d k=(bif decide (d - 1<0) then 0 else d - 1):=by rw[nst,h,h2];rfl
def aG9{d k:Int}(h:XU k=false)(h2:abl k=false):nst d k=d:=by rw[nst,h,h2];rfl
def aye{d k:Int}(h0:0<=d)(h1:d<=40):0<=nst d k/\nst d k<=41:=by
 rw[nst];cases XU k<;>cases abl k<;>simp only[aG,aQ]
 ·omega
 ·cases h:decide (d - 1<0)<;>simp only[decide_eq_true_eq,decide_eq_false_iff_not] at h<;>simp only[aG,aQ]<;>omega
 ·omega
 ·omega
def anQ{l:List Tk}{B:Int×Int->Option ((Int×Int)⊕(Int⊕(Int×Int)))}(hb:∀(i:Nat) (t:Tk) (d:Int),l[i]? =some t->0<=d->d<=40->B (d,(i:Int))=some (bif decide (nst d t.kind>40) then .inr (.inl (i:Int)) else .inl (nst d t.kind,((i+1:Nat):Int))))
  (he:∀d,B (d,(l.length:Int))=some (.inr (.inr (d,(l.length:Int))))):∀(n i:Nat) (d:Int),l.length - i=n->i<=l.length->0<=d->d<=40->∃d',fJ B (d,(i:Int))=some (match Lc d i (l.drop i) with|some p=> .inl (p:Int)|none=> .inr (d',(l.length:Int)))
 |0,i,d,hn,hi,_,_=>by obtain rfl:i=l.length:=ak;rw[List.drop_length,Lc];exact⟨d,aT (he d)⟩
 |n+1,i,d,hn,hi,h0,h1=>by
  have h2:i<l.length:=ak;obtain⟨t,ht⟩:∃t,l[i]? =some t:=⟨l[i],by simp[h2]⟩
  have hd:l.drop i=t::l.drop (i+1):=by rw[List.drop_eq_getElem_cons h2];rw[List.getElem?_eq_getElem h2] at ht;rw[Option.some.inj ht]
  have h:=hb i t d ht h0 h1;have hr:=aye (k:=t.kind) h0 h1;rw[hd,Lc]
  by_cases hg:nst d t.kind>40
  ·rw[zdt hg,aG] at h|-;exact⟨0,aT h⟩
  ·rw[vG hg,aQ] at h|-;obtain⟨d',h'⟩:=anQ hb he n (i+1) (nst d t.kind) ak ak hr.1 ak;exact⟨d',by rw[cu h,h']⟩
def aha(l:List Tk):Int:=match Lc 0 0 l with
 |some p=>p
 |none=> -1
def auU{k op:Int}{x y:aC}{a b:ay}(h:a.length=b.length):M.bJ k op x y a=M.bJ k op x y b:=by simp only[M.bJ,M.bY,M.dZ,M.dQ,M.fV,M.fG,M.dW,M.dR,h]
def aFU{k op:Int}{x y:aC}{a b:ay}{j d:Int}(h:a.length=b.length):M.dN k op x y a j d=M.dN k op x y b j d:=by simp only[M.dN,M.dX,M.bZ,h]
def aFV{k op:Int}{x y:aC}{a b:List Int}(h:a.length=b.length):fOk ⟨k,op,x,y,a⟩=fOk ⟨k,op,x,y,b⟩:=by unfold fOk;rw[auU (a:=encI a) (b:=encI b) (by rw[eH,eH,h])]
def aFW{k op:Int}{x y:aC}{a b:List Int}{j d:Int}(h:a.length=b.length):kOk ⟨k,op,x,y,a⟩ j d=kOk ⟨k,op,x,y,b⟩ j d:=by unfold kOk;rw[aFU (a:=encI a) (b:=encI b) (by rw[eH,eH,h])]
mutual
def Og:Tn->Prop
 | .mk k op x y ks=>fOk ⟨k,op,x,y,ends ks 0⟩=true/\(∀(j:Nat) (u:Tn),ks[j]? =some u->kOk ⟨k,op,x,y,ends ks 0⟩ j u.kind=true)/\alj ks
def alj:List Tn->Prop
 |[]=>True
 |t::ts=>Og t/\alj ts
end
def aeI:∀{ks:List Tn},alj ks↔∀t,t∈ks->Og t
 |[]=>by rw[alj];simp
 |t::ts=>by rw[alj,aeI];simp
def asI(ks:List Tn)(b c:Nat):(ends ks b).length=(ends ks c).length:=by rw[jr,jr]
def ayf{l:List Nd}{b:Nat}{t:Tn}(h:Lies l b t):(aue l (b+sizes t.kids)).kind=t.kind:=by rw[aue,Lies.root' h]
def alk{α:Type}{p:Nat->α->Bool}:∀{l:List α} {i:Nat},(∀j x,l[j]? =some x->p (i+j) x=true)->Yu p l i=true
 |[],i,h=>rfl
 |y::l,i,h=>by rw[Yu,rZ];exact⟨h 0 y rfl,alk λj x hx=>by have:=h (j+1) x (by simpa using hx);rwa [show i+1+j=i+(j+1) by omega]⟩
def alm:∀(ks:List Tn) (m:Nat),m<sizes ks->∃a t c,ks=a++t::c/\sizes a<=m/\m<sizes a+t.size
 |[],m,h=>by simp[sizes] at h
 |t::ts,m,h=>by
  rw[sizes] at h
  by_cases hm:m<t.size
  ·exact⟨[],t,ts,rfl,by simp[sizes],by simp only[sizes];omega⟩
  ·obtain⟨a,u,c,h1,h2,h3⟩:=alm ts (m - t.size) ak;refine⟨t::a,u,c,by rw[h1];rfl, ?_, ?_⟩<;>rw[sizes]<;>omega
def aFX{l:List Nd}:∀(t:Tn) (b:Nat),Lies l b t->Og t->∀i,b<=i->i<b+t.size->∃u c,Lies l c u/\Og u/\c+sizes u.kids=i:=by
 intro t;induction t using Tn.ind with
 |h k o x y ks ih=>
  intro b h hg i h1 h2;rw[Tn.size] at h2
  by_cases he:i=b+sizes ks
  ·exact⟨_,b,h,hg,he.symm⟩
  ·obtain⟨a,t,c,e,h3,h4⟩:=alm ks (i - b) ak;subst e;rw[Og] at hg;exact ih t (by simp) (b+sizes a) h.kid (aeI.1 hg.2.2 t (by simp)) i ak ak
def aZ3{T:Tn}(hg:Og T):Yu (np (T.flat 0)) (T.flat 0) 0=true:=by
 refine alk λi n hn=> ?_
 have hi:=(NV.1 hn).1;rw[T.flat_length] at hi;obtain⟨u,c,h1,h2,h3⟩:=aFX T 0 (Lies.whole T) hg i (Nat.zero_le _) ak;have hr:=Lies.root' h1;rw[h3,hn] at hr;obtain⟨k,op,x,y,ks⟩:=u;simp only[Tn.kind,Tn.op,Tn.text,Tn.other,Tn.kids,jW] at hr;subst hr;rw[Og] at h2;unfold np;rw[rZ];refine⟨by rw[aFV (asI ks c 0)];exact h2.1,alk λj e he=> ?_⟩;have hjl:=(NV.1 he).1;rw[jr] at hjl;obtain⟨u,hu⟩:∃u,ks[j]? =some u:=⟨ks[j],by simp[hjl]⟩
 have h4:=afC (b:=c) hu;rw[he] at h4;simp only[jW] at h4;subst h4;unfold kp;rw[Zt,ayf (Lies.aes h1 hu),Nat.zero_add,aFW (asI ks c 0)];exact h2.2.1 j u hu
def aBz:∀(l:List Int) (a:Int),a<=mx a l/\∀x,x∈l->x<=mx a l
 |[],a=>⟨Int.le_refl _,by simp⟩
 |y::l,a=>by
  rw[mx];obtain⟨h1,h2⟩:=aBz l (bif decide (a<y) then y else a);have:a<=(bif decide (a<y) then y else a)/\y<=(bif decide (a<y) then y else a):=by
   by_cases c:a<y
   ·rw[zdt c,aG];omega
   ·rw[vG c,aQ];omega
  refine⟨ak,λx hx=> ?_⟩;rcases List.mem_cons.1 hx with rfl|hx
  ·omega
  ·exact h2 x hx
def XV:∀(ks:List Tn) (a:Int),depths a ks=mx a (ks.map Tn.depth)
 |[],a=>by rw[depths];rfl
 |t::ts,a=>by rw[depths,XV ts];rfl
def ayg{l:List Nd}:∀(t:Tn) (b:Nat),Lies l b t->∀f,t.size<=f->dep l f (b+sizes t.kids)=t.depth:=by
 intro t;induction t using Tn.ind with
 |h k op x y ks ih=>
  intro b h f hf;rw[Tn.size] at hf;obtain⟨f,rfl⟩:∃g,f=g+1:=⟨f - 1,ak⟩
  have e:(ends ks b).map (λk=>dep l f k.toNat)=ks.map Tn.depth:=by
   apply List.ext_getElem?;intro j;rw[List.getElem?_map,List.getElem?_map];cases hu:ks[j]? with
   |none=>
    have:(ends ks b)[j]? =none:=by rw[List.getElem?_eq_none_iff] at hu|-;rw[jr];exact hu
    rw[this];rfl
   |some u=>rw[afC (b:=b) hu];have hm:=WW hu;have hs:=EC hm;simp only[Nw,Zt];rw[ih u hm _ (Lies.aes h hu) f ak]
  rw[Tn.kids,dep,abA h.root,Tn.depth,XV,<-e]
def WS{α:Type}:List (List α)->Nat
 |[]=>0
 |x::l=>x.length+WS l
def awy{α:Type}:∀(L:List (List α)) (j:Nat),(IK L j).length<=WS L
 |[],j=>by simp[IK,WS]
 |x::l,0=>by simp[IK,WS]
 |x::l,j+1=>by have:=awy l j;simp only[IK,List.getElem?_cons_succ,WS] at this|-;omega
def aln:∀(L:List (List Tk)) (b:Bool),(uX b L).length<=WS L+L.length
 |[],b=>by simp[uX,WS]
 |x::l,b=>by have:=aln l false;cases b<;>simp only[uX,WS,aG,aQ,wM,yS]<;>omega
def aFY{α:Type}:∀(L:List (List α)),(IK L 0).length+((IK L 1).length+(IK L 2).length)<=WS L
 |[]=>by simp[IK,WS]
 |[x]=>by simp[IK,WS]
 |[x,y]=>by simp[IK,WS]
 |x::y::z::l=>by simp[IK,WS]
def IG{α:Type}{a b:List α}{N:Nat}(c:Bool)(ha:a.length<=N)(hb:b.length<=N):(bif c then a else b).length<=N:=by cases c<;>assumption
def aBA(k op:Int)(n:Nat)(x:aC)(L:List (List Tk)):(D8 k op n x L).length<=WS L+L.length+4:=by
 have h1:=aln L true;have h2:=awy L 0;have h3:=aFY L;have h4:(bif Nat.blt 1 n then tok 32::(uX true L++[tok 33]) else IK L 0:List Tk).length<=WS L+L.length+2:=IG _ (by simp only[yS,wM,SS];omega) ak;have h5:(bif op==99 then[] else[tok op]:List Tk).length<=1:=IG _ (by simp) (by simp);unfold D8;refine IG _ ?_ (IG _ ?_ (IG _ ?_ (IG _ ?_ (IG _ ?_ (IG _ ?_ (IG _ ?_ (IG _ ?_ (IG _ ?_ (IG _ ?_ (IG _ ?_ (IG _ ?_ ?_)))))))))))
 all_goals(simp only[yS,wM,SS];omega)
def afZ(k op:Int)(n:Nat)(p:Ps):∀(ts:List Tn) (j:Nat),(fF k op n p ts j).length=ts.length
 |[],j=>by rw[fF];rfl
 |t::ts,j=>by rw[fF,yS,afZ k op n p ts (j+1),yS]
def Np(k op:Int)(n:Nat)(p:Ps)(j:Nat)(u:Tn):List Tk:=bif kM k j||fits u.kind u.op (aU k op n j p) then mV u (aU k op n j p) else tok 32::(mV u .top++[tok 33])
def asJ{k op:Int}{n:Nat}{p:Ps}{j:Nat}{u:Tn}(h:∀q,(mV u q).length+4<=8 * u.size):(Np k op n p j u).length+2<=8 * u.size:=by
 unfold Np;cases(kM k j||fits u.kind u.op (aU k op n j p)) with
 |true=>have:=h (aU k op n j p);rw[aG];omega
 |false=>have:=h .top;simp only[aQ,yS,wM,SS];omega
def anR{k op:Int}{n:Nat}{p:Ps}:∀{ts:List Tn} {j:Nat},(∀u,u∈ts->∀q,(mV u q).length+4<=8 * u.size)->WS (fF k op n p ts j)+2 * ts.length<=8 * sizes ts
 |[],j,_=>by rw[fF,WS,sizes];simp
 |t::ts,j,h=>by
  have h1:=asJ (k:=k) (op:=op) (n:=n) (p:=p) (j:=j) (h t zmf);have h2:=anR (k:=k) (op:=op) (n:=n) (p:=p) (ts:=ts) (j:=j+1) λu hu=>h u (zmm _ hu)
  unfold Np at h1;rw[fF,WS,sizes,yS];omega
def QA(t:Tn):∀q,(mV t q).length+4<=8 * t.size:=by refine Tn.ind (P:=λt=>∀q,(mV t q).length+4<=8 * t.size) ?_ t;intro k op x y ks ih q;have h1:=aBA k op ks.length x (fF k op ks.length q ks 0);have h2:=anR (k:=k) (op:=op) (n:=ks.length) (p:=q) (ts:=ks) (j:=0) ih;rw[afZ] at h1;rw[mV,Tn.size];omega
def anS(t:Tn)(q:Ps):(lu t q).length+2<=8 * t.size:=by
 have h1:=QA t q;have h2:=QA t .top;unfold lu;cases fits t.kind t.op q with
 |true=>rw[aG];omega
 |false=>simp only[aQ,yS,wM,SS];omega
@[simp] theorem mW(l:List Tk):aj (aF l)=true:=by simp only[aj,aF,List.all_map,List.all_eq_true];intro x _;rfl
def oH(a b:List Tk):aF (a++b)=aF a++aF b:=by simp[aF]
def SQ(k:Int):([[D.int .i64 k,D.str (spell k),D.int .i64 0]]:ay)=aF [tok k]:=rfl
def ahb(k op:Int)(n:Nat)(p:Ps)(u:Tn):fF k op n p [u] 0=[Np k op n p 0 u]:=by rw[fF,fF];rfl
def apx(k op:Int)(n:Nat)(p:Ps)(u v:Tn):fF k op n p [u,v] 0=[Np k op n p 0 u,Np k op n p 1 v]:=by rw[fF,fF,fF];rfl
def aKj(k op:Int)(n:Nat)(p:Ps)(u v z:Tn):fF k op n p [u,v,z] 0=[Np k op n p 0 u,Np k op n p 1 v,Np k op n p 2 z]:=by rw[fF,fF,fF,fF];rfl
def sz1(u:Tn):sizes [u]=u.size:=by simp[sizes]
def sz2(u v:Tn):sizes [u,v]=u.size+v.size:=by simp[sizes]
def sz3(u v z:Tn):sizes [u,v,z]=u.size+(v.size+z.size):=by simp[sizes]
def alo{α:Type}{l:List α}(h:l.length=2):∃a b,l=[a,b]:=by
 match l,h with
 |[a,b],_=>exact⟨a,b,rfl⟩
def asK{α:Type}{l:List α}(h:l.length=3):∃a b c,l=[a,b,c]:=by
 match l,h with
 |[a,b,c],_=>exact⟨a,b,c,rfl⟩
def awz{op:Int}(h:iT op≠0):I64 op:=by
 by_cases hr:0<=op/\op<=99
 ·constructor<;>omega
 ·exfalso;apply h;have e:∀z:Int,0<=z->z<=99->(op==z)=false:=λz h1 h2=>by rw[mX];omega
  simp only[iT,e 44 (by decide) (by decide),e 45 (by decide) (by decide),e 67 (by decide) (by decide),e 46 (by decide) (by decide),e 63 (by decide) (by decide),e 48 (by decide) (by decide),e 47 (by decide) (by decide),e 50 (by decide) (by decide),e 62 (by decide) (by decide),e 49 (by decide) (by decide),e 99 (by decide) (by decide),e 55 (by decide) (by decide),e 56 (by decide) (by decide),e 57 (by decide) (by decide),e 58 (by decide) (by decide),e 59 (by decide) (by decide),e 60 (by decide) (by decide),Bool.or_false,aQ]
def ayh:((1:Nat):Int)=1:=rfl
def aSi:((2:Nat):Int)=2:=rfl
def room{n:Nat}(h:n<=1000000000):n.ble 140737488355328=true:=bC ak
def PI{n:Nat}(h:n<=1000000000):(n * 32).ble 140737488355328=true:=bC ak
def abm{k op:Int}{x y:aC}{r:ay}{j:Nat}{p:Ps}(he:1<=k/\k<=15)(hc:Cnt k op y r.length)(hj:j<r.length)(hr:r.length<=1048576):
  M.fQ k op x y r (j:Int) p.level p.yQ p.Ad p.Du p.ng=some (aU k op r.length j p).Kv:=by
 have hb:Nat.blt j r.length=true:=by rw[Nat.blt_eq];exact hj
 have hl:=Ui he hc;have hz:(lvl k op==0)=false:=by rw[mX];omega
 have ho:=SA op;have h15:(iT op==15)=false:=by rw[mX];omega
 have h2:k=12->j=0\/j=1:=λe=>by have:=hc.two ak;omega
 have hk:k=1\/k=2\/k=3\/k=4\/k=5\/k=6\/k=7\/k=8\/k=9\/k=10\/k=11\/k=13\/k=14\/k=15\/k=12:=ak;simp only[M.fQ,M.Rh,av4 p,kF,aEK j r.length hr,hb,anz k op x y r,hz,auj,ahW,ah,many,nb0,gt0,aU,zaP,Bool.false_or,aQ];cases jL p with
 |false=>rfl
 |true=>
  rcases hk with rfl|rfl|rfl|rfl|rfl|rfl|rfl|rfl|rfl|rfl|rfl|rfl|rfl|rfl|rfl
  case inr.inr.inr.inr.inr.inr.inr.inr.inr.inr.inr.inr.inr.inr=>have hl12:lvl 12 op=iT op:=rfl;rw[hl12,h15];rcases h2 rfl with rfl|rfl<;>cases p.ng<;>simp[Ps.Kv,abe,show Nat.beq 1 0=false from rfl]
  all_goals(cases p.ng<;>cases hq:Nat.beq j 0<;>cases hm:Nat.blt 1 r.length<;>simp[lvl,Ps.Kv,Ps.top,abe,hq,hm])
def PS(t:Tn):Prop:=∀(o:Bool) (f:Nat) (p:Ps) (l:List Nd) (b:Nat),l.length<=1048576->Lies l b t->5 * t.size<=f->jL p=true->
 M.Jc f (dD o l) false ((b+sizes t.kids:Nat):Int) p.level p.yQ p.Ad p.Du p.ng=some (aF (mV t p))
def aSj{u:Tn}(hS:PS u){o:Bool}{f:Nat}{p:Ps}{l:List Nd}{b:Nat}(hl:l.length<=1048576)(h:Lies l b u)(hf:5 * u.size+1<=f)(hp:jL p=true):
  M.xk f (dD o l) false ((b+sizes u.kids:Nat):Int) p.level p.yQ p.Ad p.Du p.ng=some (aF (lu u p)):=by
 obtain⟨g,rfl⟩:∃g,f=g+1:=⟨f - 1,ak⟩
 have hlt:=h.lt;have h1:=hS o g p l b hl h ak hp;have h2:=hS o g .top l b hl h ak rfl;have hb:=QA u .top;have hr:idx (dD o l) ((b+sizes u.kids:Nat):Int)=some (PO o ⟨u.kind,u.op,u.text,u.other,ends u.kids b⟩):=by rw[dn,mG,Lies.root' h];rfl
 have e1:=(Jq 32 (by constructor<;>decide))
 have e2:=(Jq 33 (by constructor<;>decide))
 simp only[Ps.top] at h2 hb;rw[M.aoR];simp only[yH,M.JQ,M.KT,M.Rj,hr,ah,Yk,YS,YT,YU,Vz,aAt u.kind u.op u.text u.other _ p,Bool.not_false,aG,aQ,lu];cases fits u.kind u.op p with
 |true=>simp only[aG,h1,ah,mW]
 |false=>simp(disch:=omega) only[aQ,e1,e2,ahW,ah,h2,SQ,<-oH,gZ,wM,GK,yS,SS,room,PI,mW,aG,Ps.top];rfl
def anT:∀(L:List (List Tk)) (b:Bool) (x:List Tk),uX b (L++[x])=uX b L++(bif L.isEmpty && b then x else tok 36::x)
 |[],b,x=>by cases b<;>simp[uX]
 |y::L,b,x=>by rw[zca,uX,uX,anT L false x];simp
def Jt(ks:List Tn):List (List Tk):=ks.map λu=>lu u .top
def anU:∀ks:List Tn,WS (Jt ks)+2 * ks.length<=8 * sizes ks
 |[]=>by simp[Jt,WS,sizes]
 |t::ts=>by have h1:=anS t .top;have h2:=anU ts;simp only[Jt,zmc,WS,sizes,yS] at h2|-;omega
def aeJ(ks:List Tn)(b:Bool):(uX b (Jt ks)).length<=9 * sizes ks:=by
 have h1:=aln (Jt ks) b;have h2:=anU ks;have h3:(Jt ks).length=ks.length:=by simp[Jt]
 omega
def alp{k op:Int}{n:Nat}{p:Ps}(ht:∀j,kM k j=false)(hq:∀j,j<n->aU k op n j p=.top):∀(ts:List Tn) (j:Nat),j+ts.length=n->fF k op n p ts j=Jt ts
 |[],j,_=>by rw[fF];rfl
 |t::ts,j,hj=>by rw[yS] at hj;rw[fF,hq j ak,ht j,alp ht hq ts (j+1) ak,Bool.false_or];rfl
def At(l:List Nd)(b:Nat)(ks:List Tn):Prop:=∀j u,ks[j]? =some u->Lies l (b+sizes (ks.take j)) u
def RD{ks:List Tn}{b j:Nat}{u:Tn}(hj:ks[j]? =some u):idx (encI (ends ks b)) (j:Int)=some [D.int .i64 ((b+sizes (ks.take j)+sizes u.kids:Nat):Int)]:=by rw[dn,Ey,afC hj];rfl
def aBB{ks:List Tn}(ih:∀u,u∈ks->PS u){o:Bool}{f:Nat}{l:List Nd}{b:Nat}(hl:l.length<=1048576)(hat:At l b ks)(hf:5 * sizes ks+2<=f)(hu:sizes ks<=1048575):
  M.Jb f (dD o l) false (encI (ends ks b))=some (aF (uX true (Jt ks))):=by
 obtain⟨g,rfl⟩:∃g,f=g+1:=⟨f - 1,ak⟩
 have hkl:=BN ks;have e1:=(Jq 36 (by constructor<;>decide))
 have hloop:=vW (b:=M.Ih (M.xk g) (encI (ends ks b)) (dD o l) false) (t:=((ks.length:Int),aF (uX true (Jt ks)))) (λj=>((j:Int),aF (uX true (Jt (ks.take j))))) ks.length
  (by
   intro j hj;obtain⟨u,hu'⟩:∃u,ks[j]? =some u:=⟨ks[j],by simp[hj]⟩
   have hus:=EC (WW hu');have hst:=Nh hu';have ha:=aSj (ih u (WW hu')) (o:=o) (f:=g) (p:=.top) hl (hat j u hu') ak rfl;have hi:=RD (b:=b) hu';have hel:=anS u .top;have hcl:=aeJ (ks.take j) true;have hsn:uX true (Jt (ks.take (j+1)))=uX true (Jt (ks.take j))++(bif(Jt (ks.take j)).isEmpty && true then lu u .top else tok 36::lu u .top):=by rw[qW hu',Jt,List.map_append];exact anT _ _ _
   have hw:i64.wrap ((j:Int)+1)=((j+1:Nat):Int):=by rw[aS ak ak];omega
   simp only[Ps.top] at ha hel;rw[hsn];simp only[yH,M.Ih,M.CU,eH,jr];rw[zdt ak,aG]
   by_cases h0:j=0
   ·subst h0;rw[vG ak,aQ];have z:(Jt (ks.take 0)).isEmpty=true:=rfl;simp(disch:=omega) only[hi,ah,Zq,ahW,ha,<-oH,gZ,wM,room,PI,aG,hw,z,Bool.and_true,Ps.top]
   ·rw[zdt ak,aG];have z:(Jt (ks.take j)).isEmpty=false:=by
     have hl2:(Jt (ks.take j)).length=j:=by rw[Jt,zaR,zlt];omega
     cases hq:Jt (ks.take j) with
     |nil=>rw[hq,SS] at hl2;omega
     |cons _ _=>rfl
    simp(disch:=omega) only[hi,ah,Zq,ahW,ha,e1,SQ,<-oH,gZ,wM,GK,yS,SS,room,PI,aG,aQ,hw,z,Bool.false_and,Ps.top];simp)
  (by simp only[yH,M.Ih,M.CU,eH,jr];rw[vG ak,aQ,List.take_length]) 0 (Nat.zero_le _)
 have e0:aF (uX true (Jt (ks.take 0)))=[]:=rfl;rw[MW,e0] at hloop;rw[M.aks];simp only[M.ER,M.LW,hloop,ah,mW,aG]
def adF{ks:List Tn}(ih:∀u,u∈ks->PS u){o:Bool}{f:Nat}{l:List Nd}{b:Nat}{k op:Int}{x y:aC}{p:Ps}{j:Nat}{u:Tn}(he:1<=k/\k<=15)(hc:Cnt k op y ks.length)(hp:jL p=true)(hl:l.length<=1048576)(hat:At l b ks)(hf:5 * sizes ks+1<=f)(hu:sizes ks<=1048575)(hj:ks[j]? =some u)(ht:kM k j=false):
  (idx (encI (ends ks b)) (j:Int)=some [D.int .i64 ((b+sizes (ks.take j)+sizes u.kids:Nat):Int)]/\
   M.fQ k op x y (encI (ends ks b)) (j:Int) p.level p.yQ p.Ad p.Du p.ng=some (aU k op ks.length j p).Kv/\
   M.xk f (dD o l) false ((b+sizes (ks.take j)+sizes u.kids:Nat):Int) (aU k op ks.length j p).Kv.1 (aU k op ks.length j p).Kv.2.1 (aU k op ks.length j p).Kv.2.2.1 (aU k op ks.length j p).Kv.2.2.2.1 (aU k op ks.length j p).Kv.2.2.2.2=some (aF (Np k op ks.length p j u)))/\(Np k op ks.length p j u).length+2<=8 * u.size:=by
 have hkl:=BN ks;have hus:=EC (WW hj);have hjl:j<ks.length:=(NV.1 hj).1;have hen:(encI (ends ks b)).length=ks.length:=by rw[eH,jr]
 have hlv:lvl k op≠0:=by have:=Ui he hc;omega
 refine⟨⟨RD hj, ?_, ?_⟩,asJ (QA u)⟩
 ·have h:=abm (x:=x) (r:=encI (ends ks b)) (j:=j) (p:=p) he (by rw[hen];exact hc) ak ak;rw[hen] at h;exact h
 ·have h:=aSj (ih u (WW hj)) (o:=o) (f:=f) (p:=aU k op ks.length j p) hl (hat j u hj) ak (jF hp hjl hlv);rw[Np,ht,Bool.false_or];exact h
def apy{ks:List Tn}(ih:∀u,u∈ks->PS u){o:Bool}{f:Nat}{l:List Nd}{b:Nat}(hl:l.length<=1048576)(hat:At l b ks)(hf:5 * sizes ks+3<=f)(hu:sizes ks<=1048575)(t':Int)(x:aC)(c:Int)(hop:c=32\/c=34):
  M.LX f (dD o l) false t' x 0 (encI (ends ks b)) c=some (aF (⟨t',x,0⟩::tok c::(uX true (Jt ks)++[tok (c+1)]))):=by
 obtain⟨g,rfl⟩:∃g,f=g+1:=⟨f - 1,ak⟩
 have h1:=aBB ih (o:=o) (f:=g) (b:=b) hl hat ak hu;have h2:=aeJ ks true;have e1:=(Jq c (by rcases hop with rfl|rfl<;>constructor<;>decide))
 have e2:=(Jq (c+1) (by rcases hop with rfl|rfl<;>constructor<;>decide))
 have e3:i64.wrap (c+1)=c+1:=by rcases hop with rfl|rfl<;>rfl
 have hr:([[D.int .i64 t',D.str x,D.int .i64 0],[D.int .i64 c,D.str (spell c),D.int .i64 0]]:ay)=aF [⟨t',x,0⟩,tok c]:=rfl;rw[M.ain];simp(disch:=omega) only[yH,M.BI,e1,e2,e3,h1,ah,hr,SQ (c+1),<-oH,gZ,wM,GK,yS,SS,room,PI,mW,aG];simp
def alq{u:Tn}(hS:PS u)(hok:Kz u)(he:PW u)(hh:13<=lvl u.kind u.op){o:Bool}{f:Nat}{l:List Nd}{b:Nat}(hl:l.length<=1048576)(h:Lies l b u)(hf:5 * u.size+1<=f)(p:Ps)(hp:jL p=true):
  M.JR f (dD o l) false ((b+sizes u.kids:Nat):Int)=some (aF (mV u p)):=by
 obtain⟨g,rfl⟩:∃g,f=g+1:=⟨f - 1,ak⟩
 have h1:=hS o g ⟨14,false,false,false,false⟩ l b hl h ak rfl;rw[auh u hok hh he _ p rfl hp] at h1;rw[M.agM];simp only[M.Aa,h1,ah,mW,aG]
def abn(k:Int)(h:k=12\/k=14\/k=6\/k=11\/k=13)(j:Nat):kM k j=false:=by rcases h with rfl|rfl|rfl|rfl|rfl<;>simp[kM]
def awC{ks:List Tn}(ih:∀u,u∈ks->PS u){o:Bool}{f:Nat}{l:List Nd}{b:Nat}{k op:Int}{x y:aC}{p:Ps}(hk:k=12\/k=14)(hc:Cnt k op y ks.length)(hp:jL p=true)(hl:l.length<=1048576)(hat:At l b ks)(hf:5 * sizes ks+2<=f)(hu:sizes ks<=1048575):
  M.LY f (dD o l) false k op x y (encI (ends ks b)) p.level p.yQ p.Ad p.Du p.ng=some (aF (D8 k op ks.length x (fF k op ks.length p ks 0))):=by
 obtain⟨g,rfl⟩:∃g,f=g+1:=⟨f - 1,ak⟩
 rw[M.aio];rcases hk with rfl|rfl
 ·obtain⟨u,v,rfl⟩:=alo (hc.two ak);have hsz:=sz2 u v;obtain⟨⟨a1,a2,a3⟩,a4⟩:=adF ih (o:=o) (f:=g) (b:=b) (k:=12) (op:=op) (x:=x) (y:=y) (p:=p) (j:=0) (u:=u) ak hc hp hl hat ak hu rfl (abn 12 ak 0);obtain⟨⟨b1,b2,b3⟩,b4⟩:=adF ih (o:=o) (f:=g) (b:=b) (k:=12) (op:=op) (x:=x) (y:=y) (p:=p) (j:=1) (u:=v) ak hc hp hl hat ak hu rfl (abn 12 ak 1);rw[MW] at a1 a2;rw[ayh] at b1 b2;generalize (aU 12 op [u,v].length 0 p).Kv=q0 at a2 a3;generalize hk0:Np 12 op [u,v].length p 0 u=K0 at a3 a4;generalize (aU 12 op [u,v].length 1 p).Kv=q1 at b2 b3;generalize hk1:Np 12 op [u,v].length p 1 v=K1 at b3 b4;rw[apx,hk0,hk1]
  by_cases h99:op=99
  ·have e99:(op !=99)=false:=by simp[h99]
   simp(disch:=omega) only[yH,M.vg,a1,a2,a3,b1,b2,b3,Zq,ah,Int.reduceBEq,e99,aQ,<-oH,gZ,wM,GK,yS,SS,room,PI,mW,aG];simp[D8,IK,h99]
  ·have e99:(op !=99)=true:=by simpa using h99
   have e98:(op==99)=false:=by simpa using h99
   have e1:=(Jq op (awz (hc.bin rfl).1))
   simp(disch:=omega) only[yH,M.vg,a1,a2,a3,b1,b2,b3,e1,Zq,ah,Int.reduceBEq,e99,aQ,SQ,<-oH,gZ,wM,GK,yS,SS,room,PI,mW,aG];simp[D8,IK,e98]
 ·obtain⟨u,v,z,rfl⟩:=asK (hc.three rfl);have hsz:=sz3 u v z;obtain⟨⟨a1,a2,a3⟩,a4⟩:=adF ih (o:=o) (f:=g) (b:=b) (k:=14) (op:=op) (x:=x) (y:=y) (p:=p) (j:=0) (u:=u) ak hc hp hl hat ak hu rfl (abn 14 ak 0);obtain⟨⟨b1,b2,b3⟩,b4⟩:=adF ih (o:=o) (f:=g) (b:=b) (k:=14) (op:=op) (x:=x) (y:=y) (p:=p) (j:=1) (u:=v) ak hc hp hl hat ak hu rfl (abn 14 ak 1);obtain⟨⟨c1,c2,c3⟩,c4⟩:=adF ih (o:=o) (f:=g) (b:=b) (k:=14) (op:=op) (x:=x) (y:=y) (p:=p) (j:=2) (u:=z) ak hc hp hl hat ak hu rfl (abn 14 ak 2);rw[MW] at a1 a2;rw[ayh] at b1 b2;rw[aSi] at c1 c2;generalize (aU 14 op [u,v,z].length 0 p).Kv=q0 at a2 a3;generalize hk0:Np 14 op [u,v,z].length p 0 u=K0 at a3 a4;generalize (aU 14 op [u,v,z].length 1 p).Kv=q1 at b2 b3;generalize hk1:Np 14 op [u,v,z].length p 1 v=K1 at b3 b4;generalize (aU 14 op [u,v,z].length 2 p).Kv=q2 at c2 c3;generalize hk2:Np 14 op [u,v,z].length p 2 z=K2 at c3 c4;rw[aKj,hk0,hk1,hk2];have e1:=(Jq 65 (by constructor<;>decide))
  have e2:=(Jq 66 (by constructor<;>decide))
  simp(disch:=omega) only[yH,M.vg,a1,a2,a3,b1,b2,b3,c1,c2,c3,e1,e2,Zq,ah,Int.reduceBEq,aQ,SQ,<-oH,gZ,wM,GK,yS,SS,room,PI,mW,aG];simp[D8,IK]
def af0{k op:Int}{ks:List Tn}{p:Ps}(hp:jL p=true)(h:(lvl k op=15)\/(k=13/\Nat.blt 1 ks.length=true/\lvl k op≠0))(ht:∀j,kM k j=false):fF k op ks.length p ks 0=Jt ks:=by
 refine alp ht (λj hj=> ?_) ks 0 ak;rcases h with h|⟨h1,h2,h3⟩
 ·exact Gy hp hj h
 ·have hb:Nat.blt j ks.length=true:=by rw[Nat.blt_eq];exact hj
  have h4:(lvl k op==0)=false:=by simpa using h3
  subst h1;unfold aU;rw[hp,hb,h4,h2];simp
def ai3(k:Int)(x:aC):([[D.int .i64 k,D.str x,D.int .i64 0]]:ay)=aF [⟨k,x,0⟩]:=rfl
def asL(x:aC):([[D.int .i64 24,D.str (spell 24),D.int .i64 0],[D.int .i64 6,D.str x,D.int .i64 0]]:ay)=aF [tok 24,⟨6,x,0⟩]:=rfl
set_option maxHeartbeats 2000000 in
def ayi(t:Tn):Kz t->PW t->t.size<=1048576->PS t:=by
 refine Tn.ind (P:=λt=>Kz t->PW t->t.size<=1048576->PS t) ?_ t;intro k op x y ks ih hok he hsz;intro o f p l b hl h hf hp;have aZ4:=h;simp only[PW,Tn.kind] at he;have hc:=Vg hok;have hsz':sizes ks+1=(Tn.mk k op x y ks).size:=by rw[Tn.size]
 have ih':∀u,u∈ks->PS u:=by intro u hu;obtain⟨i,hi⟩:=List.mem_iff_getElem?.1 hu;obtain⟨h1,h2⟩:=abf hok he hi;have:=EC hu;exact ih u hu h2 h1 ak
 have hat:At l b ks:=λj u hj=>Lies.aes h hj
 obtain⟨g,rfl⟩:∃g,f=g+1:=⟨f - 1,ak⟩
 have hr:idx (dD o l) ((b+sizes ks:Nat):Int)=some (PO o ⟨k,op,x,y,ends ks b⟩):=by have hr0:l[b+sizes ks]? =some ⟨k,op,x,y,ends ks b⟩:=Lies.root' h;rw[dn,mG,hr0];rfl
 have hkl:=BN ks;have tgt:∀{u:Tn},ks[0]? =some u->cls k op ks.length 0=6->Kz u/\PW u/\13<=lvl u.kind u.op:=by intro u hu hcls;obtain⟨h1,h2⟩:=abf hok he hu;obtain⟨h3,_⟩:=agV hok hu;rw[hcls] at h3;exact⟨h2,h1,(ao3 h3).1⟩
 rw[M.akt,Tn.kids];have hk:k=1\/k=2\/k=3\/k=4\/k=5\/k=7\/k=8\/k=6\/k=9\/k=10\/k=11\/k=13\/k=15\/k=12\/k=14:=ak;rw[mV];rcases hk with rfl|rfl|rfl|rfl|rfl|rfl|rfl|rfl|rfl|rfl|rfl|rfl|rfl|rfl|rfl
 ·simp only[yH,M.gV,M.fZ,hr,ah,Yk,YS,YT,YU,Vz,M.cZ,M.bW,Int.reduceBEq,Int.reduceBNe,aG,aQ,ai3];rfl
 ·simp only[yH,M.gV,M.fZ,hr,ah,Yk,YS,YT,YU,Vz,M.cZ,M.bW,Int.reduceBEq,Int.reduceBNe,aG,aQ,ai3];rfl
 ·simp only[yH,M.gV,M.fZ,hr,ah,Yk,YS,YT,YU,Vz,M.cZ,M.bW,Int.reduceBEq,Int.reduceBNe,aG,aQ,ai3];rfl
 ·simp only[yH,M.gV,M.fZ,hr,ah,Yk,YS,YT,YU,Vz,M.cZ,M.bW,Int.reduceBEq,Int.reduceBNe,aG,aQ,ai3];rfl
 ·have a1:=apy ih' (o:=o) (f:=g) (b:=b) hl hat ak ak 6 x 34 (.inr rfl);rw[af0 hp (.inl rfl) (λj=>by simp[kM])];simp only[yH,M.gV,M.fZ,hr,ah,Yk,YS,YT,YU,Vz,M.cZ,M.bW,Int.reduceBEq,Int.reduceBNe,aG,aQ,a1,mW];rfl
 ·have a1:=apy ih' (o:=o) (f:=g) (b:=b) hl hat ak ak 7 x 32 (.inl rfl);rw[af0 hp (.inl rfl) (λj=>by simp[kM])];simp only[yH,M.gV,M.fZ,hr,ah,Yk,YS,YT,YU,Vz,M.cZ,M.bW,Int.reduceBEq,Int.reduceBNe,aG,aQ,a1,mW];rfl
 ·have a1:=apy ih' (o:=o) (f:=g) (b:=b) hl hat ak ak 8 x 32 (.inl rfl);rw[af0 hp (.inl rfl) (λj=>by simp[kM])];simp only[yH,M.gV,M.fZ,hr,ah,Yk,YS,YT,YU,Vz,M.cZ,M.bW,Int.reduceBEq,Int.reduceBNe,aG,aQ,a1,mW];rfl
 ·obtain⟨u,rfl⟩:=zlo.1 (hc.one ak);have hs1:=sz1 u;have e1:=(Jq 68 (by constructor<;>decide))
  obtain⟨⟨a1,a2,a3⟩,a4⟩:=adF ih' (o:=o) (f:=g) (b:=b) (k:=6) (op:=op) (x:=x) (y:=y) (p:=p) (j:=0) (u:=u) ak hc hp hl hat ak ak rfl (abn 6 ak 0);rw[MW] at a1 a2;rw[ahb];generalize (aU 6 op [u].length 0 p).Kv=q0 at a2 a3;generalize Np 6 op [u].length p 0 u=K0 at a3 a4|-;simp(disch:=omega) only[yH,M.gV,M.fZ,hr,ah,Yk,YS,YT,YU,Vz,M.cZ,M.bW,Int.reduceBEq,Int.reduceBNe,aG,aQ,a1,a2,a3,e1,Zq,SQ,<-oH,gZ,wM,GK,yS,SS,room,PI,mW];simp[D8,IK]
 ·obtain⟨u,rfl⟩:=zlo.1 (hc.one ak);have hs1:=sz1 u;have e1:=(Jq op (by rcases hc.stp ak with rfl|rfl<;>constructor<;>decide))
  have a1:=RD (ks:=[u]) (b:=b) (j:=0) (u:=u) rfl;obtain⟨t1,t2,t3⟩:=tgt (u:=u) rfl (by simp[cls]);have a3:=alq (ih' u (by simp)) t1 t2 t3 (o:=o) (f:=g) (p:=aU 9 op [u].length 0 p) hl (hat 0 u rfl) (by rw[sz1] at hsz';omega) (jF hp (by simp) (by simp[lvl]));have a4:=QA u (aU 9 op [u].length 0 p);rw[sz1] at hsz';rw[MW] at a1;rw[ahb,Np,show kM 9 0=true from rfl,Bool.true_or,aG];generalize mV u (aU 9 op [u].length 0 p)=K0 at a3 a4|-;simp(disch:=omega) only[yH,M.gV,M.fZ,hr,ah,Yk,YS,YT,YU,Vz,M.cZ,M.bW,Int.reduceBEq,Int.reduceBNe,aG,aQ,a1,a3,e1,Zq,SQ,<-oH,gZ,wM,GK,yS,SS,room,PI,mW];simp[D8,IK]
 ·obtain⟨u,rfl⟩:=zlo.1 (hc.one ak);have hs1:=sz1 u;have e1:=(Jq op (by rcases hc.stp ak with rfl|rfl<;>constructor<;>decide))
  have a1:=RD (ks:=[u]) (b:=b) (j:=0) (u:=u) rfl;obtain⟨t1,t2,t3⟩:=tgt (u:=u) rfl (by simp[cls]);have a3:=alq (ih' u (by simp)) t1 t2 t3 (o:=o) (f:=g) (p:=aU 10 op [u].length 0 p) hl (hat 0 u rfl) (by rw[sz1] at hsz';omega) (jF hp (by simp) (by simp[lvl]));have a4:=QA u (aU 10 op [u].length 0 p);rw[sz1] at hsz';rw[MW] at a1;rw[ahb,Np,show kM 10 0=true from rfl,Bool.true_or,aG];generalize mV u (aU 10 op [u].length 0 p)=K0 at a3 a4|-;simp(disch:=omega) only[yH,M.gV,M.fZ,hr,ah,Yk,YS,YT,YU,Vz,M.cZ,M.bW,Int.reduceBEq,Int.reduceBNe,aG,aQ,a1,a3,e1,Zq,SQ,<-oH,gZ,wM,GK,yS,SS,room,PI,mW];simp[D8,IK]
 ·obtain⟨u,rfl⟩:=zlo.1 (hc.one ak);have hs1:=sz1 u;have e1:=(Jq op (by rcases hc.una ak with rfl|rfl|rfl<;>constructor<;>decide))
  obtain⟨⟨a1,a2,a3⟩,a4⟩:=adF ih' (o:=o) (f:=g) (b:=b) (k:=11) (op:=op) (x:=x) (y:=y) (p:=p) (j:=0) (u:=u) ak hc hp hl hat ak ak rfl (abn 11 ak 0);rw[MW] at a1 a2;rw[ahb];generalize (aU 11 op [u].length 0 p).Kv=q0 at a2 a3;generalize Np 11 op [u].length p 0 u=K0 at a3 a4|-;simp(disch:=omega) only[yH,M.gV,M.fZ,hr,ah,Yk,YS,YT,YU,Vz,M.cZ,M.bW,Int.reduceBEq,Int.reduceBNe,aG,aQ,a1,a2,a3,e1,Zq,SQ,<-oH,gZ,wM,GK,yS,SS,room,PI,mW];simp[D8,IK]
 ·have e1:=(Jq 24 (by constructor<;>decide))
  have e2:=(Jq 32 (by constructor<;>decide))
  have e3:=(Jq 33 (by constructor<;>decide))
  obtain⟨u,hu⟩:∃u,ks[0]? =some u:=by have:=hc.some_ ak;exact⟨ks[0],by simp⟩
  obtain⟨⟨a1,a2,a3⟩,a4⟩:=adF ih' (o:=o) (f:=g) (b:=b) (k:=13) (op:=op) (x:=x) (y:=y) (p:=p) (j:=0) (u:=u) ak hc hp hl hat ak ak hu (abn 13 ak 0);have hus:=EC (WW hu);rw[MW] at a1 a2;have hel:(encI (ends ks b)).length=ks.length:=by rw[eH,jr]
  cases hm:Nat.blt 1 ks.length with
  |true=>have b1:=aBB ih' (o:=o) (f:=g) (b:=b) hl hat ak ak;have b2:=aeJ ks true;rw[af0 hp (.inr ⟨rfl,hm,by simp[lvl]⟩) (λj=>by simp[kM])];simp(disch:=omega) only[yH,M.gV,M.fZ,hr,ah,Yk,YS,YT,YU,Vz,M.cZ,M.bW,Int.reduceBEq,Int.reduceBNe,aG,aQ,a1,a2,a3,b1,e1,e2,e3,Zq,hel,many,hm,asL,SQ 32,SQ 33,<-oH,gZ,wM,GK,yS,SS,room,PI,mW];simp[D8,hm]
  |false=>
   have h1:ks.length=1:=by
    have h2:=hc.some_ ak;have h3:¬1<ks.length:=by rw[<-Nat.blt_eq,hm];simp
    omega
   obtain⟨u',rfl⟩:=zlo.1 h1;obtain rfl:u'=u:=by simpa using hu
   rw[ahb];generalize (aU 13 op [u'].length 0 p).Kv=q0 at a2 a3;generalize Np 13 op [u'].length p 0 u'=K0 at a3 a4|-;simp(disch:=omega) only[yH,M.gV,M.fZ,hr,ah,Yk,YS,YT,YU,Vz,M.cZ,M.bW,Int.reduceBEq,Int.reduceBNe,aG,aQ,a1,a2,a3,e1,e2,e3,Zq,hel,many,hm,asL,<-oH,gZ,wM,GK,yS,SS,room,PI,mW];simp[D8,IK,show Nat.blt 1 1=false from rfl]
 ·obtain⟨u,v,rfl⟩:=alo (hc.two ak);have hsv:=sz2 u v;have e1:=(Jq op (by rcases hc.asg rfl with rfl|h<;>constructor<;>omega))
  have a1:=RD (ks:=[u,v]) (b:=b) (j:=0) (u:=u) rfl;obtain⟨t1,t2,t3⟩:=tgt (u:=u) rfl (by simp[cls]);have a3:=alq (ih' u (by simp)) t1 t2 t3 (o:=o) (f:=g) (p:=aU 15 op [u,v].length 0 p) hl (hat 0 u rfl) ak (jF hp (by simp) (by simp[lvl]));have a4:=QA u (aU 15 op [u,v].length 0 p);obtain⟨⟨b1,b2,b3⟩,b4⟩:=adF ih' (o:=o) (f:=g) (b:=b) (k:=15) (op:=op) (x:=x) (y:=y) (p:=p) (j:=1) (u:=v) ak hc hp hl hat ak ak rfl rfl;rw[MW] at a1;rw[ayh] at b1 b2;have e98:(op==99)=false:=by rw[mX];have:=hc.asg rfl;omega
  rw[apx]
  conv=>rhs;rw[Np,show kM 15 0=true from rfl,Bool.true_or,aG]
  generalize mV u (aU 15 op [u,v].length 0 p)=K0 at a3 a4|-;generalize (aU 15 op [u,v].length 1 p).Kv=q1 at b2 b3;generalize Np 15 op [u,v].length p 1 v=K1 at b3 b4|-;simp(disch:=omega) only[yH,M.gV,M.fZ,hr,ah,Yk,YS,YT,YU,Vz,M.cZ,M.bW,Int.reduceBEq,Int.reduceBNe,aG,aQ,a1,a3,b1,b2,b3,e1,Zq,SQ,<-oH,gZ,wM,GK,yS,SS,room,PI,mW];simp[D8,IK,e98]
 ·have a1:=awC ih' (o:=o) (f:=g) (b:=b) (k:=12) (op:=op) (x:=x) (y:=y) (p:=p) (.inl rfl) hc hp hl hat ak ak;simp only[yH,M.gV,M.fZ,hr,ah,Yk,YS,YT,YU,Vz,M.cZ,M.bW,Int.reduceBEq,Int.reduceBNe,aG,aQ,a1,mW]
 ·have a1:=awC ih' (o:=o) (f:=g) (b:=b) (k:=14) (op:=op) (x:=x) (y:=y) (p:=p) (.inr rfl) hc hp hl hat ak ak;simp only[yH,M.gV,M.fZ,hr,ah,Yk,YS,YT,YU,Vz,M.cZ,M.bW,Int.reduceBEq,Int.reduceBNe,aG,aQ,a1,mW]
def aFZ(k:Int):YK k=qX k:=by unfold YK qX;rw[Bool.or_false]
def asM:∀(L:List Gt) (a:Tk) (i:Nat),okS a L->(L≠[]->(lastT a L).kind≠7)->ab4 false a.kind (VE L i)=true
 |[],a,i,_,_=>rfl
 |x::r,a,i,ho,hl=>by
  obtain⟨_,h1,h2,h3⟩:=ho;rw[VE,ab4,rZ];refine⟨?_,asM r x.2 _ h3 λhr=>hl (by simp)⟩;have n7:x.2.kind=7->n32 (VE r (i+x.1.length+x.2.text.length))=true:=λe=>by
   cases r with
   |nil=>exact absurd e (hl (by simp))
   |cons y r=>rw[VE,n32,beq_iff_eq];exact(h3.2.2.1.2.1 e).2
  have n2:x.2.kind=2->n1 false (VE r (i+x.1.length+x.2.text.length))=true:=λe=>by
   cases r with
   |nil=>rfl
   |cons y r=>rw[VE,n1];simp[(h3.2.2.1.2.2.1 e).2]
  simp only[gT,gd,h1,aFZ,Bool.true_and,rZ,Bool.or_eq_true,Bool.not_eq_true',mX];refine⟨?_, ?_, ?_, ?_, ?_⟩
  ·by_cases e:x.2.kind=7
   ·exact .inr (n7 e)
   ·exact .inl e
  ·by_cases e:x.2.kind=2
   ·exact .inr (n2 e)
   ·exact .inl e
  ·by_cases e:x.2.kind=5
   ·exact .inr (h2.2.2.2.1 e)
   ·exact .inl e
  ·by_cases e:x.2.kind=58
   ·exact .inr (h2.2.2.2.2 (.inl e))
   ·exact .inl e
  ·by_cases e:x.2.kind=41
   ·exact .inr (h2.2.2.2.2 (.inr e))
   ·exact .inl e
def NB(m:Int)(T:List Tk):Prop:=0<=m/\∀(d:Int) (i:Nat) (r:List Tk),0<=d->d+m<=40->Lc d i (T++r)=Lc d (i+T.length) r
def auV{m:Int}(h:0<=m):NB m []:=⟨h,λ_ _ _ _ _=>rfl⟩
def NB.mono{m m':Int}{T:List Tk}(h:NB m T)(hm:m<=m'):NB m' T:=⟨by have:=h.1;omega,λd i r h0 h1=>h.2 d i r h0 ak⟩
def NB.app{m:Int}{A B:List Tk}(ha:NB m A)(hb:NB m B):NB m (A++B):=⟨ha.1,λd i r h0 h1=>by rw[Qc,ha.2 d i _ h0 h1,hb.2 d _ r h0 h1,wM,Nat.add_assoc]⟩
def apz{t:Tk}{m:Int}(hm:0<=m)(h1:XU t.kind=false)(h2:abl t.kind=false):NB m [t]:=⟨hm,λd i r h0 h3=>by rw[List.singleton_append,Lc,aG9 h1 h2,vG ak];rfl⟩
def NB.cons{t:Tk}{m:Int}{T:List Tk}(h1:XU t.kind=false)(h2:abl t.kind=false)(h:NB m T):NB m (t::T):=(apz h.1 h1 h2).app h
def NB.par{a c:Tk}{m:Int}{T:List Tk}(h1:XU a.kind=true)(h2:abl c.kind=true)(h3:XU c.kind=false)(h:NB (m - 1) T):NB m (a::(T++[c])):=⟨by have:=h.1;omega,λd i r h0 h4=>by
 have hm:=h.1;rw[zca,Lc,aG7 h1,vG ak,aQ,Qc,h.2 (d+1) (i+1) _ ak ak,List.singleton_append,Lc,aG8 h3 h2,vG (by omega:¬d+1 - 1<0),aQ,vG ak,aQ,yS,wM,GK];congr 1
 ·omega
 ·omega⟩
def auW{m:Int}(hm:0<=m):∀{L:List (List Tk)} (b:Bool),(∀l,l∈L->NB m l)->NB m (uX b L)
 |[],b,_=>by rw[uX];exact auV hm
 |x::l,b,h=>by
  have h1:=h x zmf;rw[uX];refine NB.app ?_ (auW hm false λl hl=>h l (zmm _ hl));cases b with
  |true=>exact h1
  |false=>exact NB.cons rfl rfl h1
def aKk{m:Int}(hm:0<=m){L:List (List Tk)}(h:∀l,l∈L->NB m l)(j:Nat):NB m (IK L j):=by
 unfold IK;cases hx:L[j]? with
 |none=>exact auV hm
 |some l=>exact h l (WW hx)
def Nq{a b:List Tk}{m:Int}{c:Bool}(ha:c=true->NB m a)(hb:c=false->NB m b):NB m (bif c then a else b):=by
 cases c with
 |true=>exact ha rfl
 |false=>exact hb rfl
def aKl{k op:Int}{n:Nat}{x:aC}{L:List (List Tk)}{m:Int}(hm:1<=m)(ho:XU op=false/\abl op=false)(h:∀l,l∈L->NB m l)(hB:k=5\/k=7\/k=8\/(k=13/\1<n)->∀l,l∈L->NB (m - 1) l):NB m (D8 k op n x L):=by
 have h0:0<=m:=ak;have t1:∀z:Int,XU z=false->abl z=false->NB m [⟨z,x,0⟩]:=λz h1 h2=>apz h0 h1 h2
 have n1:=aKk h0 h;have br:∀z:Tk,XU z.kind=false->abl z.kind=false->∀o c:Int,XU o=true->abl c=true->XU c=false->(∀l,l∈L->NB (m - 1) l)->NB m (z::tok o::(uX true L++[tok c])):=λz h1 h2 o c h3 h4 h5 h6=>NB.cons h1 h2 (NB.par (a:=tok o) (c:=tok c) h3 h4 h5 (auW ak true h6))
 unfold D8;refine Nq (λ_=>t1 6 rfl rfl) λ_=>Nq (λ_=>t1 3 rfl rfl) λ_=>Nq (λ_=>t1 4 rfl rfl) λ_=>Nq (λ_=>t1 5 rfl rfl) λ_=> ?_
 refine Nq (λe=>br _ rfl rfl 34 35 rfl rfl rfl (hB (.inl (by simpa using e)))) λ_=>Nq (λe=>br _ rfl rfl 32 33 rfl rfl rfl (hB (.inr (.inl (by simpa using e))))) λ_=>Nq (λe=>br _ rfl rfl 32 33 rfl rfl rfl (hB (.inr (.inr (.inl (by simpa using e)))))) λ_=> ?_
 refine Nq (λ_=>NB.cons (t:=tok op) ho.1 ho.2 (n1 _)) λ_=>Nq (λ_=>NB.cons (t:=tok 68) rfl rfl (n1 _)) λ_=>Nq (λ_=>(n1 _).app (apz (t:=tok op) h0 ho.1 ho.2)) λ_=> ?_
 refine Nq (λe=>NB.app (Nq (λhn=>NB.par (a:=tok 32) (c:=tok 33) rfl rfl rfl (auW ak true (hB (.inr (.inr (.inr ⟨by simpa using e,by rwa [Nat.blt_eq] at hn⟩)))))) λ_=>n1 _) (NB.cons rfl rfl (t1 6 rfl rfl))) λ_=> ?_
 refine Nq (λ_=>(n1 _).app (NB.cons (t:=tok 65) rfl rfl ((n1 _).app (NB.cons (t:=tok 66) rfl rfl (n1 _))))) λ_=> ?_
 exact(n1 _).app (NB.app (Nq (λ_=>auV h0) λ_=>apz (t:=tok op) h0 ho.1 ho.2) (n1 _))
def aKm{k op:Int}{x y:aC}{n:Nat}(h:Fld k op x y n):XU op=false/\abl op=false:=by
 have z:∀c:Int,c≠30->c≠31->c≠32->c≠33->c≠34->c≠35->XU c=false/\abl c=false:=λc h1 h2 h3 h4 h5 h6=>by unfold XU abl;rw[ak8 h1,ak8 h2,ak8 h3,ak8 h4,ak8 h5,ak8 h6];exact⟨rfl,rfl⟩
 cases h with
 |bin hb=>have hl:=anG hb;refine z op ?_ ?_ ?_ ?_ ?_ ?_<;>rintro rfl<;>exact hl.1 rfl
 |asg ha=>have:=asa ha;exact z op ak ak ak ak ak ak
 |_=>exact z _ ak ak ak ak ak ak
def aF0{k op:Int}{x y:aC}{ks:List Tn}{u:Tn}(hu:u∈ks):u.depth+1<=(Tn.mk k op x y ks).depth:=by rw[Tn.depth,XV];have:=(aBz (ks.map Tn.depth) 0).2 u.depth (List.mem_map_of_mem hu);omega
def awD(t:Tn):1<=t.depth:=by
 cases t with
 |mk k op x y ks=>rw[Tn.depth,XV];have:=(aBz (ks.map Tn.depth) 0).1;omega
def awE{k op:Int}{n:Nat}{p:Ps}{m:Int}:∀{ts:List Tn} {j:Nat},(∀i u,ts[i]? =some u->NB m (bif kM k (j+i)||fits u.kind u.op (aU k op n (j+i) p) then mV u (aU k op n (j+i) p) else tok 32::(mV u .top++[tok 33])))->∀l,l∈fF k op n p ts j->NB m l
 |[],j,_,l,hl=>by rw[fF] at hl;cases hl
 |t::ts,j,h,l,hl=>by
  rw[fF] at hl;rcases List.mem_cons.1 hl with rfl|hl
  ·exact h 0 t rfl
  ·exact awE (λi u e=>by have:=h (i+1) u e;rwa [show j+(i+1)=j+1+i by omega] at this) l hl
def aBC{k op:Int}{q:Ps}(h:fits k op q=true):jL q=true:=by
 unfold fits at h;cases hp:jL q with
 |true=>rfl
 |false=>rw[hp] at h;cases h
def aF1(t:Tn):Kz t->Wq t->PW t->∀p,jL p=true->NB t.depth (mV t p):=by
 refine Tn.ind (P:=λt=>Kz t->Wq t->PW t->∀p,jL p=true->NB t.depth (mV t p)) ?_ t;intro k op x y ks ih hok hrt he p hp;have hc:=Vg hok;simp only[PW,Tn.kind] at he;have hlv:lvl k op≠0:=by have:=Ui he hc;omega
 have hr:=hrt;rw[Wq] at hr;have kd:∀(i:Nat) (u:Tn),ks[i]? =some u->∀q,jL q=true->NB u.depth (mV u q):=λi u hu=>by obtain⟨h1,h2⟩:=abf hok he hu;exact ih u (WW hu) h2 (YD hr.2 hu).2 h1
 have hd:∀(i:Nat) (u:Tn),ks[i]? =some u->u.depth+1<=(Tn.mk k op x y ks).depth:=λi u hu=>aF0 (WW hu)
 rw[mV];refine aKl (awD _) (aKm hr.1) (awE λi u hu=> ?_) λhk=> ?_
 ·have h1:=kd i u hu;have h2:=hd i u hu;rw[Nat.zero_add];refine Nq (λe=>(h1 _ ?_).mono ak) λ_=>NB.par (a:=tok 32) (c:=tok 33) rfl rfl rfl ((h1 .top rfl).mono ak)
  rw[Bool.or_eq_true] at e;rcases e with e|e
  ·exact jF hp (NV.1 hu).1 hlv
  ·exact aBC e
 ·have ht:∀j,kM k j=false:=λj=>by rcases hk with rfl|rfl|rfl|⟨rfl,_⟩<;>simp[kM]
  rw[af0 hp (by
   rcases hk with rfl|rfl|rfl|⟨rfl,h⟩
   ·exact .inl rfl
   ·exact .inl rfl
   ·exact .inl rfl
   ·exact .inr ⟨rfl,by rwa [Nat.blt_eq],hlv⟩) ht]
  intro l hl;obtain⟨u,hu,rfl⟩:=List.mem_map.1 hl;obtain⟨i,hi⟩:=List.mem_iff_getElem?.1 hu;obtain⟨h1,h2⟩:=abf hok he hi;have hlu:1<=lvl u.kind u.op:=by obtain⟨k',op',x',y',ks'⟩:=u;exact(Ui h1 (Vg h2)).1
  rw[lu,ag6 hlu,aG];exact(kd i u hi .top rfl).mono (by have:=hd i u hi;omega)
def aF2{t:Tn}(h1:Kz t)(h2:Wq t)(h3:PW t):NB t.depth (lu t .top):=by
 have hlu:1<=lvl t.kind t.op:=by obtain⟨k',op',x',y',ks'⟩:=t;exact(Ui h3 (Vg h1)).1
 rw[lu,ag6 hlu,aG];exact aF1 t h1 h2 h3 .top rfl
def alr:∀(a b:List Tk),a.map (·.kind)=b.map (·.kind)->∀(d:Int) (i:Nat),Lc d i a=Lc d i b
 |[],[],_,_,_=>rfl
 |[],_::_,h,_,_=>by cases h
 |_::_,[],h,_,_=>by cases h
 |x::a,y::b,h,d,i=>by rw[zmc,zmc,List.cons.injEq] at h;rw[Lc,Lc,h.1,alr a b h.2]
def aBD{h m:Nat}{t:Tn}{b:Tk}{R:List Gt}(h1:Kz t)(h2:Wq t)(h3:PW t)(hd:t.depth<=30)(hT:b::R.map (·.2)=lu t .top):aha (VE (Uk h m b R) 0)= -1:=by
 have hn:=aF2 h1 h2 h3;have pre:∀r:List Tk,Lc 0 0 ((Js h).map (·.2)++r)=Lc 1 (Js h).length r:=λr=>by
  match h with
  |0=>rfl
  |1=>rfl
  |2=>rfl
  |n+3=>rfl
 have e:Lc 0 0 (VE (Uk h m b R) 0)=none:=by
  rw[alr _ ((Uk h m b R).map (·.2)) (by rw[aG1,List.map_map];rfl)];unfold Uk;rw[List.map_append,pre,List.map_append,List.map_append]
  match m with
  |0=>show Lc 1 _ ((b::R.map (·.2))++[tok 31])=none;rw[hT,hn.2 1 _ _ ak ak];rfl
  |1=>show Lc 2 ((Js h).length+1) ((b::R.map (·.2))++[tok 31,tok 31])=none;rw[hT,hn.2 2 _ _ ak ak];rfl
  |n+2=>show Lc 2 ((Js h).length+1+1) ((b::R.map (·.2))++[tok 37,nlT,tok 31,nlT,tok 31,nlT])=none;rw[hT,hn.2 2 _ _ ak ak];rfl
 unfold aha;rw[e]
def Kd(k:Int):Prop:=0<=k/\k<=100
def aBE:Ve.length=17:=by decide+kernel
def aBF:vT.length=39:=by decide+kernel
def aF3(s:aC):Kd (aa8 s):=by have h:=aa7 s Ve 0 (by decide);rw[aBE] at h;unfold aa8 Kd;split<;>omega
def aBG(s w:aC)(e:Nat):Kd (ahX s w e):=by
 have h:=aF3 w;unfold ahX;cases aa8 w !=0 with
 |true=>exact h
 |false=>
  cases P8 w with
  |true=>exact show Kd 8 from⟨by decide,by decide⟩
  |false=>
   cases oL s e==40 with
   |true=>exact show Kd 7 from⟨by decide,by decide⟩
   |false=>exact show Kd 6 from⟨by decide,by decide⟩
def auX(s:aC):∀(l:List (aC)) (i:Nat) (k:Int) (m:Nat),0<=k/\k<=30+i+l.length->0<=(Y7 s l i k m).1/\(Y7 s l i k m).1<=30+i+l.length
 |[],i,k,m,h=>h
 |g::l,i,k,m,h=>by
  rw[yS] at h|-;rw[Y7];cases(Nat.blt m g.length && g.isPrefixOf s) with
  |true=>have:=auX s l (i+1) (30+(i:Int)) g.length ak;rw[aG];omega
  |false=>have:=auX s l (i+1) k m ak;rw[aQ];omega
def aKn(s:aC)(i:Nat):Kd (opK s i):=by have:=auX (s.drop i) vT 0 0 0 ak;rw[aBF] at this;unfold opK Kd;omega
def ai4{s:aC}{i:Nat}{k e:Int}{p:Int×aC}(hk:Kd k)(h:ab1 s i k e=some p):Kd p.1:=by
 unfold ab1 at h;cases hd:decide (e<0) with
 |true=>rw[hd] at h;cases h
 |false=>rw[hd] at h;cases h;exact hk
def asN{s:aC}{i:Nat}{p:Int×aC}(h:abh s i=some p):Kd p.1:=by
 unfold abh ar6 opT at h;cases hz:isL (oL s i) with
 |true=>
  rw[hz,aG] at h;cases hn:yB (sub s i (PX s i)) with
  |true=>rw[hn] at h;cases h;exact aBG _ _ _
  |false=>rw[hn] at h;cases h
 |false=>
  rw[hz,aQ] at h;cases hn:opK s i==0 with
  |true=>rw[hn] at h;cases h
  |false=>rw[hn] at h;cases h;exact aKn _ _
def ayj{s:aC}{i:Nat}{bf:Int}{p:Int×aC}(h:Bq s i bf=some p):Kd p.1:=by
 have k3:Kd 3:=⟨by decide,by decide⟩
 have k4:Kd 4:=⟨by decide,by decide⟩
 have k5:Kd 5:=⟨by decide,by decide⟩
 unfold Bq at h;cases q1:oL s i==10 with
 |true=>rw[q1] at h;cases h;exact show Kd 1 from⟨by decide,by decide⟩
 |false=>
 rw[q1,aQ] at h;cases q2:oL s i==35 with
 |true=>rw[q2] at h;cases h;exact show Kd 2 from⟨by decide,by decide⟩
 |false=>
 rw[q2,aQ] at h;cases q3:isD (oL s i) with
 |true=>rw[q3] at h;exact ai4 k3 h
 |false=>
 rw[q3,aQ] at h;cases q4:oL s i==46 with
 |true=>rw[q4] at h;exact ai4 k3 h
 |false=>
 rw[q4,aQ] at h;cases q5:oL s i==34 with
 |true=>rw[q5] at h;exact ai4 k4 h
 |false=>
 rw[q5,aQ] at h;cases q6:oL s i==47 with
 |true=>
  rw[q6,aG] at h;cases hb: !(qX bf) with
  |true=>rw[hb] at h;exact ai4 k5 h
  |false=>rw[hb] at h;exact asN h
 |false=>rw[q6] at h;exact asN h
def ai5{s:aC}:∀(f i:Nat) (bf:Int) (acc l:List Tk),(∀t,t∈acc->Kd t.kind)->Yz s f i bf acc=.inl l->∀t,t∈l->Kd t.kind
 |0,i,bf,acc,l,ha,h=>by rw[Yz] at h;cases h;exact ha
 |f+1,i,bf,acc,l,ha,h=>by
  rw[Yz] at h;cases hb:Nat.ble s.length i with
  |true=>rw[hb] at h;cases h;exact ha
  |false=>
  rw[hb,aQ] at h;cases hc:afE (oL s i) with
  |true=>rw[hc] at h;exact ai5 f _ _ _ _ ha h
  |false=>
  rw[hc,aQ] at h;cases hd:(oL s i==92 && oL s ((i+1:Nat):Int)==10) with
  |true=>rw[hd] at h;exact ai5 f _ _ _ _ ha h
  |false=>
  rw[hd,aQ] at h;cases ht:Bq s i bf with
  |none=>rw[ht] at h;cases h
  |some p=>
   rw[ht] at h;refine ai5 f _ _ _ _ (λt hm=> ?_) h;rcases List.mem_append.1 hm with hm|hm
   ·exact ha t hm
   ·rw[List.mem_singleton] at hm;rw[hm];exact ayj ht
def aF4(s:aC):(∀t,t∈(aeA s).1->Kd t.kind)/\((aeA s).2.1=0->(aeA s).2.2=0):=by
 unfold aeA;split
 ·exact⟨λt h=>(by cases h),λh=>(by cases h)⟩
 ·split
  ·next l h=>exact⟨ai5 _ _ _ _ _ (λt h=>(by cases h)) h,λ_=>rfl⟩
  ·exact⟨λt h=>(by cases h),λh=>(by cases h)⟩
mutual
def sml:Tn->Prop
 | .mk _ _ x y ks=>(x.length<=1048576/\y.length<=1048576)/\aix ks
def aix:List Tn->Prop
 |[]=>True
 |t::ts=>sml t/\aix ts
end
mutual
def ai6:∀(t:Tn) (b:Nat),sml t↔∀n,n∈t.flat b->Small n
 | .mk k o x y ks,b=>by
  rw[sml,asO ks b,Tn.flat];constructor
  ·rintro⟨⟨h1,h2⟩,h3⟩ n hn;rcases List.mem_append.1 hn with hn|hn
   ·exact h3 n hn
   ·simp only[List.mem_singleton] at hn;subst hn;exact⟨h1,h2⟩
  ·intro h;have h1:=h ⟨k,o,x,y,ends ks b⟩ (by simp);exact⟨⟨h1.text,h1.other⟩,λn hn=>h n (List.mem_append_left _ hn)⟩
def asO:∀(ks:List Tn) (b:Nat),aix ks↔∀n,n∈jU ks b->Small n
 |[],b=>by simp[aix,jU]
 |t::ts,b=>by
  rw[aix,ai6 t b,asO ts (b+t.size),jU];constructor
  ·rintro⟨h1,h2⟩ n hn;rcases List.mem_append.1 hn with hn|hn
   ·exact h1 n hn
   ·exact h2 n hn
  ·intro h;exact⟨λn hn=>h n (List.mem_append_left _ hn),λn hn=>h n (List.mem_append_right _ hn)⟩
end
def ah2(x a b:Int)(h:a<=x/\x<=b):(decide (x>=a) && decide (x<=b))=true:=by rw[rZ,decide_eq_true_eq,decide_eq_true_eq];exact h
def aKo{k op:Int}{x y:aC}{kids:ay}(h:Fld k op x y kids.length)(hx:x.length<=1048576)(hy:y.length<=1048576)(hl:kids.length<=400):M.bJ k op x y kids=some true:=by
 have hN:=(Ut x hx).1;have hM:=(Ut y hy).1;have hB:=(Gx x).1;have hT:∀q:Int,2<=q->q<=5->M.pW q x 0=some (iR q x):=λq h1 h2=>(Qv q x 0 hx ⟨ak,ak⟩).1
 generalize hn:kids.length=n at h;cases h with
 |name hx=>simp only[M.bJ,M.bY,M.dZ,M.dQ,M.fV,M.fG,M.dW,M.dR,kF,hN,hx,hn,ah];rfl
 |tok hk hx=>
  have h3:=hT 3 ak ak;have h4:=hT 4 ak ak;have h5:=hT 5 ak ak;rcases hk with rfl|rfl|rfl
  ·have hx:iR 3 x=true:=hx;simp only[M.bJ,M.bY,M.dZ,M.dQ,M.fV,M.fG,M.dW,M.dR,kF,h3,hx,hn,ah];rfl
  ·have hx:iR 4 x=true:=hx;simp only[M.bJ,M.bY,M.dZ,M.dQ,M.fV,M.fG,M.dW,M.dR,kF,h4,hx,hn,ah];rfl
  ·have hx:iR 5 x=true:=hx;simp only[M.bJ,M.bY,M.dZ,M.dQ,M.fV,M.fG,M.dW,M.dR,kF,h5,hx,hn,ah];rfl
 |index hk hx h1 h6=>have e:=ah2 (n:Int) 1 6 ak;rcases hk with rfl|rfl<;>simp only[M.bJ,M.bY,M.dZ,M.dQ,M.fV,M.fG,M.dW,M.dR,kF,hN,hx,hn,ah,Int.reduceBEq,aG,aQ,e]<;>rfl
 |call hk hx h6=>have e:=ah2 (n:Int) 0 6 ak;rcases hk with rfl|rfl<;>simp only[M.bJ,M.bY,M.dZ,M.dQ,M.fV,M.fG,M.dW,M.dR,kF,hN,hx,hn,ah,Int.reduceBEq,aG,aQ,e]<;>rfl
 |blt hx h6=>have e:=ah2 (n:Int) 0 6 ak;simp only[M.bJ,M.bY,M.dZ,M.dQ,M.fV,M.fG,M.dW,M.dR,kF,hB,hx,hn,ah,Int.reduceBEq,aG,aQ,e];rfl
 |one hk=>rcases hk with rfl|rfl|rfl|rfl<;>simp only[M.bJ,M.bY,M.dZ,M.dQ,M.fV,M.fG,M.dW,M.dR,kF,hn,ah]<;>rfl
 |step hk hop=>rcases hk with rfl|rfl<;>rcases hop with rfl|rfl<;>simp only[M.bJ,M.bY,M.dZ,M.dQ,M.fV,M.fG,M.dW,M.dR,kF,hn,ah]<;>rfl
 |una hop=>rcases hop with rfl|rfl|rfl<;>simp only[M.bJ,M.bY,M.dZ,M.dQ,M.fV,M.fG,M.dW,M.dR,kF,hn,ah]<;>rfl
 |bin hop=>have hb:=(akL op).1;rw[hop] at hb;simp only[M.bJ,M.bY,M.dZ,M.dQ,M.fV,M.fG,M.dW,M.dR,kF,hb,hn,ah];rfl
 |cond=>simp only[M.bJ,M.bY,M.dZ,M.dQ,M.fV,M.fG,M.dW,M.dR,kF,hn,ah];rfl
 |asg hop=>have hb:=(Wi op).1;rw[hop] at hb;simp only[M.bJ,M.bY,M.dZ,M.dQ,M.fV,M.fG,M.dW,M.dR,kF,hb,hn,ah];rfl
 |none hk=>rcases hk with rfl|rfl|rfl|rfl<;>simp only[M.bJ,M.bY,M.dZ,M.dQ,M.fV,M.fG,M.dW,M.dR,kF,hn,ah]<;>rfl
 |prn hop h1 h6=>have e:=ah2 (n:Int) op 6 ak;rcases hop with rfl|rfl<;>simp only[M.bJ,M.bY,M.dZ,M.dQ,M.fV,M.fG,M.dW,M.dR,kF,hn,ah]<;>exact congrArg some e
 |prt hop hy h1 h7=>have e:=ah2 (n:Int) (op+1) 7 ak;rcases hop with rfl|rfl<;>rcases hy with rfl|rfl|rfl<;>simp only[M.bJ,M.bY,M.dZ,M.dQ,M.fV,M.fG,M.dW,M.dR,kF,hn,ah]<;>exact congrArg some e
 |word hk h1=>have e:=ah2 (n:Int) 0 1 ak;rcases hk with rfl|rfl<;>simp only[M.bJ,M.bY,M.dZ,M.dQ,M.fV,M.fG,M.dW,M.dR,kF,hn,ah,Int.reduceBEq,aG,aQ,e]<;>rfl
 |if_ h=>rcases h with rfl|rfl<;>simp only[M.bJ,M.bY,M.dZ,M.dQ,M.fV,M.fG,M.dW,M.dR,kF,hn,ah]<;>rfl
 |two hk=>rcases hk with rfl|rfl<;>simp only[M.bJ,M.bY,M.dZ,M.dQ,M.fV,M.fG,M.dW,M.dR,kF,hn,ah]<;>rfl
 |for_=>simp only[M.bJ,M.bY,M.dZ,M.dQ,M.fV,M.fG,M.dW,M.dR,kF,hn,ah];rfl
 |ar9 h1 h2=>simp only[M.bJ,M.bY,M.dZ,M.dQ,M.fV,M.fG,M.dW,M.dR,kF,hN,h1,hM,h2,hn,ah];rfl
 |many hk=>have e:=ah2 (n:Int) 0 (n:Int) ak;rcases hk with rfl|rfl<;>simp only[M.bJ,M.bY,M.dZ,M.dQ,M.fV,M.fG,M.dW,M.dR,kF,hn,ah,Int.reduceBEq,aG,aQ,e]<;>rfl
 |com hx=>have h2:=hT 2 ak ak;simp only[M.bJ,M.bY,M.dZ,M.dQ,M.fV,M.fG,M.dW,M.dR,kF,h2,hx,hn,ah];rfl
 |rule h=>rcases h with⟨rfl|rfl,rfl⟩|⟨rfl,rfl⟩<;>simp only[M.bJ,M.bY,M.dZ,M.dQ,M.fV,M.fG,M.dW,M.dR,kF,hn,ah]<;>rfl
 |range h=>rcases h with⟨rfl,rfl⟩|⟨rfl,rfl⟩<;>simp only[M.bJ,M.bY,M.dZ,M.dQ,M.fV,M.fG,M.dW,M.dR,kF,hn,ah]<;>rfl
 |func hx h1 h7=>have e:=ah2 (n:Int) 1 7 ak;simp only[M.bJ,M.bY,M.dZ,M.dQ,M.fV,M.fG,M.dW,M.dR,kF,hN,hx,hn,ah,Int.reduceBEq,aG,aQ,e];rfl
def aF5{k op:Int}{x y:aC}{kids:ay}{j:Nat}{d:Int}(h:Fld k op x y kids.length)(hj:j<kids.length)(hl:kids.length<=400)(hc:Px (cls k op kids.length j) d):M.dN k op x y kids (j:Int) d=some true:=by
 have hw:i64.wrap ((kids.length:Int) - 1)=(kids.length:Int) - 1:=aS ak ak;have hE:Px 0 d->akM d=true:=λh=>by unfold akM;rw[rZ,decide_eq_true_eq,decide_eq_true_eq];exact h
 have e0:cls k op kids.length j=0->akM d=true:=λe=>hE (by rw[<-e];exact hc)
 have e1:cls k op kids.length j=1->d=33:=λe=>by rw[e] at hc;exact hc
 have e6:cls k op kids.length j=6->SN d=true:=λe=>by rw[e] at hc;have hc:d=1\/d=5\/d=6:=hc;rcases hc with h|h|h<;>subst h<;>rfl
 have Vs:(k=5\/k=6\/k=7\/k=8\/k=11\/k=12\/k=13\/k=14\/k=20\/k=21\/k=23\/k=24\/k=27)->M.dN k op x y kids (j:Int) d=some true:=λhk=>by have hc0:cls k op kids.length j=0:=aRN ak _ _ _;have hx:=e0 hc0;rcases hk with h|h|h|h|h|h|h|h|h|h|h|h|h<;>subst h<;>simp only[M.dN,M.dX,M.bZ,uU,hx,ah,Int.reduceBEq,aQ]
 generalize hn:kids.length=n at h hj hl hc hw e0 e1 e6;cases h with
 |name=>omega
 |tok=>omega
 |index hk _ _ _=>exact Vs ak
 |call hk _ _=>exact Vs ak
 |blt _ _=>exact Vs ak
 |one hk=>
  rcases hk with rfl|rfl|rfl|rfl
  ·exact Vs ak
  ·exact Vs ak
  ·have:=e1 rfl;subst this;simp only[M.dN,M.dX,M.bZ,ah];rfl
  ·have:=e1 rfl;subst this;simp only[M.dN,M.dX,M.bZ,ah];rfl
 |step hk _=>have hx:=e6 (by unfold cls;rw[if_pos ak]);rcases hk with rfl|rfl<;>simp only[M.dN,M.dX,M.bZ,Sv,hx,ah,Int.reduceBEq,aG,aQ]
 |una _=>exact Vs ak
 |bin _=>exact Vs ak
 |cond=>exact Vs ak
 |asg _=>
  have hj2:j=0\/j=1:=ak;rcases hj2 with rfl|rfl
  ·have hx:=e6 rfl;have hy:akM d=true:=by have hc:d=1\/d=5\/d=6:=hc;rcases hc with h|h|h<;>subst h<;>rfl
   simp only[M.dN,M.dX,M.bZ,Sv,uU,hx,hy,ah,Int.reduceBEq,aG,aQ];rfl
  ·have hx:=e0 rfl;simp only[M.dN,M.dX,M.bZ,Sv,uU,hx,ah,Int.reduceBEq,aG,aQ];rfl
 |none=>omega
 |prn _ _ _=>exact Vs ak
 |prt _ _ _ _=>exact Vs ak
 |word hk _=>exact Vs ak
 |if_ hn2=>
  by_cases h0:j=0
  ·subst h0;have hx:=e0 (by unfold cls;rw[if_neg ak,if_pos ak,if_pos rfl]);simp only[M.dN,M.dX,M.bZ,uU,hx,ah,Int.reduceBEq,aG,aQ];rfl
  ·have:=e1 (by unfold cls;rw[if_neg ak,if_pos ak,if_neg h0]);subst this;simp only[M.dN,M.dX,M.bZ,ah,Int.reduceBEq,aG,aQ];rw[mX.2 (show((j:Nat):Int)≠0 by omega),zdt (show((j:Nat):Int)>0 by omega)];rfl
 |two hk=>
  have hj2:j=0\/j=1:=ak;rcases hk with rfl|rfl<;>rcases hj2 with rfl|rfl
  ·have hx:=e0 rfl;simp only[M.dN,M.dX,M.bZ,uU,hx,ah,Int.reduceBEq,aG,aQ];rfl
  ·have:=e1 rfl;subst this;simp only[M.dN,M.dX,M.bZ,ah];rfl
  ·have:=e1 rfl;subst this;simp only[M.dN,M.dX,M.bZ,ah];rfl
  ·have hx:=e0 rfl;simp only[M.dN,M.dX,M.bZ,uU,hx,ah,Int.reduceBEq,aG,aQ];rfl
 |for_=>
  by_cases h3:j<3
  ·have hq:d=16\/(1<=d/\d<=15):=by
    have e:cls 31 0 4 j=3:=by unfold cls;repeat(first|rw[if_pos ak]|rw[if_neg ak])
    rw[e] at hc;exact hc
   simp only[M.dN,M.dX,M.bZ,uU,ah,Int.reduceBEq,aG,aQ];rw[zdt (show((j:Nat):Int)<3 by omega),aG];rcases hq with h|h
   ·subst h;rfl
   ·rw[hE h];rfl
  ·have:=e1 (by unfold cls;repeat(first|rw[if_pos ak]|rw[if_neg ak]));subst this;simp only[M.dN,M.dX,M.bZ,ah,Int.reduceBEq,aG,aQ];rw[vG (show¬((j:Nat):Int)<3 by omega),show(((j:Nat):Int)==3)=true by rw[beq_iff_eq];omega];rfl
 |ar9 _ _=>have:=e1 rfl;subst this;simp only[M.dN,M.dX,M.bZ,ah];rfl
 |many hk=>
  rcases hk with rfl|rfl
  ·have hx:aEI d=true:=by unfold aEI;rw[rZ,decide_eq_true_eq,decide_eq_true_eq];exact hc
   simp only[M.dN,M.dX,M.bZ,anr,hx,ah,Int.reduceBEq,aG,aQ]
  ·have hx:(40<=d/\d<=44)\/d=34:=hc;simp only[M.dN,M.dX,M.bZ,axQ,ah,Int.reduceBEq,aG,aQ];rcases hx with h|h
   ·have:isIt d=true:=by unfold isIt;rw[rZ,decide_eq_true_eq,decide_eq_true_eq];exact h
    rw[this];rfl
   ·subst h;rfl
 |com=>omega
 |rule hr=>
  rcases hr with⟨rfl|rfl,rfl⟩|⟨rfl,rfl⟩
  ·have hx:=e0 (by have e:j=0:=ak;subst e;rfl);simp only[M.dN,M.dX,M.bZ,uU,hx,ah,Int.reduceBEq,aG,aQ]
  ·have:=e1 (by have e:j=0:=ak;subst e;rfl);subst this;simp only[M.dN,M.dX,M.bZ,ah];rfl
  ·have hj2:j=0\/j=1:=ak;rcases hj2 with rfl|rfl
   ·have hx:=e0 rfl;have h33:(d==33)=false:=by rw[mX];intro e;rw[e] at hx;cases hx
    simp only[M.dN,M.dX,M.bZ,M.bZ,uU,hx,hn,hw,h33,ah,Int.reduceBEq,aG,aQ];rfl
   ·have:=e1 rfl;subst this;simp only[M.dN,M.dX,M.bZ,M.bZ,hn,hw,ah];rfl
 |range hr=>
  rcases hr with⟨rfl,rfl⟩|⟨rfl,rfl⟩
  ·have hj2:j=0\/j=1:=ak;rcases hj2 with rfl|rfl
   ·have hx:=e0 rfl;simp only[M.dN,M.dX,M.bZ,uU,hx,ah,Int.reduceBEq,aG,aQ];rfl
   ·have hx:=e0 rfl;simp only[M.dN,M.dX,M.bZ,uU,hx,ah,Int.reduceBEq,aG,aQ];rfl
  ·have hj2:j=0\/j=1\/j=2:=ak;rcases hj2 with rfl|rfl|rfl
   ·have hx:=e0 rfl;simp only[M.dN,M.dX,M.bZ,uU,hx,ah,Int.reduceBEq,aG,aQ];rfl
   ·have hx:=e0 rfl;simp only[M.dN,M.dX,M.bZ,uU,hx,ah,Int.reduceBEq,aG,aQ];rfl
   ·have:=e1 rfl;subst this;simp only[M.dN,M.dX,M.bZ,ah];rfl
 |func _ _ _=>
  by_cases hlast:j+1=n
  ·have:=e1 (by unfold cls;repeat(first|rw[if_pos ak]|rw[if_neg ak]));subst this;simp only[M.dN,M.dX,M.bZ,hn,hw,ah,Int.reduceBEq,aG,aQ];rw[show(((j:Nat):Int)==(n:Int) - 1)=true by rw[beq_iff_eq];omega];rfl
  ·have hq:d=1:=by
    have e:cls 44 0 n j=4:=by unfold cls;repeat(first|rw[if_pos ak]|rw[if_neg ak])
    rw[e] at hc;exact hc
   subst hq;simp only[M.dN,M.dX,M.bZ,hn,hw,ah,Int.reduceBEq,aG,aQ];rw[show(((j:Nat):Int)==(n:Int) - 1)=false by rw[mX];omega];rfl
def asP:∀{ks:List Tn} {u:Tn},aix ks->u∈ks->sml u
 |t::ts,u,h,hu=>by
  rcases List.mem_cons.1 hu with rfl|hu
  ·exact h.1
  ·exact asP h.2 hu
def aF6(t:Tn):Wq t->sml t->t.size<=400->Og t:=by
 refine Tn.ind (P:=λt=>Wq t->sml t->t.size<=400->Og t) ?_ t;intro k op x y ks ih hr hs hz;rw[Wq] at hr;rw[Tn.size] at hz;obtain⟨hf,hk⟩:=hr;obtain⟨⟨hx,hy⟩,hsk⟩:=hs;have hlen:=BN ks;have hl:(encI (ends ks 0)).length=ks.length:=by rw[eH,jr]
 have hf':Fld k op x y (encI (ends ks 0)).length:=by rw[hl];exact hf
 rw[Og];refine⟨?_,λj u hu=> ?_,aeI.2 λu hu=>ih u hu ?_ ?_ ?_⟩
 ·unfold fOk;rw[aKo hf' hx hy ak];rfl
 ·have hj:=(NV.1 hu).1;have h1:=(YD hk hu).1;rw[Nat.zero_add] at h1;unfold kOk;rw[aF5 hf' (j:=j) ak ak (by rw[hl];exact h1)];rfl
 ·obtain⟨j,hj,hxj⟩:=List.mem_iff_getElem.1 hu;exact(YD hk (NV.2 ⟨hj,hxj⟩)).2
 ·exact asP hsk hu
 ·have:=EC hu;omega
def auY{t:Tn}(h:Wq t)(hs:sml t)(hz:t.size<=400)(hd:depth (t.flat 0)<=40):KH (t.flat 0)=true:=by unfold KH;rw[atT hz,zdt hd,aZ3 (aF6 t h hs hz)];rfl
end Go.Proofs.YtephpnbbbimjbaaGreatDoor
namespace Go.Proofs.YtephpnbbbimjbaaGreatDoor
open Go Go.Vm
end Go.Proofs.YtephpnbbbimjbaaGreatDoor
namespace Go.Proofs.YtephpnbbbimjbaaGreatDoor
open Go Go.Vm
end Go.Proofs.YtephpnbbbimjbaaGreatDoor
namespace Go.Proofs.YtephpnbbbimjbaaGreatDoor
open Go Go.Vm
def auZ(l:List Tk)(hl:l.length<=1048576)(hf:∀t,t∈l->I64 t.kind/\t.text.length<=1048576):M.zS (aF l)=some (WR l):=by
 simp only[M.zS,M.MC,gZ,WR]
 by_cases h3:l.length<=3000
 ·rw[vG ak,aQ,zdt h3,Bool.true_and];obtain⟨b2,h2⟩:=anP (l:=l) (z:=true) (B:=M.Aw (aF l) (aF l) (l.length:Int)) (λi t b ht=>ayd h3 hf ht b) (λb=>by simp only[M.Aw,M.Au,M.jM];rw[vG ak,aQ]) l.length 0 0 ak (Nat.zero_le _);rw[MW,List.drop_zero] at h2;rw[aBy] at h2;rw[M.J6,h2];cases ab4 false 0 l<;>rfl
 ·rw[zdt ak,aG,vG h3];rfl
def aSk(k:Int):M.yL k=some (XU k):=by simp only[M.yL,M.O8,XU];cases k==32<;>first|rfl|(cases k==34<;>rfl)
def aSl(k:Int):M.yM k=some (abl k):=by simp only[M.yM,M.O9,abl];cases k==33<;>first|rfl|(cases k==35<;>rfl)
def aKp{l:List Tk}(hl:l.length<=3000){i:Nat}{t:Tk}(ht:l[i]? =some t){d:Int}(h0:0<=d)(h1:d<=40):M.EW (aF l) (l.length:Int) (d,(i:Int))=some (bif decide (nst d t.kind>40) then .inr (.inl (i:Int)) else .inl (nst d t.kind,((i+1:Nat):Int))):=by
 have hi:=(NV.1 ht).1;have hw:i64.wrap ((i:Int)+1)=((i+1:Nat):Int):=by rw[aS ak ak];omega
 have wa:i64.wrap (d+1)=d+1:=aS ak ak;have wb:i64.wrap (d - 1)=d - 1:=aS ak ak;simp only[M.EW,M.EU,hw,wa,wb];rw[zdt ak,aG];simp only[dn,yh,ht,Nw,ah,cT0,cT1,cT2,aSk,aSl];cases ho:XU t.kind with
 |true=>rw[aG7 ho];simp only[aG];cases decide (d+1>40)<;>rfl
 |false=>
  cases hc:abl t.kind with
  |true=>rw[aG8 ho hc];simp only[aG,aQ];cases decide ((bif decide (d - 1<0) then 0 else d - 1)>40)<;>rfl
  |false=>rw[aG9 ho hc];simp only[aG,aQ];cases decide (d>40)<;>rfl
def aBH(l:List Tk)(hl:l.length<=3000):M.FI (aF l)=some (aha l):=by obtain⟨b2,h2⟩:=anQ (l:=l) (B:=M.EW (aF l) (l.length:Int)) (λi t d ht h0 h1=>aKp hl ht h0 h1) (λb=>by simp only[M.EW,M.EU];rw[vG ak,aQ]) l.length 0 0 ak (Nat.zero_le _) (by decide) (by decide);rw[MW,List.drop_zero] at h2;simp only[M.FI,M.Rx,gZ];rw[M.Pg,h2,aha];cases Lc 0 0 l<;>rfl
def ayk{t:Tn}(hs:t.size<=1048576)(w:Bool):∃k,M.uj t.kind t.op t.text t.other (dG w t.kids)=some (k,0)/\(k=0\/k=1\/k=4)/\(k=0↔t.size<=400/\depth (t.flat 0)<=40):=by
 have a1:=M.afy (awx w t.size t t.kind t.op t.text t.other (zaQ _) hs);have a2:=M.aer (asE w t.size t t.kind t.op t.text t.other (zaQ _) hs);simp only[M.uj,M.Po,a1,ah]
 by_cases h4:t.size<=400
 ·have hk:=t.aby;have e:=asF t.size t 0 (Lies.whole t);rw[show 0+sizes t.kids=t.size - 1 by omega] at e;have hd:depth (t.flat 0)=dF t.size t:=by rw[depth,asG t h4,if_pos rfl,t.flat_length,e]
  rw[vG ak,aQ,hd,a2,ah]
  by_cases hc:dF t.size t>40
  ·rw[zdt hc];exact⟨4,rfl,ak,ak⟩
  ·rw[vG hc];exact⟨0,rfl,ak,ak⟩
 ·rw[zdt ak];exact⟨1,rfl,ak,ak⟩
section
variable (l:List Nd) (o:Bool) (hl:l.length<=1048576) (hk:∀n,n∈l->n.kids.length<=1048576) (hsm:∀n,n∈l->Small n)
include hl hk hsm
noncomputable def XW(l:List Nd):Bool:=KH l &&(match l.getLast? with|some n=>n.kind==45|none=>false)
theorem af2:M.xH (dD o l)=some (XW l):=by
 simp only[M.xH,M.Kr,abd l o hl hk hsm,ah,XW,fP];cases ht:KH l with
 |false=>rfl
 |true=>obtain⟨n,h1,h2⟩:=arZ l o hl hk hsm ht;rw[aG,h2,ah,h1,Bool.true_and];rfl
end
def aBI(l:List Nd)(k p:Int):[[D.sl true 5 (dD true l)],[D.int .i64 k,D.int .i64 p]].all dw=true:=by simp[dw,D.pure,aeF]
def ayl(L:List Tn):∃n,((Tn.mk 45 0 [] [] L).flat 0).getLast? =some n/\n.kind=45:=by rw[Tn.flat];exact⟨_,List.getLast?_concat,rfl⟩
def aF7{L:List Tn}(h:KH ((Tn.mk 45 0 [] [] L).flat 0)=true):XW ((Tn.mk 45 0 [] [] L).flat 0)=true:=by obtain⟨n,h1,h2⟩:=ayl L;unfold XW;rw[h,h1,Bool.true_and];simp only[h2,beq_self_eq_true]
def aiy{l:List Tk}(hl:l.length<=1048576)(hf:∀t,t∈l->I64 t.kind/\t.text.length<=1048576)(ht:WR l=true)(hn:aha l= -1){L:List Tn}{q:Nat}(hp:KO (λn=>Vl l n [] 0 []) (.ok L q []))(hz:(Tn.mk 45 0 [] [] L).size<=400)(hd:depth ((Tn.mk 45 0 [] [] L).flat 0)<=40):
  M.nU (aF l)=some (dD true ((Tn.mk 45 0 [] [] L).flat 0),0,0):=by
 have hT:=auZ l hl hf;rw[ht] at hT;have h3:l.length<=3000:=by rw[WR,rZ,decide_eq_true_eq] at ht;exact ht.1
 have hNs:=aBH l h3;have hc:M.zF (aF l)=some (0,0):=by simp only[M.zF,M.Ph,hT,hNs,ah,zaP,aQ,hn];rfl
 obtain⟨N,hN⟩:=hp;have hi:=aFT ak (auT ht) hc N;have hN0:Vl l N [] 0 []=.ok L q []:=hN N (zaQ _);rw[hN0] at hi;have hi:M.nU (aF l)=aFS (dG false L):=hi;obtain⟨k,b2,b3,b4⟩:=ayk (t:=.mk 45 0 [] [] L) ak false;have b2':M.uj 45 0 [] [] (dG false L)=some (k,0):=b2;obtain rfl:=b4.2 ⟨hz,hd⟩;have hli:M.oZ 45 0 [] [] (dG false L)=some (dD true ((Tn.mk 45 0 [] [] L).flat 0)):=aFw (t:=.mk 45 0 [] [] L) ak;rw[hi,aFS,b2',ah];simp only[show((0:Int)==0)=true from rfl,aG,zaP,aQ,hli,ah,abE]
def aym{s:aC}{l:List Tk}(hx:aeA s=(l,0,0))(hs:s.length<=3000)(ht:WR l=true)(hn:aha l= -1){L:List Tn}{q:Nat}(hp:KO (λn=>Vl l n [] 0 []) (.ok L q []))(hz:(Tn.mk 45 0 [] [] L).size<=400)(hd:depth ((Tn.mk 45 0 [] [] L).flat 0)<=40):
  M.Ag s=some (dD true ((Tn.mk 45 0 [] [] L).flat 0),0,0):=by
 have hL:=(aJs s).2;have h1:=aEP s;have h2:=aF4 s;rw[hx] at hL h1 h2;have h:=aiy (by rw[WR,rZ,decide_eq_true_eq] at ht;omega) (λt ht=>⟨⟨by have:=(h2.1 t ht).1;omega,by have:=(h2.1 t ht).2;omega⟩,by have:=h1.2 t ht;omega⟩) ht hn hp hz hd;simp only[M.Ag,M.Uh,hL,ah];simp only[bne,show((0:Int)==0)=true from rfl,zaP,aQ,h,ah,Oc,aBI,aG]
def Ky(h:Nat)(t:Tn):Tn:=.mk 45 0 [] [] (bodyT h t)
def anV(h:Nat)(t:Tn):(Ky h t).size<=t.size+9/\t.size<=(Ky h t).size:=by
 match h with
 |0=>simp only[Ky,bodyT,vU,Tn.size,sizes];omega
 |1=>simp only[Ky,bodyT,vU,Tn.size,sizes];omega
 |2=>simp only[Ky,bodyT,vU,Tn.size,sizes];omega
 |n+3=>simp only[Ky,bodyT,vU,Tn.size,sizes];omega
def anW{t:Tn}(h:t.size<=400):depth (t.flat 0)=t.depth:=by have hl:=t.flat_length 0;have hs:=t.aby;have e:(t.flat 0).length - 1=0+sizes t.kids:=ak;rw[depth,asG t h,if_pos rfl,e];exact ayg t 0 (Lies.whole t) _ ak
def rt1{k op:Int}{x y:aC}{ks:List Tn}(h:Fld k op x y ks.length)(hk:∀j u,ks[j]? =some u->Px (cls k op ks.length j) u.kind/\Wq u):Wq (.mk k op x y ks):=by rw[Wq];exact⟨h,apf λi u hu=>by rw[Nat.zero_add];exact hk i u hu⟩
def gi1{P:Nat->Tn->Prop}{a:Tn}(h:P 0 a):∀j u,[a][j]? =some u->P j u:=λj u hu=>by
 match j,hu with
 |0,hu=>cases hu;exact h
def gi2{P:Nat->Tn->Prop}{a b:Tn}(h:P 0 a)(h2:P 1 b):∀j u,[a,b][j]? =some u->P j u:=λj u hu=>by
 match j,hu with
 |0,hu=>cases hu;exact h
 |1,hu=>cases hu;exact h2
def gi4{P:Nat->Tn->Prop}{a b c d:Tn}(h:P 0 a)(h2:P 1 b)(h3:P 2 c)(h4:P 3 d):∀j u,[a,b,c,d][j]? =some u->P j u:=λj u hu=>by
 match j,hu with
 |0,hu=>cases hu;exact h
 |1,hu=>cases hu;exact h2
 |2,hu=>cases hu;exact h3
 |3,hu=>cases hu;exact h4
def aF8(h:Nat){t:Tn}(ht:Wq t)(he:PW t):Wq (Ky h t):=by
 have hn:Wq (.mk 1 0 [120] [] []):=rt1 (.name (by decide+kernel)) λj u hu=>by simp at hu
 have h0:Wq (.mk 16 0 [] [] []):=rt1 (.none (.inl rfl)) λj u hu=>by simp at hu
 have hs:Wq (.mk 20 0 [] [] [t]):=rt1 (.one (.inr (.inl rfl))) (gi1 ⟨he,ht⟩);have hb:Wq (.mk 33 0 [] [] [.mk 20 0 [] [] [t]]):=rt1 (.many (.inl rfl)) (gi1 ⟨⟨by simp[Tn.kind,vU],by simp[Tn.kind,vU]⟩,hs⟩);have hh:Wq (vU h (.mk 33 0 [] [] [.mk 20 0 [] [] [t]]))/\20<=(vU h (.mk 33 0 [] [] [.mk 20 0 [] [] [t]])).kind/\(vU h (.mk 33 0 [] [] [.mk 20 0 [] [] [t]])).kind<=34:=by
  match h with
  |0=>exact⟨rt1 (.if_ (.inl rfl)) (gi2 ⟨⟨by simp[Tn.kind,vU],by simp[Tn.kind,vU]⟩,hn⟩ ⟨rfl,hb⟩),by simp[Tn.kind,vU],by simp[Tn.kind,vU]⟩
  |1=>exact⟨rt1 (.two (.inl rfl)) (gi2 ⟨⟨by simp[Tn.kind,vU],by simp[Tn.kind,vU]⟩,hn⟩ ⟨rfl,hb⟩),by simp[Tn.kind,vU],by simp[Tn.kind,vU]⟩
  |2=>exact⟨rt1 .for_ (gi4 ⟨.inl rfl,h0⟩ ⟨.inl rfl,h0⟩ ⟨.inl rfl,h0⟩ ⟨rfl,hb⟩),by simp[Tn.kind,vU],by simp[Tn.kind,vU]⟩
  |n+3=>exact⟨rt1 (.ar9 (by decide+kernel) (by decide+kernel)) (gi1 ⟨rfl,hb⟩),by simp[Tn.kind,vU],by simp[Tn.kind,vU]⟩
 have hB:Wq (.mk 33 0 [] [] [vU h (.mk 33 0 [] [] [.mk 20 0 [] [] [t]])]):=rt1 (.many (.inl rfl)) (gi1 ⟨hh.2,hh.1⟩);exact rt1 (.many (.inr rfl)) (gi1 ⟨.inl ⟨by simp[Tn.kind,vU],by simp[Tn.kind,vU]⟩,rt1 (.one (.inr (.inr (.inl rfl)))) (gi1 ⟨rfl,hB⟩)⟩)
def asQ(h:Nat){t:Tn}(ht:sml t):sml (Ky h t):=by
 match h with
 |0=>simp[Ky,bodyT,vU,sml,aix,ht]
 |1=>simp[Ky,bodyT,vU,sml,aix,ht]
 |2=>simp[Ky,bodyT,vU,sml,aix,ht]
 |n+3=>simp[Ky,bodyT,vU,sml,aix,ht]
def als{k op:Int}{x y:aC}{ks:List Tn}{B:Int}(hB:0<=B)(h:∀u,u∈ks->u.depth<=B):(Tn.mk k op x y ks).depth<=B+1:=by have:=abb B (ks.map Tn.depth) 0 hB (λd hd=>by obtain⟨u,hu,rfl⟩:=List.mem_map.1 hd;exact h u hu);rw[Tn.depth,XV];omega
def aBJ(h:Nat)(t:Tn):(Ky h t).depth<=t.depth+6:=by
 have hp:=awD t;have e0:∀(k op:Int) (x y:aC),(Tn.mk k op x y []).depth<=0+1:=λk op x y=>als ak λu hu=>by cases hu
 have e1:=e0 1 0 [120] [];have e2:=e0 16 0 [] [];have o:∀{k op:Int} {x y:aC} {u:Tn} {B:Int},0<=B->u.depth<=B->(Tn.mk k op x y [u]).depth<=B+1:=λhB hu=>als hB λv hv=>by rw[List.mem_singleton.1 hv];exact hu
 have eb:(Tn.mk 33 0 [] [] [.mk 20 0 [] [] [t]]).depth<=t.depth+1+1:=o ak (o ak (Int.le_refl _));have eh:(vU h (.mk 33 0 [] [] [.mk 20 0 [] [] [t]])).depth<=t.depth+1+1+1:=by
  match h with
  |0=>exact als ak λu hu=>by simp only[List.mem_cons,List.not_mem_nil,or_false] at hu;rcases hu with rfl|rfl<;>omega
  |1=>exact als ak λu hu=>by simp only[List.mem_cons,List.not_mem_nil,or_false] at hu;rcases hu with rfl|rfl<;>omega
  |2=>exact als ak λu hu=>by simp only[List.mem_cons,List.not_mem_nil,or_false] at hu;rcases hu with rfl|rfl|rfl|rfl<;>omega
  |n+3=>exact o ak eb
 have:=o (k:=45) (op:=0) (x:=[]) (y:=[]) ak (o (k:=40) (op:=0) (x:=[]) (y:=[]) ak (o (k:=33) (op:=0) (x:=[]) (y:=[]) ak eh));exact Int.le_trans this ak
def aeK{d t:Tn}{b:Tk}{R:List Gt}(hp:Pe d (lu t .top) b R)(h5:b.kind≠5)(hk:Kz t)(hr:Wq t)(he:PW t)(hs:sml t)(hz:t.size<=380)(hd:t.depth<=30)(h m:Nat)(hl:(spl (Uk h m b R)).length<=3000):
  M.Ag (spl (Uk h m b R))=some (dD true ((Ky h t).flat 0),0,0)/\KH ((Ky h t).flat 0)=true:=by
 have h1:=auI hp h5 h m;have hx:=aFs hp h5 h m hl;have hsz:=anV h t;have hdp:=aBJ h t;have hd2:=anW (t:=Ky h t) ak;have ht:WR (VE (Uk h m b R) 0)=true:=by
  have hL:∀(L:List Gt),(∀x,x∈L->x.2.text≠[])->L.length<=(spl L).length:=by
   intro L;induction L with
   |nil=>intro _;simp
   |cons x r ih=>
    intro hx;have:=ih λy hy=>hx y (by simp[hy])
    have:=List.length_pos_iff.2 (hx x (by simp));rw[spl,wM,wM,yS];omega
  rw[WR,rZ,decide_eq_true_eq];refine⟨?_,asM _ ⟨0,[],0⟩ 0 h1.1 λ_=>h1.2⟩;rw[apo];refine Nat.le_trans (hL _ ?_) hl;have hne:∀(L:List Gt) (a:Tk),okS a L->∀x,x∈L->x.2.text≠[]:=by
   intro L;induction L with
   |nil=>intro a _ x hx;cases hx
   |cons y r ih=>
    intro a ho x hx;rcases List.mem_cons.1 hx with rfl|hx
    ·exact(NP ho.2.1).1
    ·exact ih _ ho.2.2.2 x hx
  exact hne _ _ h1.1
 have hn:=aBD (h:=h) (m:=m) hk hr he hd hp.tks;obtain⟨q,hev⟩:=aJX (h:=h) (m:=m) hr he hp.tks rfl;refine⟨aym hx hl ht hn hev (by have:=hsz.1;show(Ky h t).size<=400;omega) (by show depth ((Ky h t).flat 0)<=40;omega), ?_⟩;exact auY (aF8 h hr he) (asQ h hs) ak ak
def awF:∀{ks:List Tn},(∀u,u∈ks->txT u)->ase ks
 |[],_=>by rw[ase];trivial
 |t::ts,h=>by rw[ase];exact⟨h t zmf,awF λu hu=>h u (zmm _ hu)⟩
def aSm(t:Tn):Kz t->Wq t->PW t->txT t:=by
 refine Tn.ind (P:=λt=>Kz t->Wq t->PW t->txT t) ?_ t;intro k op x y ks ih hok hr he;simp only[PW,Tn.kind] at he;rw[Wq] at hr;rw[txT];refine⟨?_,awF λu hu=> ?_⟩
 ·have hF:=hr.1;generalize ks.length=n at hF;refine⟨λe=> ?_,λe=> ?_,λe=> ?_,λe=> ?_,λe=> ?_⟩<;>cases hF<;>first|assumption|omega|(exfalso;omega)|(rename_i h1 h2;rcases h1 with rfl|rfl|rfl<;>first|exact h2|omega)
 ·obtain⟨i,hi⟩:=List.mem_iff_getElem?.1 hu;obtain⟨h1,h2⟩:=abf hok he hi;exact ih u hu h2 (YD hr.2 hi).2 h1
end Go.Proofs.YtephpnbbbimjbaaGreatDoor
namespace Go.Proofs.YtephpnbbbimjbaaGreatDoor
open Go Go.Vm
def aBK(l:List Nd)(o:Bool)(d:Int)(hl:l.length<=1048576)(hk:∀n,n∈l->n.kids.length<=1048576/\∀e,e∈n.kids-> -4000000000<=e+d/\e+d<=4000000000):
  M.zu (dD o l) d=some (dD true (l.map (Nd.up d))):=by
 simp only[M.zu,M.Oi];have hloop:=vW (b:=M.HY (dD o l) d) (t:=((l.length:Int),dD true (l.map (Nd.up d)))) (λi=>((i:Int),dD true ((l.take i).map (Nd.up d)))) l.length
  (by
   intro i hi;obtain⟨n,hn⟩:∃n,l[i]? =some n:=⟨l[i],by simp[hi]⟩
   obtain⟨hkl,hke⟩:=hk n (WW hn);have hin:=vW (b:=M.Hz (dD o l) d (i:Int) (dD true ((l.take i).map (Nd.up d))) n.kind n.op n.text n.other) (t:=((n.kids.length:Int),encI (n.kids.map (· +d)))) (λj=>((j:Int),encI ((n.kids.take j).map (· +d)))) n.kids.length
    (by
     intro j hj;obtain⟨e,he⟩:∃e,n.kids[j]? =some e:=⟨n.kids[j],by simp[hj]⟩
     have:=hke e (WW he);simp only[yH,M.Hz,M.Ce,dn,mG,hn,Nw,ah,Vz,eH,Ey,he,Zq,zaR,zlt,GK];rw[zdt ak,aG,bC ak,aG,bC ak,aG,aS ak ak,aS ak ak,qW he];simp[encI])
    (by simp only[yH,M.Hz,M.Ce,dn,mG,hn,Nw,ah,Vz,eH];rw[vG ak,aQ,List.take_length]) 0 (Nat.zero_le _)
   simp only[MW,List.take_zero,List.map_nil] at hin;have hin':M.Lj (dD o l) d (i:Int) (dD true ((l.take i).map (Nd.up d))) n.kind n.op n.text n.other (0,[])=some ((n.kids.length:Int),encI (n.kids.map (· +d))):=hin;simp only[yH,M.HY,M.Ci,fP,dn,mG,hn,Nw,ah,Yk,YS,YT,YU,Vz,hin',Ez,aG,zaR,zlt,GK];rw[zdt ak,aG,bC ak,aG,bC ak,aG,aS ak ak,qW hn,List.map_append,Kt];rfl)
  (by simp only[yH,M.HY,M.Ci,fP];rw[vG ak,aQ,List.take_length]) 0 (Nat.zero_le _)
 simp only[MW,List.take_zero,List.map_nil] at hloop;have MZ:M.Ll (dD o l) d (0,[])=some ((l.length:Int),dD true (l.map (Nd.up d))):=hloop;rw[MZ,ah]
def parts(ts:List Tn):ay:=ts.map λt=>[.sl false 5 (dD false (t.flat 0))]
def awG(k op:Int)(x y:aC)(kr:ay)(ts:List Tn)(hs:sizes ts<=900000):M.bT k op x y kr (parts ts)=some (dD true ((Tn.mk k op x y ts).flat 0)):=by
 have htl:=BN ts;simp only[yH,M.bT,M.QO];have hpl:(parts ts).length=ts.length:=by simp[parts]
 have hloop:=vW (b:=M.JB (parts ts) k op x y) (t:=((ts.length:Int),dD true (jU ts 0),encI (ends ts 0))) (λj=>((j:Int),dD true (jU (ts.take j) 0),encI (ends (ts.take j) 0))) ts.length
  (by
   intro j hj;obtain⟨t,ht⟩:∃t,ts[j]? =some t:=⟨ts[j],by simp[hj]⟩
   have hst:=Nh ht;have hp:=t.size_pos;have hr:(parts ts)[j]? =some [.sl false 5 (dD false (t.flat 0))]:=by simp[parts,ht]
   have c0:cSl 5 [D.sl false 5 (dD false (t.flat 0))] 0=some (dD false (t.flat 0)):=rfl;have hfl:(dD true (jU (ts.take j) 0)).length=sizes (ts.take j):=by rw[fP,oz]
   have hsh:M.zu (dD false (t.flat 0)) ((sizes (ts.take j):Nat):Int)=some (dD true (t.flat (sizes (ts.take j)))):=by
    rw[aBK (t.flat 0) false _ (by rw[t.flat_length];omega) (λn hn=> ?_)]
    ·rw[t.aoH 0 (sizes (ts.take j))];congr 4<;>omega
    ·obtain⟨h1,h2⟩:=Uu t 0 n hn;refine⟨ak,λe he=> ?_⟩;have:=h2 e he;omega
   have hrl:(dD true (t.flat (sizes (ts.take j)))).length=t.size:=by rw[fP,t.flat_length]
   have hel:(encI (ends (ts.take j) 0)).length=j:=by rw[eH,jr,zlt];omega
   simp only[yH,M.JB,M.EH,hpl,dn,hr,ah,c0,hfl,hsh,hrl,hel,wM,GK];rw[zdt ak,aG,bC ak,aG,bC ak,aG,bC ak,aG,bC ak,aG,aS ak ak,aS ak ak,aeu ht,agU ht,Kt,Nat.zero_add];simp[encI])
  (by simp only[yH,M.JB,M.EH,hpl];rw[vG ak,aQ,List.take_length]) 0 (Nat.zero_le _)
 have e0:dD true (jU (ts.take 0) 0)=[]:=rfl;have e1:encI (ends (ts.take 0) 0)=[]:=rfl;rw[MW,e0,e1] at hloop;have MZ:M.Oj (parts ts) k op x y (0,[],[])=some ((ts.length:Int),dD true (jU ts 0),encI (ends ts 0)):=hloop;rw[MZ,ah];simp only[Ez,aG,fP,oz,GK];rw[bC ak,aG,bC ak,aG,Tn.flat,Kt];rfl
def aBL(o w:Bool)(ts:List Tn):aB (ts.map λt=>[D.sl w 5 (dD o (t.flat 0))])=parts ts:=by rw[akO,List.map_map];unfold parts;congr 1;funext t;simp[Fh,D.fz,Oc]
def cR(s:Cu):ay:=s.code.map byteRow
structure Zp(s:Cu):Prop where
 i:s.i<=s.code.length
 l:s.code.length<=1048576
def Zp.st{s:Cu}(h:Zp s)(p:Nat):Zp (s.st p):=⟨by rw[Cu.azz s h.i,Cu.Lh];omega,by rw[Cu.Lh];exact h.l⟩
def ayn(x:Int):i64.wrap (↑(BitVec.ofInt 64 x &&& BitVec.ofInt 64 255).toNat:Int)=(afg x:Int):=by have:=avF x;show i64.wrap (afg x:Int)=_;exact aS ak ak
def aF9{s:Cu}(h:Zp s):M.qB (cR s) s.i s.h=some ((s.byte:Int),cR s.nx,(s.nx.i:Int),s.nx.h):=by
 have hi:=h.i;have hl:=h.l;simp only[M.qB,M.QJ,ayn];have e1:(cR s).length=s.code.length:=by simp[cR]
 have e2:cR s.nx=cR s:=rfl;have e3:s.nx.h=i64.wrap (i64.wrap (s.h * 6364136223846793005)+1442695040888963407):=rfl;rw[e1,e2,e3]
 by_cases hlt:s.i<s.code.length
 ·obtain⟨b,hb⟩:∃b,s.code[s.i]? =some b:=⟨s.code[s.i],by simp[hlt]⟩
  have hr:idx (cR s) (s.i:Int)=some (byteRow b):=by rw[dn,cR,List.getElem?_map,hb];rfl
  have hc:jR .u8 (byteRow b) 0=some (b.toNat:Int):=rfl;have hn:(s.nx.i:Int)=(s.i:Int)+1:=by show((if s.i<s.code.length then s.i+1 else s.i:Nat):Int)=_;rw[if_pos hlt];omega
  have hby:s.byte=afg (i64.wrap ((afg (aqm (nxH s.h)):Int)+b.toNat)):=by rw[Cu.byte,hb]
  have hb8:(b.toNat:Int)<=255:=by have:=b.toNat_lt;omega
  rw[zdt ak,aG,hr,ah,hc,ah,aS (n:=(b.toNat:Int)) ak ak,aS (n:=(s.i:Int)+1) ak ak,hn,hby];rfl
 ·have hb:s.code[s.i]? =none:=List.getElem?_eq_none ak;have hn:(s.nx.i:Int)=(s.i:Int):=by show((if s.i<s.code.length then s.i+1 else s.i:Nat):Int)=_;rw[if_neg hlt]
  have hby:s.byte=afg (aqm (nxH s.h)):=by rw[Cu.byte,hb]
  rw[vG ak,aQ,hn,hby];rfl
def cS(s:Cu)(p:Nat):ay×Int×Int:=(cR (s.st p),((s.st p).i:Int),(s.st p).h)
section
variable {s:Cu} (h:Zp s)
include h
theorem byte_at(p:Nat):M.qB (cS s p).1 (cS s p).2.1 (cS s p).2.2=some ((s.g p:Int),cS s (p+1)):=by show M.qB (cR (s.st p)) ((s.st p).i:Int) (s.st p).h=_;rw[aF9 (h.st p)];show _=some (((s.st p).byte:Int),(cR (s.st (p+1)),((s.st (p+1)).i:Int),(s.st (p+1)).h));rw[Cu.st_succ]
theorem nC(p n:Nat)(h1:1<=n)(h2:n<=256):M.aX (n:Int) (cS s p).1 (cS s p).2.1 (cS s p).2.2=some (((s.g p % n:Nat):Int),cS s (p+1)):=by simp only[M.aX,M.EF,byte_at h,ah];rw[vG ak,aQ,zdt ak,aG,vG ak];simp only[Bool.not_false,aG];rw[Int.tmod_eq_emod_of_nonneg ak,Int.natCast_emod]
theorem ahc(p:Nat)(n:Int)(hn:n<=9000000000000000000):∃(k:Int) (q:Nat),M.aX n (cS s p).1 (cS s p).2.1 (cS s p).2.2=some (k,cS s q)/\p<=q/\q<=p+4/\0<=k/\(k<n\/(n<=0/\k=0)):=by
 by_cases h0:n<=0
 ·refine⟨0,p, ?_,zaQ _,ak,ak,.inr ⟨h0,rfl⟩⟩;simp only[M.aX,M.EF];rw[zdt h0,aG]
 ·by_cases h1:n<=256
  ·obtain⟨m,rfl⟩:=Int.eq_ofNat_of_zero_le (a:=n) ak;have h1':m<=256:=ak;have h0':1<=m:=ak;refine⟨_,_,nC h p m h0' h1',ak,ak,ak,.inl ?_⟩;have:=Nat.mod_lt (s.g p) (show 0<m by omega);exact Int.ofNat_lt.2 this
  ·refine⟨((((s.g p:Int) * 16777216+(s.g (p+1):Int) * 65536)+(s.g (p+2):Int) * 256)+(s.g (p+3):Int)) % n,p+4, ?_,ak,ak,Int.emod_nonneg _ ak,.inl (Int.emod_lt_of_pos _ ak)⟩;have hb:∀q,(s.g q:Int)<256:=λq=>by have:=(s.st q).aCG;exact Int.ofNat_lt.2 this
   have b0:=hb p;have b1:=hb (p+1);have b2:=hb (p+2);have b3:=hb (p+3);simp only[M.aX,M.EF,byte_at h,ah];rw[vG h0,aQ,vG h1,aQ,vG ak];simp only[Bool.not_false,aG];rw[show p+1+1=p+2 from rfl,show p+2+1=p+3 from rfl,show p+3+1=p+4 from rfl];rw[aS (n:=(s.g p:Int) * 16777216) ak ak,aS (n:=(s.g (p+1):Int) * 65536) ak ak,aS (n:=(s.g (p+2):Int) * 256) ak ak,
    aS (n:=(s.g p:Int) * 16777216+(s.g (p+1):Int) * 65536) ak ak,aS (n:=(s.g p:Int) * 16777216+(s.g (p+1):Int) * 65536+(s.g (p+2):Int) * 256) ak ak,
    aS (n:=(s.g p:Int) * 16777216+(s.g (p+1):Int) * 65536+(s.g (p+2):Int) * 256+(s.g (p+3):Int)) ak ak,Int.tmod_eq_emod_of_nonneg ak]
theorem RF(p n:Nat)(h1:1<=n)(h2:n<=256):M.jh (n:Int) (cS s p).1 (cS s p).2.1 (cS s p).2.2=some (s.g p % n==0,cS s (p+1)):=by
 simp only[M.jh,M.QK,nC h p n h1 h2,ah];congr 2;cases hc:s.g p % n==0 with
 |true=>simp only[beq_iff_eq] at hc;rw[hc];rfl
 |false=>simp only[mX,ne_eq] at hc;exact mX.2 ak
end
def Ns(t:aC):Prop:=t.length<=100
def pkS(rows:ay)(k:Nat):aC:=match rows[k % rows.length]? with
 |some [.str t]=>t
 |_=>[]
def pkI(rows:ay)(k:Nat):Int:=match rows[k % rows.length]? with
 |some [.int .i64 n]=>n
 |_=>0
def abo(f:Row->Bool)(rows:ay):Bool:=rows.all f &&(Nat.ble 1 rows.length && Nat.ble rows.length 256)
def sB:Row->Bool
 |[.str t]=>Nat.ble t.length 100
 |_=>false
def iB:Row->Bool
 |[.int .i64 n]=>decide (-1000<=n) && decide (n<=1000)
 |_=>false
def af4{f:Row->Bool}{rows:ay}(hr:abo f rows=true)(k:Nat):∃r,rows[k % rows.length]? =some r/\f r=true/\1<=rows.length/\rows.length<=256:=by simp only[abo,rZ] at hr;have h1:=Nat.le_of_ble_eq_true hr.2.1;have h2:=Nat.le_of_ble_eq_true hr.2.2;have hm:=Nat.mod_lt k (show 0<rows.length by omega);exact⟨rows[k % rows.length],by simp[hm],List.all_eq_true.1 hr.1 _ (List.getElem_mem hm),h1,h2⟩
def Fa{rows:ay}(hr:abo sB rows=true)(k:Nat):Ns (pkS rows k):=by
 obtain⟨r,h1,h2,_⟩:=af4 hr k;unfold pkS;rw[h1];unfold sB at h2;split at h2
 ·exact Nat.le_of_ble_eq_true h2
 ·cases h2
def Ku{rows:ay}(hr:abo iB rows=true)(k:Nat): -1000<=pkI rows k/\pkI rows k<=1000:=by
 obtain⟨r,h1,h2,_⟩:=af4 hr k;unfold pkI;rw[h1];unfold iB at h2;split at h2
 ·simpa using h2
 ·cases h2
section
variable {s:Cu} (h:Zp s)
include h
theorem PK(p:Nat)(rows:ay)(hr:abo sB rows=true):M.iI rows (cS s p).1 (cS s p).2.1 (cS s p).2.2=some (pkS rows (s.g p),cS s (p+1)):=by
 obtain⟨r,h1,h2,h3,h4⟩:=af4 hr (s.g p);simp only[M.iI,M.QL];rw[nC h p rows.length h3 h4,ah];simp only[dn,h1,ah,pkS];unfold sB at h2;split at h2
 ·rfl
 ·cases h2
theorem PL(p:Nat)(rows:ay)(hr:abo iB rows=true):M.iC rows (cS s p).1 (cS s p).2.1 (cS s p).2.2=some (pkI rows (s.g p),cS s (p+1)):=by
 obtain⟨r,h1,h2,h3,h4⟩:=af4 hr (s.g p);simp only[M.iC,M.JD];rw[nC h p rows.length h3 h4,ah];simp only[dn,h1,ah,pkI];unfold iB at h2;split at h2
 ·rfl
 ·cases h2
theorem Un(p:Nat):∃t,Ns t/\M.jJ (cS s p).1 (cS s p).2.1 (cS s p).2.2=some (t,cS s (p+1)):=by refine⟨_, ?_,by simp only[M.jJ,M.QM];rw[PK h p _ rfl];rfl⟩;exact Fa rfl _
theorem aKq(p:Nat):∃t,Ns t/\M.IX (cS s p).1 (cS s p).2.1 (cS s p).2.2=some (t,cS s (p+1)):=by refine⟨_, ?_,by simp only[M.IX,M.TS];rw[PK h p _ rfl];rfl⟩;exact Fa rfl _
theorem aKr(p:Nat):∃t,Ns t/\M.IY (cS s p).1 (cS s p).2.1 (cS s p).2.2=some (t,cS s (p+1)):=by refine⟨_, ?_,by simp only[M.IY,M.TU];rw[PK h p _ rfl];rfl⟩;exact Fa rfl _
theorem aKs(p:Nat):∃t,Ns t/\M.IZ (cS s p).1 (cS s p).2.1 (cS s p).2.2=some (t,cS s (p+1)):=by refine⟨_, ?_,by simp only[M.IZ,M.TV];rw[PK h p _ rfl];rfl⟩;exact Fa rfl _
theorem aBM(p:Nat):∃t:Int, -1000<=t/\t<=1000/\M.BP (cS s p).1 (cS s p).2.1 (cS s p).2.2=some (t,cS s (p+1)):=by
 refine⟨_, ?_, ?_,by simp only[M.BP,M.Om];rw[PL h p _ rfl];rfl⟩
 ·exact(Ku rfl _).1
 ·exact(Ku rfl _).2
end
set_option maxHeartbeats 400000
def aBN(n:Nd):Prop:=(-1000<=n.kind/\n.kind<=1000)/\(-1000<=n.op/\n.op<=1000)/\Ns n.text/\Ns n.other
def NS(t:Tn):Prop:=∀b n,n∈t.flat b->aBN n
def anX:∀{ts:List Tn} {b:Nat} {n:Nd},n∈jU ts b->∃t,t∈ts/\∃b',n∈t.flat b'
 |[],b,n,h=>by simp[jU] at h
 |t::ts,b,n,h=>by
  rw[jU,List.mem_append] at h;rcases h with h|h
  ·exact⟨t,by simp,b,h⟩
  ·obtain⟨u,h1,h2⟩:=anX h;exact⟨u,by simp[h1],h2⟩
def ai7{k op:Int}{x y:aC}{ts:List Tn}(hk: -1000<=k/\k<=1000)(ho: -1000<=op/\op<=1000)(hx:Ns x)(hy:Ns y)(h:∀t,t∈ts->NS t):NS (.mk k op x y ts):=by
 intro b n hn;rw[Tn.flat,List.mem_append] at hn;rcases hn with hn|hn
 ·obtain⟨t,h1,b',h2⟩:=anX hn;exact h t h1 b' n h2
 ·rw[List.mem_singleton.1 hn];exact⟨hk,ho,hx,hy⟩
def bV:Ns []:=by simp[Ns]
abbrev DF:=Nat->Nat×Nat
def up(r:Nat×Nat):Nat×Nat:=(r.1+1,r.2)
def tq(a b:DF):DF:=λp=>((a p).1+(b (a p).2).1,(b (a p).2).2)
def itS(e:DF):Nat->DF
 |0,p=>(0,p)
 |n+1,p=>((e p).1+(itS e n (e p).2).1,(itS e n (e p).2).2)
def asR(g:Nat->Nat)(p:Nat):Nat:=bif Nat.beq (g p % 7) 2 then p+3 else p+2
def af5(g:Nat->Nat):DF:=λp=>(1,asR g p)
def lvS(g:Nat->Nat)(e1 e2:DF):DF:=λp=>match g p % 4 with
 |0=>up (e1 (p+2))
 |1=>up (e2 (p+1))
 |_=>(1,p+2)
def FM(g:Nat->Nat)(e:DF)(least w:Nat):DF:=λp=>itS e (least+g p % w) (p+1)
def Ld(g:Nat->Nat)(e0 e1 e2:DF):DF:=λp=>match g (p+1) % 16 with
 |0=>af5 g (p+2)
 |1=>lvS g e0 e1 (p+2)
 |2=>up (e0 (p+2))
 |3=>up (FM g e0 0 4 (p+3))
 |4=>up (FM g e1 0 4 (p+3))
 |5=>up (lvS g e1 e2 (p+2))
 |6=>up (lvS g e1 e2 (p+2))
 |7=>up (e0 (p+3))
 |8=>up (e0 (p+3))
 |9=>up (FM g e0 1 2 (p+3))
 |10=>up (itS e0 3 (p+2))
 |11=>up (tq (lvS g e1 e2) e0 (p+3))
 |_=>up (itS e0 2 (p+3))
def apA{g:Nat->Nat}{e0 e1 e2:DF}{p:Nat}(h:12<=g (p+1) % 16):Ld g e0 e1 e2 p=up (itS e0 2 (p+3)):=by unfold Ld;split<;>first|omega|rfl
def WT(g:Nat->Nat):Nat->DF×DF×DF
 |0=>(af5 g,af5 g,af5 g)
 |d+1=>(Ld g (WT g d).1 (WT g d).2.1 (WT g d).2.2,(WT g d).1,(WT g d).2.1)
def fM(g:Nat->Nat)(d:Nat):DF:=(WT g d).1
def aBO(g:Nat->Nat):∀d,WT g d=(fM g d,fM g (d - 1),fM g (d - 2))
 |0=>rfl
 |1=>rfl
 |d+2=>rfl
def YL(g:Nat->Nat)(d:Nat):fM g (d+1)=Ld g (fM g d) (fM g (d - 1)) (fM g (d - 2)):=by show Ld g (WT g d).1 (WT g d).2.1 (WT g d).2.2=_;rw[aBO]
def au0(g:Nat->Nat):fM g 0=af5 g:=rfl
def Bd(b:Nat)(e:DF):Prop:=∀p,1<=(e p).1/\p+(e p).1<=(e p).2/\(e p).2<=p+b
def Bd.mono{b b':Nat}{e:DF}(h:Bd b e)(hb:b<=b'):Bd b' e:=λp=>by have:=h p;omega
def abp{b:Nat}{e:DF}(h:Bd b e):∀n p,n<=(itS e n p).1/\p+(itS e n p).1<=(itS e n p).2/\(itS e n p).2<=p+n * b
 |0,p=>by simp[itS]
 |n+1,p=>by have h1:=h p;have h2:=abp h n (e p).2;rw[itS,Nat.add_mul];simp only;omega
def awH(g:Nat->Nat):Bd 3 (af5 g):=λp=>by show 1<=1/\p+1<=asR g p/\asR g p<=p+3;unfold asR;cases Nat.beq (g p % 7) 2<;>simp
def aBP{g:Nat->Nat}{b:Nat}{e1 e2:DF}(h1:Bd b e1)(h2:Bd b e2):Bd (b+2) (lvS g e1 e2):=λp=>by unfold lvS up;have a:=h1 (p+2);have c:=h2 (p+1);split<;>first|omega|(simp only;omega)
def YM{g:Nat->Nat}{b:Nat}{e:DF}(h:Bd b e)(least w:Nat)(hw:1<=w)(p:Nat):p+1+(FM g e least w p).1<=(FM g e least w p).2/\(FM g e least w p).2<=p+1+(least+w - 1) * b:=by unfold FM;have:=abp h (least+g p % w) (p+1);have hm:=Nat.mod_lt (g p) (show 0<w by omega);have h2:(least+g p % w) * b<=(least+w - 1) * b:=Nat.mul_le_mul_right b ak;omega
def aGa{g:Nat->Nat}{b:Nat}{e0 e1 e2:DF}(hb:3<=b)(h0:Bd b e0)(h1:Bd b e1)(h2:Bd b e2):Bd (3 * b+4) (Ld g e0 e1 e2):=λp=>by unfold Ld up tq;have a2:=h0 (p+2);have a3:=h0 (p+3);have l0:=awH g (p+2);have v0:=aBP (g:=g) h0 h1 (p+2);have v2:=aBP (g:=g) h1 h2 (p+2);have v3:=aBP (g:=g) h1 h2 (p+3);have b3:=h0 (lvS g e1 e2 (p+3)).2;have i3:=abp h0 3 (p+2);have i2:=abp h0 2 (p+3);have s0:=YM (g:=g) h0 0 4 ak (p+3);have s1:=YM (g:=g) h1 0 4 ak (p+3);have s9:=YM (g:=g) h0 1 2 ak (p+3);split<;>first|omega|(simp only;omega)
def bE:Nat->Nat
 |0=>3
 |d+1=>3 * bE d+4
def aHa:∀d,3<=bE d
 |0=>zaQ _
 |d+1=>by have:=aHa d;rw[bE];omega
def apB:∀d,bE (d - 1)<=bE d/\bE (d - 2)<=bE d
 |0=>⟨zaQ _,zaQ _⟩
 |1=>by decide
 |d+2=>by have h1:d+2 - 1=d+1:=rfl;have h2:d+2 - 2=d:=rfl;rw[h1,h2,show bE (d+2)=3 * bE (d+1)+4 from rfl,show bE (d+1)=3 * bE d+4 from rfl];omega
def oO(g:Nat->Nat)(d:Nat):Bd (bE d) (fM g d):=by
 induction d using Nat.strongRecOn with
 |_ d ih=>
  cases d with
  |zero=>exact awH g
  |succ d=>rw[YL];have hm:=apB d;exact aGa (aHa d) (ih d ak) ((ih (d - 1) ak).mono hm.1) ((ih (d - 2) ak).mono hm.2)
abbrev DR:=Option zaH
def DTr(m:DR)(s:Cu)(r:Nat×Nat):Prop:=∃t:Tn,m=some (dD true (t.flat 0),cS s r.2)/\t.size=r.1/\NS t
def rowT(t:Tn):Row:=[D.sl true 5 (dD true (t.flat 0))]
def DL(m:DR)(s:Cu)(r:Nat×Nat):Prop:=∃ts:List Tn,m=some (ts.map rowT,cS s r.2)/\sizes ts=r.1/\ts.length<=10/\∀t,t∈ts->NS t
def awI(ts:List Tn):aB (ts.map rowT)=parts ts:=aBL true true ts
def bd{α:Type}{m:Option α}{x:α}{k:α->DR}{s:Cu}{r:Nat×Nat}(e:m=some x)(hk:DTr (k x) s r):DTr (m.bind k) s r:=by rw[e];exact hk
def made{s:Cu}{q:Nat}(k op:Int)(x y:aC)(ts:List Tn){z:Nat}(hz:sizes ts+1=z)(hs:z<=900000)(hk: -1000<=k/\k<=1000)(ho: -1000<=op/\op<=1000)(hx:Ns x)(hy:Ns y)(h:∀t,t∈ts->NS t):
  DTr ((M.bT k op x y [] (aB (ts.map rowT))).bind λr=>bif[[D.sl true 5 r]].all dw then some (r,(cS s q).1,(cS s q).2.1,(cS s q).2.2) else none) s (z,q):=by
 refine⟨.mk k op x y ts, ?_, ?_,ai7 hk ho hx hy h⟩
 ·rw[awI,awG k op x y [] ts ak,ah,abE,aG]
 ·rw[Tn.size];exact hz
def Fb{t:Tn}(h:NS t):∀u,u∈[t]->NS u:=λu hu=>by rw[List.mem_singleton.1 hu];exact h
def abq{s:Cu}{q:Nat}(k:Int)(x:aC)(hk: -1000<=k/\k<=1000)(hx:Ns x):DTr (some ([[D.int IntKind.i64 k,D.int IntKind.i64 0,D.str x,D.str [],D.sl true 1 []]],(cS s q).1,(cS s q).2.1,(cS s q).2.2)) s (1,q):=
 ⟨.mk k 0 x [] [],rfl,rfl,ai7 hk ak hx bV (by simp)⟩
def Vt{s:Cu}{e:DF}{b:Int×ay×Int×Int×ay->Option ((Int×ay×Int×Int×ay)⊕zax)}
  (hz:∀p x,b (0,(cS s p).1,(cS s p).2.1,(cS s p).2.2,x)=some (.inr (0,(cS s p).1,(cS s p).2.1,(cS s p).2.2,x)))
  (hs:∀(n p:Nat) (ts:List Tn),n<=10->ts.length<=20->∃t,b (((n+1:Nat):Int),(cS s p).1,(cS s p).2.1,(cS s p).2.2,ts.map rowT)=some (.inl ((n:Int),(cS s (e p).2).1,(cS s (e p).2).2.1,(cS s (e p).2).2.2,(ts++[t]).map rowT))/\t.size=(e p).1/\NS t):
  ∀(n p:Nat) (ts:List Tn),n+ts.length<=10->∃us:List Tn,fJ b ((n:Int),(cS s p).1,(cS s p).2.1,(cS s p).2.2,ts.map rowT)=some (0,(cS s (itS e n p).2).1,(cS s (itS e n p).2).2.1,(cS s (itS e n p).2).2.2,(ts++us).map rowT)/\sizes us=(itS e n p).1/\us.length=n/\∀t,t∈us->NS t
 |0,p,ts,_=>⟨[],by rw[MW,aT (hz p _),List.append_nil];rfl,rfl,rfl,by simp⟩
 |n+1,p,ts,hn=>by
  obtain⟨t,h1,h2,h3⟩:=hs n p ts ak ak;obtain⟨us,k1,k2,k3,k4⟩:=Vt hz hs n (e p).2 (ts++[t]) (by simp;omega);refine⟨t::us, ?_, ?_,by simp[k3], ?_⟩
  ·rw[cu h1,k1,itS,Qc];rfl
  ·rw[sizes,h2,k2,itS]
  ·intro u hu;rcases List.mem_cons.1 hu with rfl|hu
   ·exact h3
   ·exact k4 u hu
def Ux(ts:List Tn)(t:Tn):(ts++[t]).map rowT=ts.map rowT++[[D.sl true 5 (dD true (t.flat 0))]]:=by rw[List.map_append];rfl
section
variable {s:Cu} (h:Zp s)
include h
theorem asT(p:Nat):DTr (M.BO (cS s p).1 (cS s p).2.1 (cS s p).2.2) s (af5 s.g p):=by
 have hm:=Nat.mod_lt (s.g p) (show 0<7 by omega);simp only[M.BO,M.QN,af5,asR];rw[show((7:Int))=((7:Nat):Int) from rfl,nC h p 7 ak ak,ah];obtain⟨t1,a1,e1⟩:=aKq h (p+1);obtain⟨t2,a2,e2⟩:=aKr h (p+1);obtain⟨t3,a3,e3⟩:=aKs h (p+1+1);obtain⟨t4,a4,e4⟩:=Un h (p+1+1);obtain⟨t5,a5,e5⟩:=Un h (p+1);have hc:s.g p % 7=0\/s.g p % 7=1\/s.g p % 7=2\/3<=s.g p % 7:=ak;have e6:=RF h (p+1) 2 ak ak;rw[show((2:Nat):Int)=2 from rfl] at e6;rcases hc with hc|hc|hc|hc
 ·rw[hc];simp only[e1,ah];exact abq 2 t1 ak a1
 ·rw[hc];simp only[e2,ah];exact abq 3 t2 ak a2
 ·rw[hc];simp only[e6,ah];cases hq:s.g (p+1) % 2==0 with
  |true=>simp only[hq,aG,e3,ah];exact abq 4 t3 ak a3
  |false=>simp only[hq,aQ,e4,ah];exact abq 1 t4 ak a4
 ·have n0:(((s.g p % 7:Nat):Int)==0)=false:=mX.2 ak;have n1:(((s.g p % 7:Nat):Int)==1)=false:=mX.2 ak;have n2:(((s.g p % 7:Nat):Int)==2)=false:=mX.2 ak;have n3:Nat.beq (s.g p % 7) 2=false:=yG ak;simp only[n0,n1,n2,n3,aQ,e5,ah];exact abq 1 t5 ak a5
end
def EX(s:Cu)(k d:Nat):Prop:=∀deep:Int, -8<=deep->deep<=5->deep.toNat=d->∀p,DTr (M.qR k deep (cS s p).1 (cS s p).2.1 (cS s p).2.2) s (fM s.g d p)
def WU{d:Nat}(h:d<=5):bE d<=1300:=by have:d=0\/d=1\/d=2\/d=3\/d=4\/d=5:=ak;rcases this with rfl|rfl|rfl|rfl|rfl|rfl<;>decide
section
variable {s:Cu} (h:Zp s)
include h
theorem aHb{k d:Nat}(hd:d<=5)(h1:EX s k (d - 1))(h2:EX s k (d - 2)){deep:Int}(l1: -6<=deep)(l2:deep<=5)(l3:deep.toNat=d)(p:Nat):
  DTr (M.Lm (k+1) deep (cS s p).1 (cS s p).2.1 (cS s p).2.2) s (lvS s.g (fM s.g (d - 1)) (fM s.g (d - 2)) p):=by
 have hm:=Nat.mod_lt (s.g p) (show 0<4 by omega);have b1:=oO s.g (d - 1) (p+2);have b2:=oO s.g (d - 2) (p+1);have c1:=WU (show d - 1<=5 by omega);have c2:=WU (show d - 2<=5 by omega);rw[M.ah9];simp only[M.BG,lvS];rw[show((4:Int))=((4:Nat):Int) from rfl,nC h p 4 ak ak,ah,aS (n:=deep - 1) ak ak,aS (n:=deep - 2) ak ak];obtain⟨t1,a1,e1⟩:=Un h (p+1);obtain⟨u1,f1,z1,i1⟩:=h1 (deep - 1) ak ak ak (p+2);obtain⟨u2,f2,z2,i2⟩:=h2 (deep - 2) ak ak ak (p+1);have hc:s.g p % 4=0\/s.g p % 4=1\/s.g p % 4=2\/s.g p % 4=3:=ak;rcases hc with hc|hc|hc|hc
 ·rw[hc];simp only[e1,f1,ah];exact made 5 0 t1 [] [u1] (by rw[sizes,sizes,z1]) ak ak ak a1 bV (Fb i1)
 ·rw[hc];simp only[f2,ah];exact made 6 0 [] [] [u2] (by rw[sizes,sizes,z2]) ak ak ak bV bV (Fb i2)
 ·rw[hc];simp only[e1,ah];exact abq 1 t1 ak a1
 ·rw[hc];simp only[e1,ah];exact abq 1 t1 ak a1
theorem ai8{k:Nat}{deep:Int}{e:DF}{b:Nat}(hb:Bd b e)(hb2:b<=2000)(he:∀p,DTr (M.qR k deep (cS s p).1 (cS s p).2.1 (cS s p).2.2) s (e p))(least most:Nat)(hl:least<=most)(hm:most<=5)(p:Nat):
  DL (M.Hr (k+1) least most deep (cS s p).1 (cS s p).2.1 (cS s p).2.2) s (FM s.g e least (most - least+1) p):=by
 rw[M.alR];simp only[M.Hq];have hmod:=Nat.mod_lt (s.g p) (show 0<most - least+1 by omega);have e1:i64.wrap (i64.wrap ((most:Int) - least)+1)=((most - least+1:Nat):Int):=by rw[aS (n:=(most:Int) - least) ak ak,aS ak ak];omega
 rw[e1,nC h p (most - least+1) ak ak,ah];have e2:i64.wrap ((least:Int)+((s.g p %(most - least+1):Nat):Int))=((least+s.g p %(most - least+1):Nat):Int):=by rw[aS ak ak];omega
 simp only[e2];obtain⟨us,k1,k2,k3,k4⟩:=Vt (s:=s) (e:=e) (b:=M.Qp (M.qR k) deep) (λp x=>rfl) (λn p ts hn ht=>by obtain⟨t,f1,z1,i1⟩:=he p;refine⟨t, ?_,z1,i1⟩;simp only[yH,M.Qp,M.JC,f1,ah,zaR,GK];rw[zdt ak,aG,bC ak,aG,bC ak,aG,aS ak ak,Ux];simp) (least+s.g p %(most - least+1)) (p+1) [] (by simp;omega);refine⟨us, ?_,k2,ak,k4⟩;have k1':M.Ol (M.qR k) deep (((least+s.g p %(most - least+1):Nat):Int),(cS s (p+1)).1,(cS s (p+1)).2.1,(cS s (p+1)).2.2,[])=_:=k1;rw[k1',ah];rfl
theorem ayo{d j:Nat}(hd:d+1<=5)(H:∀i,j<=i->EX s i d/\EX s i (d - 1)/\EX s i (d - 2)):EX s (j+2) (d+1):=by
 intro deep l1 l2 l3 p;obtain⟨h0,hq1,hq2⟩:=H j (zaQ _);obtain⟨h0',_,_⟩:=H (j+1) ak;have hm:=Nat.mod_lt (s.g (p+1)) (show 0<16 by omega);have hm2:=Nat.mod_lt (s.g p) (show 0<2 by omega);have c0:=WU (show d<=5 by omega);have c1:=WU (show d - 1<=5 by omega);have hB:=oO s.g (d+1) p;have hB2:=WU hd;have hB3:(fM s.g (d+1) p).1<=900000:=ak;rw[YL] at hB3|-;rw[M.aci];simp only[M.DU,M.I8];have w1:i64.wrap (deep - 1)=deep - 1:=aS ak ak;have w2:i64.wrap (deep - 2)=deep - 2:=aS ak ak;have e2:=nC h p 2 ak ak;have e16:=nC h (p+1) 16 ak ak;rw[show((2:Nat):Int)=2 from rfl] at e2;rw[show((16:Nat):Int)=16 from rfl] at e16;rw[vG ak,aQ,e2,ah,e16,ah];simp only[w1,w2];have hdd:d+1 - 1=d:=rfl;have hd2:d+1 - 2=d - 1:=ak;have L0:=λq=>ai8 h (oO s.g d) ak (h0 (deep - 1) ak ak ak) 0 3 ak ak q
 have L1:=λq=>ai8 h (oO s.g (d - 1)) ak (hq1 (deep - 2) ak ak ak) 0 3 ak ak q
 have L2:=λq=>ai8 h (oO s.g d) ak (h0 (deep - 1) ak ak ak) 1 2 ak ak q
 have X0:=h0' (deep - 1) ak ak ak;have V0:=aHb h (show d+1<=5 by omega) (k:=j) (by rw[hdd];exact h0) (by rw[hd2];exact hq1) (deep:=deep) ak ak l3;have V1:=aHb h (show d<=5 by omega) (k:=j) hq1 hq2 (deep:=deep - 1) ak ak ak;rw[hdd,hd2] at V0;rcases Nat.lt_or_ge (s.g (p+1) % 16) 12 with hlt|hbig
 ·unfold Ld at hB3|-;have hc:s.g (p+1) % 16=0\/s.g (p+1) % 16=1\/s.g (p+1) % 16=2\/s.g (p+1) % 16=3\/s.g (p+1) % 16=4\/s.g (p+1) % 16=5\/s.g (p+1) % 16=6\/s.g (p+1) % 16=7\/s.g (p+1) % 16=8\/s.g (p+1) % 16=9\/s.g (p+1) % 16=10\/s.g (p+1) % 16=11:=ak;rcases hc with hc|hc|hc|hc|hc|hc|hc|hc|hc|hc|hc|hc<;>rw[hc] at hB3|-
  ·obtain⟨t,f,z,i⟩:=asT h (p+2);exact bd f ⟨t,rfl,z,i⟩
  ·obtain⟨t,f,z,i⟩:=V0 (p+2);exact bd f ⟨t,rfl,z,i⟩
  ·obtain⟨t,f,z,i⟩:=X0 (p+2);exact bd f (made 6 0 [] [] [t] (by rw[sizes,sizes,z]) hB3 ak ak bV bV (Fb i))
  ·obtain⟨x,a,e⟩:=Un h (p+2);obtain⟨ts,f,z,_,i⟩:=L0 (p+3);exact bd e (bd f (made 7 0 x [] ts (by rw[z]) hB3 ak ak a bV i))
  ·obtain⟨ts,f,z,_,i⟩:=L1 (p+3);exact bd (PK h _ _ rfl) (bd f (made 8 0 _ [] ts (by rw[z]) hB3 ak ak (Fa rfl _) bV i))
  ·obtain⟨t,f,z,i⟩:=V1 (p+2);exact bd f (made 9 _ [] [] [t] (by rw[sizes,sizes,z]) hB3 ak (by rw[aS ak ak];omega) bV bV (Fb i))
  ·obtain⟨t,f,z,i⟩:=V1 (p+2);exact bd f (made 10 _ [] [] [t] (by rw[sizes,sizes,z]) hB3 ak (by rw[aS ak ak];omega) bV bV (Fb i))
  ·obtain⟨t,f,z,i⟩:=X0 (p+3);exact bd (PL h _ _ rfl) (bd f (made 11 _ [] [] [t] (by rw[sizes,sizes,z]) hB3 ak (Ku rfl _) bV bV (Fb i)))
  ·obtain⟨t,f,z,i⟩:=X0 (p+3);exact bd (PL h _ _ rfl) (bd f (made 11 _ [] [] [t] (by rw[sizes,sizes,z]) hB3 ak (Ku rfl _) bV bV (Fb i)))
  ·obtain⟨x,a,e⟩:=Un h (p+2);obtain⟨ts,f,z,_,i⟩:=L2 (p+3);exact bd e (bd f (made 13 0 x [] ts (by rw[z]) hB3 ak ak a bV i))
  ·obtain⟨t1,f1,z1,i1⟩:=X0 (p+2);obtain⟨t2,f2,z2,i2⟩:=X0 (fM s.g d (p+2)).2;obtain⟨t3,f3,z3,i3⟩:=X0 (fM s.g d (fM s.g d (p+2)).2).2;exact bd f1 (bd f2 (bd f3 (made 14 0 [] [] [t1,t2,t3] (by simp only[sizes,z1,z2,z3,itS]) hB3 ak ak bV bV (by simp[i1,i2,i3]))))
  ·obtain⟨t1,f1,z1,i1⟩:=V1 (p+3);obtain⟨t2,f2,z2,i2⟩:=X0 (lvS s.g (fM s.g (d - 1)) (fM s.g (d - 2)) (p+3)).2;exact bd (PL h _ _ rfl) (bd f1 (bd f2 (made 15 _ [] [] [t1,t2] (by simp only[sizes,z1,z2,tq];omega) hB3 ak (Ku rfl _) bV bV (by simp[i1,i2]))))
 ·rw[apA hbig] at hB3|-;have nn:∀n:Int,n<12->(((s.g (p+1) % 16:Nat):Int)==n)=false:=λn hn=>mX.2 ak
  simp only[nn 0 ak,nn 1 ak,nn 2 ak,nn 3 ak,nn 4 ak,nn 5 ak,nn 6 ak,nn 7 ak,nn 8 ak,nn 9 ak,nn 10 ak,nn 11 ak,aQ];obtain⟨o,o1,o2,e⟩:=aBM h (p+2);obtain⟨t1,f1,z1,i1⟩:=X0 (p+3);obtain⟨t2,f2,z2,i2⟩:=X0 (fM s.g d (p+3)).2;exact bd e (bd f1 (bd f2 (made 12 o [] [] [t1,t2] (by simp only[sizes,z1,z2,itS]) hB3 ak ⟨o1,o2⟩ bV bV (by simp[i1,i2]))))
theorem asU:∀(d k:Nat),d<=5->2 * d+1<=k->EX s k d:=by
 intro d;induction d using Nat.strongRecOn with
 |_ d ih=>
  intro k hd hk;cases d with
  |zero=>
   obtain⟨k,rfl⟩:∃j,k=j+1:=⟨k - 1,ak⟩
   intro deep l1 l2 l3 p;rw[M.aci,au0];simp only[M.DU,M.I8];rw[zdt ak,aG];obtain⟨t,f,z,i⟩:=asT h p;simp only[f,ah];exact⟨t,rfl,z,i⟩
  |succ d=>
   obtain⟨j,rfl⟩:∃j,k=j+2:=⟨k - 2,ak⟩
   exact ayo h hd λi hi=>⟨ih d ak i ak ak,ih (d - 1) ak i ak ak,ih (d - 2) ak i ak ak⟩
theorem Wu{deep:Int}(l1: -8<=deep)(l2:deep<=5)(p:Nat):DTr (M.eP deep (cS s p).1 (cS s p).2.1 (cS s p).2.2) s (fM s.g deep.toNat p):=by obtain⟨t,f,z,i⟩:=asU h deep.toNat (2 * deep.toNat+1) ak (zaQ _) deep l1 l2 rfl p;exact⟨t,M.akh f,z,i⟩
theorem alu{deep:Int}(l1: -8<=deep)(l2:deep<=5)(least most:Nat)(hl:least<=most)(hm:most<=5)(p:Nat):DL (M.oP least most deep (cS s p).1 (cS s p).2.1 (cS s p).2.2) s (FM s.g (fM s.g deep.toNat) least (most - least+1) p):=by have hb:=WU (show deep.toNat<=5 by omega);obtain⟨ts,f,z,i⟩:=ai8 h (oO s.g deep.toNat) ak (asU h deep.toNat (2 * deep.toNat+1) ak (zaQ _) deep l1 l2 rfl) least most hl hm p;exact⟨ts,M.aki f,z,i⟩
end
def Vu(g:Nat->Nat)(d:Nat)(p:Nat):Nat×Nat:=
 bif Nat.beq (g (FM g (fM g d) (g (p+1) % 2) (4 - g (p+1) % 2) (p+2)).2 % 3) 0
 then up (tq (FM g (fM g d) (g (p+1) % 2) (4 - g (p+1) % 2)) (λq=>fM g (d - 1) (q+2)) (p+2))
 else((FM g (fM g d) (g (p+1) % 2) (4 - g (p+1) % 2) (p+2)).1+1,(FM g (fM g d) (g (p+1) % 2) (4 - g (p+1) % 2) (p+2)).2+1)
def Es(g:Nat->Nat)(d:Nat):DF:=λp=>match g p % 9 with
 |0=>Vu g d p
 |1=>Vu g d p
 |2=>(1,p+2)
 |3=>up (FM g (fM g d) 0 2 (p+2))
 |4=>up (FM g (fM g (d - 1)) 0 3 (p+2))
 |5=>bif Nat.beq (g (p+1) % 2) 0 then(1,p+3) else up (fM g d (p+2))
 |_=>up (fM g d (p+1))
def asV{g:Nat->Nat}{d p:Nat}(h:6<=g p % 9):Es g d p=up (fM g d (p+1)):=by unfold Es;split<;>first|omega|rfl
def BA(g:Nat->Nat)(e:DF):DF:=λp=>up (itS e (g p % 3) (p+1))
def WV(g:Nat->Nat)(d:Nat):DF:=λp=>bif Nat.beq (g p % 3) 0 then(1,p+1) else fM g d (p+1)
def abH(g:Nat->Nat)(d:Nat)(b:DF):DF:=λp=>bif Nat.beq (g p % 3) 0 then(match g (p+1) % 6 with
  |0=>up (tq (fM g 1) b (p+2))
  |1=>up (tq (fM g 1) (tq b b) (p+2))
  |2=>up (tq (fM g 1) b (p+2))
  |3=>up (tq b (fM g 1) (p+2))
  |4=>up (tq (WV g 2) (tq (WV g 1) (tq (WV g 1) b)) (p+2))
  |_=>bif Nat.beq (g (p+2) % 2) 0 then b (p+3) else up (b (p+5)))
 else Es g (min d 2) (p+1)
def yR(g:Nat->Nat):Nat->DF
 |0=>Es g 0
 |d+1=>abH g (d+1) (BA g (yR g d))
def alv(g:Nat->Nat):DF:=λp=>match g (p+1) % 8 with
 |0=>up (BA g (yR g (1+g p % 2)) (p+3))
 |1=>up (fM g (1+g p % 2) (p+2))
 |2=>up (BA g (yR g (1+g p % 2)) (p+2))
 |3=>up (tq (fM g 1) (fM g 1) (p+2))
 |4=>up (tq (fM g 1) (tq (fM g 1) (BA g (yR g (1+g p % 2)))) (p+2))
 |5=>up (tq (itS (λq=>(1,q+1)) (g (p+2) % 3)) (λq=>BA g (yR g (1+g p % 2)) (q+1)) (p+3))
 |6=>(1,p+3)
 |_=>up (tq (fM g (1+g p % 2)) (BA g (yR g (1+g p % 2))) (p+2))
def XY(g:Nat->Nat):DF:=λp=>up (itS (alv g) (g p % 4) (p+1))
def Zc(g:Nat->Nat):DF:=λp=>fM g (1+g p % 4) (p+1)
section
variable {g:Nat->Nat}
def XZ{d b b1:Nat}(h:Bd b (fM g d))(h1:Bd b1 (fM g (d - 1)))(hb:b1<=b):Bd (3 * b+b1+5) (Es g d):=λp=>by
 have l3:=YM (g:=g) h 0 2 ak (p+2);have l4:=YM (g:=g) h1 0 3 ak (p+2);have e2:=h (p+2);have e1:=h (p+1);have hpr:1<=(Vu g d p).1/\p+(Vu g d p).1<=(Vu g d p).2/\(Vu g d p).2<=p+(3 * b+b1+5):=by unfold Vu up tq;have hm:=Nat.mod_lt (g (p+1)) (show 0<2 by omega);have l:=YM (g:=g) h (g (p+1) % 2) (4 - g (p+1) % 2) ak (p+2);rw[show g (p+1) % 2+(4 - g (p+1) % 2) - 1=3 by omega] at l;have e:=h1 ((FM g (fM g d) (g (p+1) % 2) (4 - g (p+1) % 2) (p+2)).2+2);cases Nat.beq (g (FM g (fM g d) (g (p+1) % 2) (4 - g (p+1) % 2) (p+2)).2 % 3) 0<;>simp only[aG,aQ]<;>omega
 unfold Es up;split
 ·exact hpr
 ·exact hpr
 ·simp only;omega
 ·simp only;omega
 ·simp only;omega
 ·cases Nat.beq (g (p+1) % 2) 0<;>simp only[aG,aQ]<;>omega
 ·simp only;omega
def apC{b:Nat}{e:DF}(h:Bd b e):Bd (2 * b+1) (BA g e):=λp=>by have hm:=Nat.mod_lt (g p) (show 0<3 by omega);have i:=abp h (g p % 3) (p+1);have h2:(g p % 3) * b<=2 * b:=Nat.mul_le_mul_right b ak;unfold BA up;simp only;omega
def Vw{b1 b2:Nat}{e1 e2:DF}(h1:Bd b1 e1)(h2:Bd b2 e2):Bd (b1+b2) (tq e1 e2):=λp=>by have a:=h1 p;have c:=h2 (e1 p).2;unfold tq;simp only;omega
def au1{b d:Nat}(h:Bd b (fM g d))(hb:1<=b):Bd (b+1) (WV g d):=λp=>by have a:=h (p+1);unfold WV;cases Nat.beq (g p % 3) 0<;>simp only[aG,aQ]<;>omega
def aBQ{x y z d:Nat}{b:DF}(hB:Bd x b)(hS:Bd y (Es g (min d 2)))(h1:y+1<=z)(h2:2 * x+15<=z)(h3:x+74<=z):Bd z (abH g d b):=λp=>by
 have E1:=oO g 1;have E2:=oO g 2;have c1:bE 1=13:=rfl;have c2:bE 2=43:=rfl;rw[c1] at E1;rw[c2] at E2;have s1:=hS (p+1);have a0:=Vw E1 hB (p+2);have a1:=Vw E1 (Vw hB hB) (p+2);have a3:=Vw hB E1 (p+2);have a4:=Vw (au1 E2 ak) (Vw (au1 E1 ak) (Vw (au1 E1 ak) hB)) (p+2);have a5:=hB (p+3);have a6:=hB (p+5);unfold abH up;cases Nat.beq (g p % 3) 0 with
 |false=>simp only[aQ];omega
 |true=>
  simp only[aG];split
  ·simp only;omega
  ·simp only;omega
  ·simp only;omega
  ·simp only;omega
  ·simp only;omega
  ·cases Nat.beq (g (p+2) % 2) 0<;>simp only[aG,aQ]<;>omega
def au2:Bd 17 (Es g 0):=XZ (oO g 0) (oO g 0) (zaQ _)
def au3:Bd 47 (Es g 1):=XZ (oO g 1) (oO g 0) (by decide)
def au4:Bd 147 (Es g 2):=XZ (oO g 2) (oO g 1) (by decide)
def awJ:Bd 17 (yR g 0):=au2
def aGb:Bd 35 (BA g (yR g 0)):=apC awJ
def awK:Bd 109 (yR g 1):=aBQ aGb au3 ak ak ak
def awL:Bd 219 (BA g (yR g 1)):=apC awK
def apD:Bd 453 (yR g 2):=aBQ awL au4 ak ak ak
def aGc:Bd 907 (BA g (yR g 2)):=apC apD
def aGd(k:Nat):Bd 907 (BA g (yR g (1+k % 2))):=by
 have:=Nat.mod_lt k (show 0<2 by omega);have h:k % 2=0\/k % 2=1:=ak;rcases h with h|h<;>rw[h]
 ·exact awL.mono ak
 ·exact aGc
def aGe(k:Nat):Bd 43 (fM g (1+k % 2)):=by
 have:=Nat.mod_lt k (show 0<2 by omega);have h:k % 2=0\/k % 2=1:=ak;rcases h with h|h<;>rw[h]
 ·exact(oO g 1).mono (by decide)
 ·exact oO g 2
def awM:Bd 952 (alv g):=λp=>by
 have E1:=oO g 1;have c1:bE 1=13:=rfl;rw[c1] at E1;have B:=aGd (g:=g) (g p);have E:=aGe (g:=g) (g p);have a0:=B (p+3);have a1:=E (p+2);have a2:=B (p+2);have a3:=Vw E1 E1 (p+2);have a4:=Vw E1 (Vw E1 B) (p+2);have a7:=Vw E B (p+2);have hm:=Nat.mod_lt (g (p+2)) (show 0<3 by omega);have i5:=abp (b:=1) (e:=λq=>(1,q+1)) (λq=>⟨zaQ _,zaQ _,zaQ _⟩) (g (p+2) % 3) (p+3);have a5:=B ((itS (λq=>(1,q+1)) (g (p+2) % 3) (p+3)).2+1);unfold alv up;split
 ·simp only;omega
 ·simp only;omega
 ·simp only;omega
 ·simp only;omega
 ·simp only;omega
 ·simp only[tq];omega
 ·simp only;omega
 ·simp only;omega
def awN:Bd 2857 (XY g):=λp=>by have hm:=Nat.mod_lt (g p) (show 0<4 by omega);have i:=abp (awM (g:=g)) (g p % 4) (p+1);have h2:(g p % 4) * 952<=3 * 952:=Nat.mul_le_mul_right _ ak;unfold XY up;simp only;omega
def aGf:Bd 404 (Zc g):=λp=>by
 have hm:=Nat.mod_lt (g p) (show 0<4 by omega);have h:g p % 4=0\/g p % 4=1\/g p % 4=2\/g p % 4=3:=ak;unfold Zc;have E:Bd 403 (fM g (1+g p % 4)):=by
  rcases h with h|h|h|h<;>rw[h]
  ·exact(oO g 1).mono (by decide)
  ·exact(oO g 2).mono (by decide)
  ·exact(oO g 3).mono (by decide)
  ·exact oO g 4
 have:=E (p+1);omega
end
def aGg{a b:Nat}(h:a=b):Nat.beq a b=true:=by rw[h];exact Nat.beq_refl b
def anY{ts:List Tn}{t:Tn}(h:∀u,u∈ts->NS u)(ht:NS t):∀u,u∈ts++[t]->NS u:=by
 intro u hu;rcases List.mem_append.1 hu with hu|hu
 ·exact h u hu
 ·rw[List.mem_singleton.1 hu];exact ht
def aeL(ts:List Tn)(t:Tn):sizes (ts++[t])=sizes ts+t.size:=by rw[nH];simp[sizes]
def af6(a b:Nat):(a==b)=Nat.beq a b:=by
 by_cases e:a=b
 ·rw[aGg e];exact beq_iff_eq.2 e
 ·rw[yG e];exact mX.2 e
section
variable {s:Cu} (h:Zp s)
include h
theorem aBR{deep:Int}(l1: -6<=deep)(l2:deep<=2)(p:Nat):
  DTr ((M.aX 2 (cS s (p+1)).1 (cS s (p+1)).2.1 (cS s (p+1)).2.2).bind λJF=>
   ((M.oP JF.fst 3 deep JF.snd.fst JF.snd.snd.fst JF.snd.snd.snd).bind λafi=>
   ((M.jh 3 afi.snd.fst afi.snd.snd.fst afi.snd.snd.snd).bind λaec=>
    (bif aec.fst then
    ((M.iI ([[D.str [62]],[D.str [62,62]],[D.str [124]]]) aec.snd.fst aec.snd.snd.fst aec.snd.snd.snd).bind λaia=>
     ((M.eP (i64.wrap (deep - 1)) aia.snd.fst aia.snd.snd.fst aia.snd.snd.snd).bind λakj=>
     (bif((afi.fst.length+[[D.sl true 5 akj.fst]].length) * 24).ble 140737488355328 then
      (bif(afi.fst.length+[[D.sl true 5 akj.fst]].length).ble 140737488355328 then
      ((M.bT 21 JF.fst [] aia.fst [] (aB (afi.fst++[[D.sl true 5 akj.fst]]))).bind λaoM=>(bif[[D.sl true 5 aoM]].all dw then(some ((aoM,akj.snd.fst,akj.snd.snd.fst,akj.snd.snd.snd))) else none)) else none) else none))) else
    ((M.bT 21 JF.fst [] [] [] (aB afi.fst)).bind λazB=>(bif[[D.sl true 5 azB]].all dw then(some ((azB,aec.snd.fst,aec.snd.snd.fst,aec.snd.snd.snd))) else none)))))) s (Vu s.g deep.toNat p):=by
 have hd:deep.toNat<=2:=ak;have hB:=(XZ (oO s.g deep.toNat) (oO s.g (deep.toNat - 1)) (apB deep.toNat).1)
 have b1:=WU (show deep.toNat<=5 by omega);have b2:=WU (show deep.toNat - 1<=5 by omega);have hm:=Nat.mod_lt (s.g (p+1)) (show 0<2 by omega);have e2:=nC h (p+1) 2 ak ak;obtain⟨ts,f,z,hl,i⟩:=alu h (show -8<=deep by omega) (show deep<=5 by omega) (s.g (p+1) % 2) 3 ak ak (p+2);have hw:3 - s.g (p+1) % 2+1=4 - s.g (p+1) % 2:=ak;rw[hw] at f z;have zb:=YM (g:=s.g) (oO s.g deep.toNat) (s.g (p+1) % 2) (4 - s.g (p+1) % 2) ak (p+2);rw[show s.g (p+1) % 2+(4 - s.g (p+1) % 2) - 1=3 by omega] at zb;refine bd e2 (bd f (bd (RF h _ 3 ak ak) ?_));unfold Vu;rw[af6];cases hq:Nat.beq (s.g (FM s.g (fM s.g deep.toNat) (s.g (p+1) % 2) (4 - s.g (p+1) % 2) (p+2)).2 % 3) 0 with
 |true=>simp only[aG];have hdd:(deep - 1).toNat=deep.toNat - 1:=ak;obtain⟨t,f2,z2,i2⟩:=Wu h (deep:=deep - 1) ak ak ((FM s.g (fM s.g deep.toNat) (s.g (p+1) % 2) (4 - s.g (p+1) % 2) (p+2)).2+2);rw[hdd] at f2 z2;have zb2:=oO s.g (deep.toNat - 1) ((FM s.g (fM s.g deep.toNat) (s.g (p+1) % 2) (4 - s.g (p+1) % 2) (p+2)).2+2);rw[aS (n:=deep - 1) ak ak];refine bd (PK h _ _ rfl) (bd f2 ?_);simp only[zaR,GK];rw[bC ak,aG,bC ak,aG];have:=made (s:=s) (q:=(fM s.g (deep.toNat - 1) ((FM s.g (fM s.g deep.toNat) (s.g (p+1) % 2) (4 - s.g (p+1) % 2) (p+2)).2+2)).2) 21 ((s.g (p+1) % 2:Nat):Int) [] (pkS [[D.str [62]],[D.str [62,62]],[D.str [124]]] (s.g ((FM s.g (fM s.g deep.toNat) (s.g (p+1) % 2) (4 - s.g (p+1) % 2) (p+2)).2+1))) (ts++[t]) rfl (by rw[aeL];omega) ak ak bV (Fa rfl _) (anY i i2);rw[Ux] at this;obtain⟨t',q1,q2,q3⟩:=this;refine⟨t',q1, ?_,q3⟩;rw[q2,aeL,z,z2];rfl
 |false=>simp only[aQ];exact made 21 _ [] [] ts (by rw[z]) ak ak ak bV bV i
theorem anZ{deep:Int}(l1:0<=deep)(l2:deep<=2)(p:Nat):DTr (M.wO deep (cS s p).1 (cS s p).2.1 (cS s p).2.2) s (Es s.g deep.toNat p):=by
 have b1:=WU (show deep.toNat<=5 by omega);have b2:=WU (show deep.toNat - 1<=5 by omega);have hB:=XZ (oO s.g deep.toNat) (oO s.g (deep.toNat - 1)) (apB deep.toNat).1 p;have hB3:(Es s.g deep.toNat p).1<=900000:=ak;have hm:=Nat.mod_lt (s.g p) (show 0<9 by omega);have hdd:(deep - 1).toNat=deep.toNat - 1:=ak;simp only[M.wO,M.Lp,M.JE];have w1:i64.wrap (deep - 1)=deep - 1:=aS ak ak;have hpr:=aBR h (show -6<=deep by omega) l2 p;rw[w1] at hpr|-;refine bd (nC h p 9 ak ak) ?_;rcases Nat.lt_or_ge (s.g p % 9) 6 with hlt|hbig
 ·unfold Es at hB3|-;have hc:s.g p % 9=0\/s.g p % 9=1\/s.g p % 9=2\/s.g p % 9=3\/s.g p % 9=4\/s.g p % 9=5:=ak;rcases hc with hc|hc|hc|hc|hc|hc<;>rw[hc] at hB3|-
  ·exact hpr
  ·exact hpr
  ·exact bd (PL h _ _ rfl) (abq _ [] (Ku rfl _) bV)
  ·obtain⟨ts,f,z,hl,i⟩:=alu h (show -8<=deep by omega) (show deep<=5 by omega) 0 1 ak ak (p+2);exact bd (PL h _ _ rfl) (bd f (made _ 0 [] [] ts (by rw[z]) hB3 (Ku rfl _) ak bV bV i))
  ·obtain⟨x,a,e⟩:=Un h (p+1);obtain⟨ts,f,z,hl,i⟩:=alu h (deep:=deep - 1) ak ak 0 2 ak ak (p+2);rw[hdd] at f z;exact bd e (bd f (made 27 0 x [] ts (by rw[z]) hB3 ak ak a bV i))
  ·refine bd (RF h (p+1) 2 ak ak) ?_;rw[af6];have aSn:(bif Nat.beq (s.g (p+1) % 2) 0 then(1,p+3) else up (fM s.g deep.toNat (p+2)):Nat×Nat).1<=900000:=hB3;show DTr _ s (bif Nat.beq (s.g (p+1) % 2) 0 then(1,p+3) else up (fM s.g deep.toNat (p+2)));cases hq:Nat.beq (s.g (p+1) % 2) 0 with
   |true=>exact bd (PK h _ _ rfl) (abq 34 _ ak (Fa rfl _))
   |false=>rw[hq] at aSn;obtain⟨t,f,z,i⟩:=Wu h (show -8<=deep by omega) (show deep<=5 by omega) (p+2);exact bd f (made 20 0 [] [] [t] (by rw[sizes,sizes,z]) aSn ak ak bV bV (Fb i))
 ·rw[asV hbig] at hB3|-;have nn:∀n:Int,n<6->(((s.g p % 9:Nat):Int)==n)=false:=λn hn=>mX.2 ak
  simp only[nn 0 ak,nn 1 ak,nn 2 ak,nn 3 ak,nn 4 ak,nn 5 ak,aQ];obtain⟨t,f,z,i⟩:=Wu h (show -8<=deep by omega) (show deep<=5 by omega) (p+1);exact bd f (made 20 0 [] [] [t] (by rw[sizes,sizes,z]) hB3 ak ak bV bV (Fb i))
theorem asW{deep:Int}(l1:0<=deep)(l2:deep<=2)(p:Nat):DTr (M.wP deep (cS s p).1 (cS s p).2.1 (cS s p).2.2) s (WV s.g deep.toNat p):=by
 simp only[M.wP,M.Ot];refine bd (RF h p 3 ak ak) ?_;rw[af6];unfold WV;cases hq:Nat.beq (s.g p % 3) 0 with
 |true=>exact abq 16 [] ak bV
 |false=>obtain⟨t,f,z,i⟩:=Wu h (show -8<=deep by omega) (show deep<=5 by omega) (p+1);exact bd f ⟨t,rfl,z,i⟩
def STr(s:Cu)(k d:Nat):Prop:=∀deep:Int,0<=deep->deep.toNat=d->∀p,DTr (M.wZ k deep (cS s p).1 (cS s p).2.1 (cS s p).2.2) s (yR s.g d p)
end
section
variable {s:Cu} (h:Zp s)
include h
theorem asX{k:Nat}{deep:Int}{e:DF}{b:Nat}(hb:Bd b e)(hb2:b<=2000)(he:∀p,DTr (M.wZ k deep (cS s p).1 (cS s p).2.1 (cS s p).2.2) s (e p))(p:Nat):
  DTr (M.EL (k+1) deep (cS s p).1 (cS s p).2.1 (cS s p).2.2) s (BA s.g e p):=by
 rw[M.akm];simp only[M.EK];have hmod:=Nat.mod_lt (s.g p) (show 0<3 by omega);have hi:=abp hb (s.g p % 3) (p+1);have h2:(s.g p % 3) * b<=2 * b:=Nat.mul_le_mul_right b ak;refine bd (nC h p 3 ak ak) ?_;obtain⟨us,k1,k2,k3,k4⟩:=Vt (s:=s) (e:=e) (b:=M.Oq (M.wZ k) deep) (λp x=>rfl) (λn p ts hn ht=>by obtain⟨t,f1,z1,i1⟩:=he p;refine⟨t, ?_,z1,i1⟩;simp only[yH,M.Oq,M.H6,f1,ah,zaR,GK];rw[zdt ak,aG,bC ak,aG,bC ak,aG,aS ak ak,Ux];simp) (s.g p % 3) (p+1) [] (by simp;omega);have k1':M.Lr (M.wZ k) deep (((s.g p % 3:Nat):Int),(cS s (p+1)).1,(cS s (p+1)).2.1,(cS s (p+1)).2.2,[])=_:=k1;exact bd k1' (made 33 0 [] [] us (by rw[k2]) ak ak ak bV bV k4)
omit h in
theorem apE{d:Nat}(hd:d<=2):∃b,b<=500/\Bd b (yR s.g d):=by
 have:d=0\/d=1\/d=2:=ak;rcases this with rfl|rfl|rfl
 ·exact⟨17,ak,awJ⟩
 ·exact⟨109,ak,awK⟩
 ·exact⟨453,ak,apD⟩
theorem ayp{d j:Nat}(hd:d+1<=2)(H:STr s j d):STr s (j+2) (d+1):=by
 intro deep l1 l3 p;obtain⟨b,hb1,hb2⟩:=apE (s:=s) (show d<=2 by omega);have w1:i64.wrap (deep - 1)=deep - 1:=aS ak ak;have B:=λq=>asX h hb2 ak (H (deep - 1) ak ak) q
 have BB:=apC (g:=s.g) hb2;obtain⟨b',hb1',hb2'⟩:=apE (s:=s) hd;have hB:=hb2' p;have hB3:(yR s.g (d+1) p).1<=900000:=ak;have hm:=Nat.mod_lt (s.g (p+1)) (show 0<6 by omega);have X1:=λq=>Wu h (deep:=1) ak ak q
 have e1:(1:Int).toNat=1:=rfl;have e2:(2:Int).toNat=2:=rfl;rw[e1] at X1;have M1:=λq=>asW h (deep:=1) ak ak q
 have M2:=λq=>asW h (deep:=2) ak ak q
 rw[e1] at M1;rw[e2] at M2;rw[M.acj];simp only[M.DV,w1];rw[vG ak,aQ,vG ak,aQ];rw[yR] at hB3|-;unfold abH at hB3|-;refine bd (RF h p 3 ak ak) ?_;rw[af6];cases hq:Nat.beq (s.g p % 3) 0 with
 |false=>obtain⟨t,f,z,i⟩:=anZ h l1 (show deep<=2 by omega) (p+1);rw[show min (d+1) 2=deep.toNat by omega];exact bd f ⟨t,rfl,z,i⟩
 |true=>
  rw[hq] at hB3;simp only[aG] at hB3;simp only[zaP,aQ,aG];refine bd (nC h (p+1) 6 ak ak) ?_;have hc:s.g (p+1) % 6=0\/s.g (p+1) % 6=1\/s.g (p+1) % 6=2\/s.g (p+1) % 6=3\/s.g (p+1) % 6=4\/s.g (p+1) % 6=5:=ak;have nn:∀c:Int,((s.g (p+1) % 6:Nat):Int)≠c->(((s.g (p+1) % 6:Nat):Int)==c)=false:=λc hn=>mX.2 hn
  have yy:∀c:Int,((s.g (p+1) % 6:Nat):Int)=c->(((s.g (p+1) % 6:Nat):Int)==c)=true:=λc hn=>beq_iff_eq.2 hn
  rcases hc with hc|hc|hc|hc|hc|hc
  ·simp only[yy 0 ak,aQ,aG];rw[hc] at hB3|-;replace hB3:(up (tq (fM s.g 1) (BA s.g (yR s.g d)) (p+2))).1<=900000:=hB3;show DTr _ s (up (tq (fM s.g 1) (BA s.g (yR s.g d)) (p+2)));simp only[up,tq] at hB3|-;obtain⟨t1,f1,z1,i1⟩:=X1 (p+2);obtain⟨t2,f2,z2,i2⟩:=B (fM s.g 1 (p+2)).2;exact bd f1 (bd f2 (made 28 0 [] [] [t1,t2] (by simp only[sizes,z1,z2];omega) hB3 ak ak bV bV (by simp[i1,i2])))
  ·simp only[nn 0 ak,yy 1 ak,aQ,aG];rw[hc] at hB3|-;replace hB3:(up (tq (fM s.g 1) (tq (BA s.g (yR s.g d)) (BA s.g (yR s.g d))) (p+2))).1<=900000:=hB3;show DTr _ s (up (tq (fM s.g 1) (tq (BA s.g (yR s.g d)) (BA s.g (yR s.g d))) (p+2)));simp only[up,tq] at hB3|-;obtain⟨t1,f1,z1,i1⟩:=X1 (p+2);obtain⟨t2,f2,z2,i2⟩:=B (fM s.g 1 (p+2)).2;obtain⟨t3,f3,z3,i3⟩:=B (BA s.g (yR s.g d) (fM s.g 1 (p+2)).2).2;exact bd f1 (bd f2 (bd f3 (made 28 0 [] [] [t1,t2,t3] (by simp only[sizes,z1,z2,z3];omega) hB3 ak ak bV bV (by simp[i1,i2,i3]))))
  ·simp only[nn 0 ak,nn 1 ak,yy 2 ak,aQ,aG];rw[hc] at hB3|-;replace hB3:(up (tq (fM s.g 1) (BA s.g (yR s.g d)) (p+2))).1<=900000:=hB3;show DTr _ s (up (tq (fM s.g 1) (BA s.g (yR s.g d)) (p+2)));simp only[up,tq] at hB3|-;obtain⟨t1,f1,z1,i1⟩:=X1 (p+2);obtain⟨t2,f2,z2,i2⟩:=B (fM s.g 1 (p+2)).2;exact bd f1 (bd f2 (made 29 0 [] [] [t1,t2] (by simp only[sizes,z1,z2];omega) hB3 ak ak bV bV (by simp[i1,i2])))
  ·simp only[nn 0 ak,nn 1 ak,nn 2 ak,yy 3 ak,aQ,aG];rw[hc] at hB3|-;replace hB3:(up (tq (BA s.g (yR s.g d)) (fM s.g 1) (p+2))).1<=900000:=hB3;show DTr _ s (up (tq (BA s.g (yR s.g d)) (fM s.g 1) (p+2)));simp only[up,tq] at hB3|-;obtain⟨t1,f1,z1,i1⟩:=B (p+2);obtain⟨t2,f2,z2,i2⟩:=X1 (BA s.g (yR s.g d) (p+2)).2;exact bd f1 (bd f2 (made 30 0 [] [] [t1,t2] (by simp only[sizes,z1,z2];omega) hB3 ak ak bV bV (by simp[i1,i2])))
  ·simp only[nn 0 ak,nn 1 ak,nn 2 ak,nn 3 ak,yy 4 ak,aQ,aG];rw[hc] at hB3|-;replace hB3:(up (tq (WV s.g 2) (tq (WV s.g 1) (tq (WV s.g 1) (BA s.g (yR s.g d)))) (p+2))).1<=900000:=hB3;show DTr _ s (up (tq (WV s.g 2) (tq (WV s.g 1) (tq (WV s.g 1) (BA s.g (yR s.g d)))) (p+2)));simp only[up,tq] at hB3|-;obtain⟨t1,f1,z1,i1⟩:=M2 (p+2);obtain⟨t2,f2,z2,i2⟩:=M1 (WV s.g 2 (p+2)).2;obtain⟨t3,f3,z3,i3⟩:=M1 (WV s.g 1 (WV s.g 2 (p+2)).2).2;obtain⟨t4,f4,z4,i4⟩:=B (WV s.g 1 (WV s.g 1 (WV s.g 2 (p+2)).2).2).2;exact bd f1 (bd f2 (bd f3 (bd f4 (made 31 0 [] [] [t1,t2,t3,t4] (by simp only[sizes,z1,z2,z3,z4];omega) hB3 ak ak bV bV (by simp[i1,i2,i3,i4])))))
  ·simp only[nn 0 ak,nn 1 ak,nn 2 ak,nn 3 ak,nn 4 ak,aQ,aG];rw[hc] at hB3|-;replace hB3:(bif Nat.beq (s.g (p+2) % 2) 0 then BA s.g (yR s.g d) (p+3) else up (BA s.g (yR s.g d) (p+5))).1<=900000:=hB3;show DTr _ s (bif Nat.beq (s.g (p+2) % 2) 0 then BA s.g (yR s.g d) (p+3) else up (BA s.g (yR s.g d) (p+5)));refine bd (RF h (p+2) 2 ak ak) ?_;rw[af6];cases hr:Nat.beq (s.g (p+2) % 2) 0 with
   |true=>obtain⟨t,f,z,i⟩:=B (p+3);exact bd f ⟨t,rfl,z,i⟩
   |false=>rw[hr] at hB3;obtain⟨x,a,e⟩:=Un h (p+3);obtain⟨y,c,e'⟩:=Un h (p+4);obtain⟨t,f,z,i⟩:=B (p+5);exact bd e (bd e' (bd f (made 32 0 x y [t] (by rw[sizes,sizes,z]) hB3 ak ak a c (Fb i))))
theorem alx:∀(d k:Nat),d<=2->2 * d+1<=k->STr s k d
 |0,k,_,hk=>by
  obtain⟨k,rfl⟩:∃j,k=j+1:=⟨k - 1,ak⟩
  intro deep l1 l3 p;rw[M.acj];simp only[M.DV];rw[zdt ak,aG,vG ak,aQ];obtain⟨t,f,z,i⟩:=anZ h l1 (show deep<=2 by omega) p;rw[l3] at f z;exact bd f ⟨t,rfl,z,i⟩
 |d+1,k,hd,hk=>by
  obtain⟨j,rfl⟩:∃j,k=j+2:=⟨k - 2,ak⟩
  exact ayp h hd (alx d j ak ak)
theorem awO{deep:Int}(l1:0<=deep)(l2:deep<=2)(p:Nat):DTr (M.su deep (cS s p).1 (cS s p).2.1 (cS s p).2.2) s (yR s.g deep.toNat p):=by obtain⟨t,f,z,i⟩:=alx h deep.toNat (2 * deep.toNat+1) ak (zaQ _) deep l1 rfl p;exact⟨t,M.akn f,z,i⟩
theorem aKt{deep:Int}(l1:0<=deep)(l2:deep<=2)(p:Nat):DTr (M.lW deep (cS s p).1 (cS s p).2.1 (cS s p).2.2) s (BA s.g (yR s.g deep.toNat) p):=by obtain⟨b,hb1,hb2⟩:=apE (s:=s) (show deep.toNat<=2 by omega);obtain⟨t,f,z,i⟩:=asX h hb2 ak (alx h deep.toNat (2 * deep.toNat+1) ak (zaQ _) deep l1 rfl) p;exact⟨t,M.aic f,z,i⟩
theorem aGh(p:Nat):DTr (M.Fq (cS s p).1 (cS s p).2.1 (cS s p).2.2) s (alv s.g p):=by
 have hB:=awM (g:=s.g) p;have hB3:(alv s.g p).1<=900000:=ak;have hm:=Nat.mod_lt (s.g (p+1)) (show 0<8 by omega);have hm2:=Nat.mod_lt (s.g p) (show 0<2 by omega);simp only[yH,M.Fq,M.QT];refine bd (nC h p 2 ak ak) (bd (nC h (p+1) 8 ak ak) ?_);have w1:i64.wrap (1+((s.g p % 2:Nat):Int))=((1+s.g p % 2:Nat):Int):=by rw[aS ak ak];omega
 simp only[w1];have t1:((1+s.g p % 2:Nat):Int).toNat=1+s.g p % 2:=Zt _;have B:=λq=>aKt h (deep:=((1+s.g p % 2:Nat):Int)) ak ak q
 have E:=λq=>Wu h (deep:=((1+s.g p % 2:Nat):Int)) ak ak q
 have E1:=λq=>Wu h (deep:=1) ak ak q
 rw[t1] at B E;rw[show(1:Int).toNat=1 from rfl] at E1;unfold alv at hB3|-;have hc:s.g (p+1) % 8=0\/s.g (p+1) % 8=1\/s.g (p+1) % 8=2\/s.g (p+1) % 8=3\/s.g (p+1) % 8=4\/s.g (p+1) % 8=5\/s.g (p+1) % 8=6\/s.g (p+1) % 8=7:=ak;have nn:∀c:Int,((s.g (p+1) % 8:Nat):Int)≠c->(((s.g (p+1) % 8:Nat):Int)==c)=false:=λc hn=>mX.2 hn
 have yy:∀c:Int,((s.g (p+1) % 8:Nat):Int)=c->(((s.g (p+1) % 8:Nat):Int)==c)=true:=λc hn=>beq_iff_eq.2 hn
 rcases hc with hc|hc|hc|hc|hc|hc|hc|hc
 ·simp only[yy 0 ak,aQ,aG];rw[hc] at hB3|-;replace hB3:(up (BA s.g (yR s.g (1+s.g p % 2)) (p+3))).1<=900000:=hB3;show DTr _ s (up (BA s.g (yR s.g (1+s.g p % 2)) (p+3)));have hm3:=Nat.mod_lt (s.g (p+2)) (show 0<2 by omega);obtain⟨t,f,z,i⟩:=B (p+3);exact bd (nC h (p+2) 2 ak ak) (bd f (made _ 0 [] [] [t] (by rw[sizes,sizes,z]) hB3 (by rw[aS ak ak];omega) ak bV bV (Fb i)))
 ·simp only[nn 0 ak,yy 1 ak,aQ,aG];rw[hc] at hB3|-;replace hB3:(up (fM s.g (1+s.g p % 2) (p+2))).1<=900000:=hB3;show DTr _ s (up (fM s.g (1+s.g p % 2) (p+2)));obtain⟨t,f,z,i⟩:=E (p+2);exact bd f (made 42 1 [] [] [t] (by rw[sizes,sizes,z]) hB3 ak ak bV bV (Fb i))
 ·simp only[nn 0 ak,nn 1 ak,yy 2 ak,aQ,aG];rw[hc] at hB3|-;replace hB3:(up (BA s.g (yR s.g (1+s.g p % 2)) (p+2))).1<=900000:=hB3;show DTr _ s (up (BA s.g (yR s.g (1+s.g p % 2)) (p+2)));obtain⟨t,f,z,i⟩:=B (p+2);exact bd f (made 42 2 [] [] [t] (by rw[sizes,sizes,z]) hB3 ak ak bV bV (Fb i))
 ·simp only[nn 0 ak,nn 1 ak,nn 2 ak,yy 3 ak,aQ,aG];rw[hc] at hB3|-;replace hB3:(up (tq (fM s.g 1) (fM s.g 1) (p+2))).1<=900000:=hB3;show DTr _ s (up (tq (fM s.g 1) (fM s.g 1) (p+2)));simp only[up,tq] at hB3|-;obtain⟨t1,f1,z1,i1⟩:=E1 (p+2);obtain⟨t2,f2,z2,i2⟩:=E1 (fM s.g 1 (p+2)).2;exact bd f1 (bd f2 (made 43 1 [] [] [t1,t2] (by simp only[sizes,z1,z2];omega) hB3 ak ak bV bV (by simp[i1,i2])))
 ·simp only[nn 0 ak,nn 1 ak,nn 2 ak,nn 3 ak,yy 4 ak,aQ,aG];rw[hc] at hB3|-;replace hB3:(up (tq (fM s.g 1) (tq (fM s.g 1) (BA s.g (yR s.g (1+s.g p % 2)))) (p+2))).1<=900000:=hB3;show DTr _ s (up (tq (fM s.g 1) (tq (fM s.g 1) (BA s.g (yR s.g (1+s.g p % 2)))) (p+2)));simp only[up,tq] at hB3|-;obtain⟨t1,f1,z1,i1⟩:=E1 (p+2);obtain⟨t2,f2,z2,i2⟩:=E1 (fM s.g 1 (p+2)).2;obtain⟨t3,f3,z3,i3⟩:=B (fM s.g 1 (fM s.g 1 (p+2)).2).2;exact bd f1 (bd f2 (bd f3 (made 43 3 [] [] [t1,t2,t3] (by simp only[sizes,z1,z2,z3];omega) hB3 ak ak bV bV (by simp[i1,i2,i3]))))
 ·simp only[nn 0 ak,nn 1 ak,nn 2 ak,nn 3 ak,nn 4 ak,yy 5 ak,aQ,aG];rw[hc] at hB3|-;replace hB3:(up (tq (itS (λq=>(1,q+1)) (s.g (p+2) % 3)) (λq=>BA s.g (yR s.g (1+s.g p % 2)) (q+1)) (p+3))).1<=900000:=hB3;show DTr _ s (up (tq (itS (λq=>(1,q+1)) (s.g (p+2) % 3)) (λq=>BA s.g (yR s.g (1+s.g p % 2)) (q+1)) (p+3)));simp only[up,tq] at hB3|-;have hm3:=Nat.mod_lt (s.g (p+2)) (show 0<3 by omega);obtain⟨us,k1,k2,k3,k4⟩:=Vt (s:=s) (e:=λq=>(1,q+1)) (b:=M.Ou ((1+s.g p % 2:Nat):Int)) (λp x=>rfl) (λn p ts hn ht=>by obtain⟨x,a,e⟩:=Un h p;refine⟨.mk 1 0 x [] [], ?_,rfl,ai7 ak ak a bV (by simp)⟩;simp only[yH,M.Ou,M.H7,e,ah,zaR,GK];rw[zdt ak,aG,bC ak,aG,bC ak,aG,aS ak ak,Ux];have:((n+1:Nat):Int) - 1=n:=ak;rw[this];rfl) (s.g (p+2) % 3) (p+3) [] (by simp;omega);have k1':M.Ls ((1+s.g p % 2:Nat):Int) (((s.g (p+2) % 3:Nat):Int),(cS s (p+3)).1,(cS s (p+3)).2.1,(cS s (p+3)).2.2,[])=_:=k1;obtain⟨t,f,z,i⟩:=B ((itS (λq=>(1,q+1)) (s.g (p+2) % 3) (p+3)).2+1);refine bd (nC h (p+2) 3 ak ak) (bd k1' (bd (PK h _ _ rfl) (bd f ?_)));simp only[List.nil_append,zaR,GK,k3];rw[bC ak,aG,bC ak,aG];have e:=made (s:=s) (q:=(BA s.g (yR s.g (1+s.g p % 2)) ((itS (λq=>(1,q+1)) (s.g (p+2) % 3) (p+3)).2+1)).2) 44 0 (pkS [[D.str [102]],[D.str [103]],[D.str [109,97,120]]] (s.g (itS (λq=>(1,q+1)) (s.g (p+2) % 3) (p+3)).2)) [] (us++[t])
   (by rw[aeL,k2,z]) hB3 ak ak (Fa rfl _) bV (anY k4 i)
  rw[Ux] at e;exact e
 ·simp only[nn 0 ak,nn 1 ak,nn 2 ak,nn 3 ak,nn 4 ak,nn 5 ak,yy 6 ak,aQ,aG];rw[hc] at hB3|-;replace hB3:(((1,p+3):Nat×Nat)).1<=900000:=hB3;show DTr _ s (((1,p+3):Nat×Nat));exact bd (PK h _ _ rfl) (abq 34 _ ak (Fa rfl _))
 ·simp only[nn 0 ak,nn 1 ak,nn 2 ak,nn 3 ak,nn 4 ak,nn 5 ak,nn 6 ak,aQ,aG];rw[hc] at hB3|-;replace hB3:(up (tq (fM s.g (1+s.g p % 2)) (BA s.g (yR s.g (1+s.g p % 2))) (p+2))).1<=900000:=hB3;show DTr _ s (up (tq (fM s.g (1+s.g p % 2)) (BA s.g (yR s.g (1+s.g p % 2))) (p+2)));simp only[up,tq] at hB3|-;obtain⟨t1,f1,z1,i1⟩:=E (p+2);obtain⟨t2,f2,z2,i2⟩:=B (fM s.g (1+s.g p % 2) (p+2)).2;exact bd f1 (bd f2 (made 42 3 [] [] [t1,t2] (by simp only[sizes,z1,z2];omega) hB3 ak ak bV bV (by simp[i1,i2])))
end
def mkT:Nat->Int->Nat
 |0,_=>0
 |n+1,h=>afg (aqm (nxH h))+256 * mkT n (nxH h)
def aSo:Nat->Int->Nat
 |0,_=>0
 |m+1,h=>mkT 60 h+256 ^ 60 * aSo m (it nxH 60 h)
def aKu:Nat:=aSo 50 0
def apF:Nat->Int->Nat->Bool
 |0,_,_=>true
 |n+1,h,t=>Nat.beq (afg (aqm (nxH h))) (t % 256) && apF n (nxH h) (t / 256)
def an0:∀(n:Nat) (h:Int) (t:Nat),apF n h t=true->∀k,k<n->afg (aqm (nxH (it nxH k h)))=t / 256 ^ k % 256
 |0,_,_,_,k,hk=>absurd hk (Nat.not_lt_zero k)
 |n+1,h,t,hc,k,hk=>by
  rw[apF] at hc;simp only[rZ] at hc;cases k with
  |zero=>rw[atU,Nat.pow_zero,Nat.div_one];exact Dy hc.1
  |succ k=>have:=an0 n (nxH h) (t / 256) hc.2 k ak;rw[aiP,this,Nat.div_div_eq_div_mul,Nat.pow_succ,Nat.mul_comm 256]
def aKv:apF 3000 0 aKu=true:=by kernel_rfl
def gTab(p:Nat):Nat:=bif Nat.blt p 3000 then aKu / 256 ^ p % 256 else afh p
def aHc:gTab=afh:=by
 funext p;unfold gTab;cases hp:Nat.blt p 3000 with
 |false=>rfl
 |true=>rw[Nat.blt_eq] at hp;exact(an0 3000 0 aKu aKv p hp).symm
def aBS:(List.range 2858).all (λj=>Nat.ble (XY gTab j).1 220)=true:=by kernel_rfl
def aBT:(List.range 405).all (λj=>Nat.ble (Zc gTab j).1 60)=true:=by kernel_rfl
def au5(j:Nat)(hj:j<=2857):(XY afh j).1<=220:=by rw[<-aHc];exact Nat.le_of_ble_eq_true (List.all_eq_true.1 aBS j (List.mem_range.2 ak))
def au6(j:Nat)(hj:j<=404):(Zc afh j).1<=60:=by rw[<-aHc];exact Nat.le_of_ble_eq_true (List.all_eq_true.1 aBT j (List.mem_range.2 ak))
def adG(s:Cu)(p q:Nat):cS (s.st p) q=cS s (p+q):=by unfold cS;rw[Cu.aqn]
abbrev LpS:=(ay×Int×Int)⊕zat
abbrev LpT:=ay×Int×Int×ay
def af7(s:Cu)(p:Nat):LpS->Prop
 | .inl c=>c=cS s p
 | .inr (_,c,c1,c2,_)=>(c,c1,c2)=cS s p
def apG{s:Cu}{p q:Nat}{x:LpS}:af7 (s.st p) q x↔af7 s (p+q) x:=by
 cases x with
 |inl c=>simp only[af7,adG]
 |inr c=>simp only[af7,adG]
def DX(m:DR)(s:Cu)(lim:Nat):Prop:=∃(t:Tn) (q:Nat),m=some (dD true (t.flat 0),cS s q)/\t.size<=lim/\NS t
def awP{b:LpS->Option (LpS⊕LpT)}{f:(Nat->Nat)->DF}{lim L:Nat}
  (hf:∀{s:Cu},Zp s->∀p,∃t:Tn,t.size=(f s.g p).1/\NS t/\∀x,af7 s p x->b x=(bif decide ((t.size:Int)<=(lim:Int)) then some (.inr ((cS s (f s.g p).2).1,(cS s (f s.g p).2).2.1,(cS s (f s.g p).2).2.2,dD true (t.flat 0)))
   else some (.inl (.inr (false,(cS s (f s.g p).2).1,(cS s (f s.g p).2).2.1,(cS s (f s.g p).2).2.2,dD true (t.flat 0))))))
  (hbd:∀g,Bd L (f g)) (hsm:∀j,j<=L->(f afh j).1<=lim):∀s:Cu,Zp s->∀x,af7 s 0 x->∃(q:Nat) (t:Tn),fJ b x=some ((cS s q).1,(cS s q).2.1,(cS s q).2.2,dD true (t.flat 0))/\t.size<=lim/\NS t:=by
 intro s hs;refine axy f lim L (λu=>u.code.length<=1048576->∀x,af7 u 0 x->∃(q:Nat) (t:Tn),fJ b x=some ((cS u q).1,(cS u q).2.1,(cS u q).2.2,dD true (t.flat 0))/\t.size<=lim/\NS t) ?_ hsm s hs.i hs.l;intro s p hi;have hb:=hbd s.g p;refine⟨ak,ak,λhz hl x hx=> ?_,λhP hl x hx=> ?_⟩
 ·rw[Cu.Lh] at hl;rw[apG,Nat.add_zero] at hx;obtain⟨t,z,i,hbx⟩:=hf ⟨hi,hl⟩ p;have e:=hbx x hx;rw[zdt ak,aG] at e;refine⟨(f s.g p).2 - p,t, ?_,ak,i⟩;rw[adG,show p+((f s.g p).2 - p)=(f s.g p).2 by omega];exact aT e
 ·rw[Cu.Lh] at hl;rw[apG,Nat.add_zero] at hx;obtain⟨t,z,i,hbx⟩:=hf ⟨hi,hl⟩ p;have e:=hbx x hx
  by_cases hz:(t.size:Int)<=(lim:Int)
  ·rw[zdt hz,aG] at e;refine⟨(f s.g p).2 - p,t, ?_,ak,i⟩;rw[adG,show p+((f s.g p).2 - p)=(f s.g p).2 by omega];exact aT e
  ·rw[vG hz,aQ] at e;obtain⟨q,t',k1,k2,k3⟩:=hP (by rw[Cu.Lh];exact hl) _ (show af7 (s.st (f s.g p).2) 0 (.inr (false,(cS s (f s.g p).2).1,(cS s (f s.g p).2).2.1,(cS s (f s.g p).2).2.2,dD true (t.flat 0))) from by rw[apG];rfl);refine⟨(f s.g p).2 - p+q,t', ?_,k2,k3⟩;rw[cu e,k1,adG,adG,show p+((f s.g p).2 - p+q)=(f s.g p).2+q by omega]
section
variable {s:Cu} (h:Zp s)
include h
theorem au7(p:Nat):∃t:Tn,t.size=(Zc s.g p).1/\NS t/\∀x,af7 s p x->M.EJ x=(bif decide ((t.size:Int)<=((60:Nat):Int)) then some (.inr ((cS s (Zc s.g p).2).1,(cS s (Zc s.g p).2).2.1,(cS s (Zc s.g p).2).2.2,dD true (t.flat 0)))
   else some (.inl (.inr (false,(cS s (Zc s.g p).2).1,(cS s (Zc s.g p).2).2.1,(cS s (Zc s.g p).2).2.2,dD true (t.flat 0))))):=by
 have hm:=Nat.mod_lt (s.g p) (show 0<4 by omega);have w1:i64.wrap (1+((s.g p % 4:Nat):Int))=((1+s.g p % 4:Nat):Int):=by rw[aS ak ak];omega
 have e4:=nC h p 4 ak ak;rw[show((4:Nat):Int)=4 from rfl] at e4;obtain⟨t,f,z,i⟩:=Wu h (deep:=((1+s.g p % 4:Nat):Int)) ak ak (p+1);rw[Zt] at f z;refine⟨t,z,i,λx hx=> ?_⟩;cases x with
 |inl c=>simp only[af7] at hx;subst hx;simp only[M.EJ,M.EI,e4,ah,w1,f,fP,t.flat_length];cases decide ((t.size:Int)<=60)<;>rfl
 |inr c=>obtain⟨v,c,c1,c2,xx⟩:=c;simp only[af7] at hx;cases hx;have e4':M.aX 4 (cR (s.st p)) ((s.st p).i:Int) (s.st p).h=_:=e4;simp only[M.EJ,M.EI,e4',ah,w1,f,fP,t.flat_length];cases decide ((t.size:Int)<=60)<;>rfl
theorem au8(p:Nat):∃t:Tn,t.size=(XY s.g p).1/\NS t/\∀x,af7 s p x->M.yV x=(bif decide ((t.size:Int)<=((220:Nat):Int)) then some (.inr ((cS s (XY s.g p).2).1,(cS s (XY s.g p).2).2.1,(cS s (XY s.g p).2).2.2,dD true (t.flat 0)))
   else some (.inl (.inr (false,(cS s (XY s.g p).2).1,(cS s (XY s.g p).2).2.1,(cS s (XY s.g p).2).2.2,dD true (t.flat 0))))):=by
 have hm:=Nat.mod_lt (s.g p) (show 0<4 by omega);have hB:=awN (g:=s.g) p;have e4:=nC h p 4 ak ak;rw[show((4:Nat):Int)=4 from rfl] at e4;obtain⟨us,k1,k2,k3,k4⟩:=Vt (s:=s) (e:=alv s.g) (b:=M.KD) (λp x=>rfl) (λn p ts hn ht=>by obtain⟨t,f1,z1,i1⟩:=aGh h p;refine⟨t, ?_,z1,i1⟩;simp only[yH,M.KD,M.Eb,f1,ah,zaR,GK];rw[zdt ak,aG,bC ak,aG,bC ak,aG,aS ak ak,Ux];simp) (s.g p % 4) (p+1) [] (by simp;omega);have k1':M.Cj (((s.g p % 4:Nat):Int),(cS s (p+1)).1,(cS s (p+1)).2.1,(cS s (p+1)).2.2,[])=_:=k1;have hz:(XY s.g p).1=sizes us+1:=by rw[k2];rfl
 have hmk:=awG 45 0 [] [] [] us ak;rw[<-awI] at hmk;refine⟨.mk 45 0 [] [] us,by rw[Tn.size,hz],ai7 ak ak bV bV k4,λx hx=> ?_⟩;cases x with
 |inl c=>simp only[af7] at hx;subst hx;simp only[M.yV,M.yU,e4,ah,k1',List.nil_append,hmk,abE,aG,fP,Tn.flat_length];cases decide (((Tn.mk 45 0 [] [] us).size:Int)<=220)<;>rfl
 |inr c=>obtain⟨v,c,c1,c2,xx⟩:=c;simp only[af7] at hx;cases hx;have e4':M.aX 4 (cR (s.st p)) ((s.st p).i:Int) (s.st p).h=_:=e4;simp only[M.yV,M.yU,e4',ah,k1',List.nil_append,hmk,abE,aG,fP,Tn.flat_length];cases decide (((Tn.mk 45 0 [] [] us).size:Int)<=220)<;>rfl
theorem apH(p:Nat):DX (M.xA (cS s p).1 (cS s p).2.1 (cS s p).2.2) s 60:=by obtain⟨q,t,k1,k2,k3⟩:=awP (b:=M.EJ) (f:=Zc) (lim:=60) (L:=404) (λh p=>au7 h p) (λg=>aGf) au6 (s.st p) (h.st p) (.inl (cS s p)) (by show cS s p=cS (s.st p) 0;rw[adG];rfl);have k1':M.Oo (.inl ((cS s p).1,(cS s p).2.1,(cS s p).2.2))=_:=k1;rw[adG] at k1';refine⟨t,p+q, ?_,k2,k3⟩;simp only[M.xA,M.QS];rw[k1',ah]
theorem aly(p:Nat):DX (M.xB (cS s p).1 (cS s p).2.1 (cS s p).2.2) s 220:=by obtain⟨q,t,k1,k2,k3⟩:=awP (b:=M.yV) (f:=XY) (lim:=220) (L:=2857) (λh p=>au8 h p) (λg=>awN) au5 (s.st p) (h.st p) (.inl (cS s p)) (by show cS s p=cS (s.st p) 0;rw[adG];rfl);have k1':M.H8 (.inl ((cS s p).1,(cS s p).2.1,(cS s p).2.2))=_:=k1;rw[adG] at k1';refine⟨t,p+q, ?_,k2,k3⟩;simp only[M.xB,M.JG];rw[k1',ah]
theorem any_ok(p:Nat):DX (M.yI (cS s p).1 (cS s p).2.1 (cS s p).2.2) s 500:=by
 have hm:=Nat.mod_lt (s.g p) (show 0<5 by omega);have e5:=nC h p 5 ak ak;rw[show((5:Nat):Int)=5 from rfl] at e5;simp only[M.yI,M.Ov];rw[e5,ah];obtain⟨t1,q1,f1,z1,i1⟩:=apH h (p+1);obtain⟨t2,f2,z2,i2⟩:=awO h (deep:=2) ak ak (p+1);have b2:=apD (g:=s.g) (p+1);rw[show(2:Int).toNat=2 from rfl] at f2 z2;obtain⟨t3,q3,f3,z3,i3⟩:=aly h (p+1);simp only[f1,f2,f3,ah];cases((s.g p % 5:Nat):Int)==0 with
 |true=>exact⟨t1,q1,rfl,ak,i1⟩
 |false=>cases((s.g p % 5:Nat):Int)==1 with
  |true=>exact⟨t1,q1,rfl,ak,i1⟩
  |false=>cases((s.g p % 5:Nat):Int)==2 with
   |true=>exact⟨t2,_,rfl,ak,i2⟩
   |false=>exact⟨t3,q3,rfl,ak,i3⟩
end
def Sz(b:Nat)(e:DF):Prop:=∀p,(e p).1<=b
section
variable {g:Nat->Nat} {b c:Nat} {e f:DF}
def Sz.mono(h:Sz b e)(hb:b<=c):Sz c e:=λp=>Nat.le_trans (h p) hb
def asY(h:Sz b e):∀n p,(itS e n p).1<=n * b
 |0,p=>by simp[itS]
 |n+1,p=>by have h1:=h p;have h2:=asY h n (e p).2;rw[itS,Nat.add_mul];simp only;omega
def abI(h:Sz b e)(least w:Nat)(hw:1<=w)(p:Nat):(FM g e least w p).1<=(least+w - 1) * b:=by unfold FM;have:=asY h (least+g p % w) (p+1);have hm:=Nat.mod_lt (g p) (show 0<w by omega);have h2:(least+g p % w) * b<=(least+w - 1) * b:=Nat.mul_le_mul_right b ak;omega
def aBU{e1 e2:DF}(h1:Sz b e1)(h2:Sz b e2):Sz (b+1) (lvS g e1 e2):=λp=>by unfold lvS up;have a:=h1 (p+2);have c:=h2 (p+1);split<;>first|omega|(simp only;omega)
def awQ{e0 e1 e2:DF}(hb:1<=b)(h0:Sz b e0)(h1:Sz b e1)(h2:Sz b e2):Sz (3 * b+1) (Ld g e0 e1 e2):=λp=>by unfold Ld up tq;have a2:=h0 (p+2);have a3:=h0 (p+3);have v0:=aBU (g:=g) h0 h1 (p+2);have v2:=aBU (g:=g) h1 h2 (p+2);have v3:=aBU (g:=g) h1 h2 (p+3);have b3:=h0 (lvS g e1 e2 (p+3)).2;have i3:=asY h0 3 (p+2);have i2:=asY h0 2 (p+3);have s0:=abI (g:=g) h0 0 4 ak (p+3);have s1:=abI (g:=g) h1 0 4 ak (p+3);have s9:=abI (g:=g) h0 1 2 ak (p+3);have l0:(af5 g (p+2)).1=1:=rfl;split<;>first|omega|(simp only;omega)
def ah3:Sz 1 (fM g 0):=λp=>zaQ _
def ah4:Sz 4 (fM g 1):=by rw[YL];exact awQ (zaQ _) ah3 ah3 ah3
def aHd:Sz 13 (fM g 2):=by rw[YL];exact awQ ak ah4 (ah3.mono ak) (ah3.mono ak)
def ahd{d:Nat}(h:Sz b (fM g d))(h1:Sz b (fM g (d - 1)))(hb:1<=b):Sz (4 * b+1) (Es g d):=λp=>by
 have l3:=abI (g:=g) h 0 2 ak (p+2);have l4:=abI (g:=g) h1 0 3 ak (p+2);have e2:=h (p+2);have e1:=h (p+1);have hpr:(Vu g d p).1<=4 * b+1:=by unfold Vu up tq;have hm:=Nat.mod_lt (g (p+1)) (show 0<2 by omega);have l:=abI (g:=g) h (g (p+1) % 2) (4 - g (p+1) % 2) ak (p+2);rw[show g (p+1) % 2+(4 - g (p+1) % 2) - 1=3 by omega] at l;have e:=h1 ((FM g (fM g d) (g (p+1) % 2) (4 - g (p+1) % 2) (p+2)).2+2);cases Nat.beq (g (FM g (fM g d) (g (p+1) % 2) (4 - g (p+1) % 2) (p+2)).2 % 3) 0<;>simp only[aG,aQ]<;>omega
 unfold Es up;split
 ·exact hpr
 ·exact hpr
 ·simp only;omega
 ·simp only;omega
 ·simp only;omega
 ·cases Nat.beq (g (p+1) % 2) 0<;>simp only[aG,aQ]<;>omega
 ·simp only;omega
def aBV(h:Sz b e):Sz (2 * b+1) (BA g e):=λp=>by have hm:=Nat.mod_lt (g p) (show 0<3 by omega);have i:=asY h (g p % 3) (p+1);have h2:(g p % 3) * b<=2 * b:=Nat.mul_le_mul_right b ak;unfold BA up;simp only;omega
def aeM(h:Sz b e)(k:Sz c f):Sz (b+c) (tq e f):=λp=>by have a:=h p;have c:=k (e p).2;unfold tq;simp only;omega
def au9{d:Nat}(h:Sz b (fM g d))(hb:1<=b):Sz b (WV g d):=λp=>by have a:=h (p+1);unfold WV;cases Nat.beq (g p % 3) 0<;>simp only[aG,aQ]<;>omega
def aBW{x y d:Nat}{q:DF}(hB:Sz x q)(hS:Sz y (Es g (min d 2))):Sz (2 * x+y+26) (abH g d q):=λp=>by
 have s1:=hS (p+1);have a0:=aeM (ah4 (g:=g)) hB (p+2);have a1:=aeM (ah4 (g:=g)) (aeM hB hB) (p+2);have a3:=aeM hB (ah4 (g:=g)) (p+2);have a4:=aeM (au9 (aHd (g:=g)) ak) (aeM (au9 (ah4 (g:=g)) ak) (aeM (au9 (ah4 (g:=g)) ak) hB)) (p+2);have a5:=hB (p+3);have a6:=hB (p+5);unfold abH up;cases Nat.beq (g p % 3) 0 with
 |false=>simp only[aQ];omega
 |true=>
  simp only[aG];split
  ·simp only;omega
  ·simp only;omega
  ·simp only;omega
  ·simp only;omega
  ·simp only;omega
  ·cases Nat.beq (g (p+2) % 2) 0<;>simp only[aG,aQ]<;>omega
def aSp:Sz 5 (yR g 0):=ahd ah3 ah3 (zaQ _)
def aSq:Sz 65 (yR g 1):=aBW (aBV aSp) (ahd (b:=4) ah4 (ah3.mono ak) ak)
def aSr:Sz 341 (yR g 2):=aBW (aBV aSq) (ahd (b:=13) aHd (ah4.mono ak) ak)
end
section
variable {s:Cu} (h:Zp s)
include h
theorem aBX(p:Nat):DX (M.yI (cS s p).1 (cS s p).2.1 (cS s p).2.2) s 341:=by
 have hm:=Nat.mod_lt (s.g p) (show 0<5 by omega);have e5:=nC h p 5 ak ak;rw[show((5:Nat):Int)=5 from rfl] at e5;simp only[M.yI,M.Ov];rw[e5,ah];obtain⟨t1,q1,f1,z1,i1⟩:=apH h (p+1);obtain⟨t2,f2,z2,i2⟩:=awO h (deep:=2) ak ak (p+1);have b2:=aSr (g:=s.g) (p+1);rw[show(2:Int).toNat=2 from rfl] at f2 z2;obtain⟨t3,q3,f3,z3,i3⟩:=aly h (p+1);simp only[f1,f2,f3,ah];cases((s.g p % 5:Nat):Int)==0 with
 |true=>exact⟨t1,q1,rfl,ak,i1⟩
 |false=>cases((s.g p % 5:Nat):Int)==1 with
  |true=>exact⟨t1,q1,rfl,ak,i1⟩
  |false=>cases((s.g p % 5:Nat):Int)==2 with
   |true=>exact⟨t2,_,rfl,ak,i2⟩
   |false=>exact⟨t3,q3,rfl,ak,i3⟩
end
def ahe:∀(ks:List Tn) (b:Nat),ks≠[]->(ends ks b).getLast? =some ((b+sizes ks:Nat) - 1:Int)
 |[],_,h=>absurd rfl h
 |[t],b,_=>by have:=t.size_pos;simp only[ends,sizes,List.getLast?_singleton,jW];omega
 |t::u::r,b,_=>by
  have h:=ahe (u::r) (b+t.size) (by simp);rw[ends];have e:ends (u::r) (b+t.size)≠[]:=by simp[ends]
  rw[List.getLast?_cons,h];simp only[sizes,Option.getD_some,jW];omega
def aBY{T U:Tn}(h:T.flat 0=U.flat 0++U.flat 0):T.size=2/\U.size=1\/False:=by
 have hl:=congrArg List.length h;rw[wM,T.flat_length,U.flat_length] at hl;obtain⟨k,op,x,y,ks⟩:=T;obtain⟨k',op',x',y',ks'⟩:=U;have h1:=congrArg List.getLast? h;rw[List.getLast?_append,Tn.flat,Tn.flat,List.getLast?_concat,List.getLast?_concat] at h1;simp only[Option.some_or,jW,Nd.mk.injEq] at h1;have he:=h1.2.2.2.2;rw[Tn.size,Tn.size] at hl
 by_cases h0:ks'=[]
 ·subst h0;have:ks=[]:=by
   cases ks with
   |nil=>rfl
   |cons _ _=>simp[ends] at he
  subst this;simp[sizes] at hl
 ·have h2:ks≠[]:=by
   rintro rfl;cases ks' with
   |nil=>exact h0 rfl
   |cons _ _=>simp[ends] at he
  have e1:=ahe ks 0 h2;have e2:=ahe ks' 0 h0;rw[he,e2] at e1;simp only[jW] at e1;omega
def aKw(c:aC)(hc:c.length<=1048576):∃h,M.IW (c.map byteRow)=some (c.map byteRow,0,h):=by
 have key:∀(n i:Nat) (h:Int),c.length - i=n->∃t,fJ (M.GX (c.map byteRow)) (h,(i:Int))=some t:=by
  intro n;induction n with
  |zero=>intro i h hi;refine⟨(h,(i:Int)),aT ?_⟩;simp only[M.GX,M.BF,zaR];rw[vG ak,aQ]
  |succ n ih=>
   intro i h hi
   by_cases h4:i<4000
   ·obtain⟨b,hb⟩:∃b,c[i]? =some b:=⟨c[i],by simp⟩
    have hr:idx (c.map byteRow) (i:Int)=some (byteRow b):=by rw[dn,List.getElem?_map,hb];rfl
    have hcI:jR .u8 (byteRow b) 0=some (b.toNat:Int):=rfl;obtain⟨t,ht⟩:=ih (i+1) _ ak;refine⟨t, ?_⟩;rw[<-ht];apply cu;simp only[M.GX,M.BF,zaR];rw[zdt ak,aG,zdt ak,aG,hr,ah,hcI,ah,aS (n:=(i:Int)+1) ak ak];rfl
   ·refine⟨(h,(i:Int)),aT ?_⟩;simp only[M.GX,M.BF,zaR];rw[zdt ak,aG,vG ak,aQ]
 obtain⟨t,ht⟩:=key c.length 0 (i64.wrap (10101+(((c.map byteRow).length:Nat):Int))) ak;refine⟨t.fst, ?_⟩;simp only[M.IW,M.TR];rw[show M.QI (c.map byteRow) (i64.wrap (10101+(((c.map byteRow).length:Nat):Int)),0)=some t from ht,ah]
structure BtN(n:Nd):Prop where
 kids:n.kids.length<=501
 ints:∀e,e∈n.kids-> -1000000<=e/\e<=1000000
 fine:aBN n
structure Bt(l:List Nd):Prop where
 len:l.length<=1000
 all:∀n,n∈l->BtN n
 lim:l.length<=341\/∃U:Tn,l=U.flat 0++U.flat 0
def asZ{t:Tn}(hs:t.size<=500)(hf:NS t):∀n,n∈t.flat 0->BtN n/\n.kids.length<=500:=by intro n hn;obtain⟨h1,h2⟩:=Uu t 0 n hn;exact⟨⟨ak,λe he=>by have:=h2 e he;omega,hf 0 n hn⟩,ak⟩
def apI{t:Tn}(hs:t.size<=341)(hf:NS t):Bt (t.flat 0):=⟨by rw[t.flat_length];omega,λn hn=>(asZ ak hf n hn).1,.inl (by rw[t.flat_length];exact hs)⟩
def Bt.set{l:List Nd}(h:Bt l){i:Nat}{n:Nd}(hn:BtN n)(hl:l.length<=341:=by rw[Tn.flat_length];omega):Bt (l.set i n):=⟨by rw[List.length_set];exact h.len,λm hm=>by
 rcases List.mem_or_eq_of_mem_set hm with hm|rfl
 ·exact h.all m hm
 ·exact hn,.inl (by rw[List.length_set];exact hl)⟩
def aBZ(n:Nd):aja 1 (PO true n) 4=some (encI n.kids):=rfl
def apJ(o:Bool)(n:Nd)(k:List Int):splice (PO o n) 4 [D.sl o 1 (encI k)]=PO o {n with kids:=k}:=rfl
def QB(o:Bool)(l:List Nd)(i:Nat)(n:Nd):(dD o l).set i (PO o n)=dD o (l.set i n):=by simp[dD,List.map_set]
def aGi(o:Bool)(n:Nd)(x:aC):splice (PO o n) 2 [D.str x]=PO o {n with text:=x}:=rfl
def DB(m:Option (Bool×ay×ay×Int×Int))(s:Cu):Prop:=∃(b o:Bool) (l:List Nd) (q:Nat),m=some (b,dD o l,cS s q)/\Bt l
section
variable {s:Cu} (h:Zp s)
include h
theorem aGj(p:Nat):DB (M.Fv (cS s p).1 (cS s p).2.1 (cS s p).2.2) s:=by
 obtain⟨t,q,f1,z1,i1⟩:=aBX h p;have hlen:(dD true (t.flat 0)).length=t.size:=by rw[fP,t.flat_length]
 have hpos:=t.size_pos;obtain⟨k,q1,f2,_,_,k0,k1⟩:=ahc h q (t.size:Int) ak;have hk:k<t.size:=ak;obtain⟨i,rfl⟩:=Int.eq_ofNat_of_zero_le k0;have hi:i<t.size:=ak;have e12:=nC h q1 12 ak ak;rw[show((12:Nat):Int)=12 from rfl] at e12;have hb:=apI z1 i1;have hil:i<(t.flat 0).length:=by rw[t.flat_length];exact hi
 obtain⟨n,hn⟩:∃n,(t.flat 0)[i]? =some n:=⟨(t.flat 0)[i],by simp[hil]⟩
 have hnb:=asZ ak i1 n (WW hn);have hset:(t.flat 0).set i {n with kids:=n.kids}=t.flat 0:=by obtain⟨_,rfl⟩:=NV.1 hn;exact List.set_getElem_self hil
 simp only[yH,M.Fv,M.QU];rw[f1,ah];simp only[hlen];rw[f2,ah];simp only;rw[e12,ah];simp only;cases c0:((s.g q1 % 12:Nat):Int)==0 with
 |true=>
  rw[aG,Oc];refine⟨false,false,(t.flat 0).take i,q1+1, ?_,by have:=hb.len;rw[zlt];omega,λm hm=>hb.all m (List.mem_of_mem_take hm),.inl (by rw[zlt,t.flat_length];omega)⟩;have:cut (dD false (t.flat 0)) 0 (i:Int)=some (dD false ((t.flat 0).take i)):=by unfold cut;rw[fP,t.flat_length,zdt ak,zdt ak,zdt ak];simp[dD,List.map_take]
  rw[this,ah]
 |false=>
  rw[aQ];cases c1:((s.g q1 % 12:Nat):Int)==1 with
  |true=>
   have hrb:abo iB [[D.int .i64 (-1)],[D.int .i64 (i:Int)],[D.int .i64 0],[D.int .i64 99]]=true:=by simp only[abo,iB,List.all_cons,List.all_nil,Bool.and_true,rZ,decide_eq_true_eq,yS,SS];refine⟨⟨⟨ak,ak⟩,⟨ak,ak⟩,⟨ak,ak⟩,⟨ak,ak⟩⟩,by decide,by decide⟩
   have epk:=PL h (q1+1) _ hrb;have hpk:=Ku hrb (s.g (q1+1));simp only[aG,dn,Zt,mG,hn,Nw,ah,aBZ,Ez,epk];generalize pkI [[D.int .i64 (-1)],[D.int .i64 (i:Int)],[D.int .i64 0],[D.int .i64 99]] (s.g (q1+1))=w at hpk;have hl:=hnb.2;rw[show encI n.kids++[[D.int IntKind.i64 w]]=encI (n.kids++[w]) from by simp[encI],Ez,aG,apJ,QB,eH];rw[bC (by simp;omega),aG,bC (by simp;omega),aG,show(i.beq i)=true from Nat.beq_refl i];refine⟨true,true,(t.flat 0).set i {n with kids:=n.kids++[w]},q1+1+1,rfl,hb.set ⟨by simp;omega,λe he=> ?_,hnb.1.fine⟩⟩;rcases List.mem_append.1 he with he|he
   ·exact hnb.1.ints e he
   ·rw[List.mem_singleton.1 he];omega
  |false=>
   rw[aQ];cases c2:((s.g q1 % 12:Nat):Int)==2 with
   |true=>
    simp only[aG,dn,Zt,mG,hn,Nw,ah,aBZ,Ez,apJ,QB,hset,eH];cases hk:n.kids with
    |nil=>
     refine⟨true,true,t.flat 0,q1+1, ?_,hb⟩;have e0:(t.flat 0).set i {n with kids:=[]}=t.flat 0:=by rw[<-hk];exact hset
     rfl
    |cons x xs=>
     have e0:(t.flat 0).set i {n with kids:=x::xs}=t.flat 0:=by rw[<-hk];exact hset
     obtain⟨j,q2,f3,_,_,j0,j1⟩:=ahc h (q1+1) ((i:Int)+1) ak;have w1:i64.wrap ((i:Int)+1)=(i:Int)+1:=aS ak ak;have w2:i64.wrap (j - 1)=j - 1:=aS ak ak;have hx0:idx (encI (x::xs)) 0=some [D.int .i64 x]:=rfl;have hx1:(encI (x::xs))[0]? =some [D.int .i64 x]:=rfl;have hx2:(encI (x::xs)).set 0 (splice [D.int .i64 x] 0 [D.int .i64 (j - 1)])=encI ((j - 1)::xs):=rfl;rw[zdt (by simp),aG];simp only[w1,f3,ah,w2,e0,hn,mG,Nw,hk,hx0,hx1,hx2,Ez,aG,aBZ,apJ,QB,hset];refine⟨true,true,(t.flat 0).set i {n with kids:=(j - 1)::xs},q2,rfl,hb.set ⟨?_,λe he=> ?_,hnb.1.fine⟩⟩
     ·have:=hnb.2;rw[hk] at this;simp only[yS] at this|-;omega
     ·rcases List.mem_cons.1 he with rfl|he
      ·omega
      ·exact hnb.1.ints e (by rw[hk];exact zmm _ he)
   |false=>
    rw[aQ];cases c3:((s.g q1 % 12:Nat):Int)==3 with
    |true=>
     rw[aG,bC ak,bC ak];refine⟨false,false,t.flat 0++t.flat 0,q1+1, ?_, ?_,λm hm=> ?_,.inr ⟨t,rfl⟩⟩
     ·rw[Bool.and_true,aG,Oc,Kt]
     ·rw[wM,t.flat_length];omega
     ·rcases List.mem_append.1 hm with hm|hm<;>exact hb.all m hm
    |false=>exact⟨true,true,t.flat 0,q1+1,rfl,hb⟩
end
def aKx{c:aC}(hc:c.length<=1048576)(h:Int):Zp ⟨c,0,h⟩:=⟨Nat.zero_le _,hc⟩
def setKind(o:Bool)(n:Nd)(v:Int):splice (PO o n) 0 [D.int .i64 v]=PO o {n with kind:=v}:=rfl
def aSs(o:Bool)(n:Nd)(v:Int):splice (PO o n) 1 [D.int .i64 v]=PO o {n with op:=v}:=rfl
def setOther(o:Bool)(n:Nd)(x:aC):splice (PO o n) 3 [D.str x]=PO o {n with other:=x}:=rfl
section
variable {s:Cu} (h:Zp s)
include h
theorem ayq(p:Nat):DB (M.zK (cS s p).1 (cS s p).2.1 (cS s p).2.2) s:=by
 obtain⟨t,q,f1,z1,i1⟩:=aBX h p;have hlen:(dD true (t.flat 0)).length=t.size:=by rw[fP,t.flat_length]
 have hpos:=t.size_pos;obtain⟨k,q1,f2,_,_,k0,k1⟩:=ahc h q (t.size:Int) ak;have hk:k<t.size:=ak;obtain⟨i,rfl⟩:=Int.eq_ofNat_of_zero_le k0;have hi:i<t.size:=ak;have e14:=nC h q1 14 ak ak;rw[show((14:Nat):Int)=14 from rfl] at e14;have e47:=nC h (q1+1) 47 ak ak;rw[show((47:Nat):Int)=47 from rfl] at e47;have a0L:=Nat.mod_lt (s.g (q1+1)) (show 0<47 by omega);have aZ5:(-1000:Int)<=((s.g (q1+1) % 47:Nat):Int)/\((s.g (q1+1) % 47:Nat):Int)<=1000:=ak;have hb:=apI z1 i1;have hil:i<(t.flat 0).length:=by rw[t.flat_length];exact hi
 obtain⟨n,hn⟩:∃n,(t.flat 0)[i]? =some n:=⟨(t.flat 0)[i],by simp[hil]⟩
 have hnb:=hb.all n (WW hn);have af8:=hnb.fine;simp only[M.zK,M.Lu];rw[f1,ah];simp only[hlen];rw[f2,ah];simp only;rw[e14,ah];simp only;cases c0:((s.g q1 % 14:Nat):Int)==0 with
 |true=>simp only[aG,e47,dn,Zt,mG,hn,Nw,ah,setKind,QB];exact⟨true,true,_,_,rfl,hb.set ⟨hnb.kids,hnb.ints,⟨aZ5,af8.2⟩⟩⟩
 |false=>
  rw[aQ];cases c1:((s.g q1 % 14:Nat):Int)==1 with
  |true=>
   have hrb:abo iB [[D.int .i64 0],[D.int .i64 1],[D.int .i64 56],[D.int .i64 99],[D.int .i64 54],[D.int .i64 51],[D.int .i64 (-1)]]=true:=by decide
   have epk:=PL h (q1+1) _ hrb;have hpk:=Ku hrb (s.g (q1+1));simp only[aG,epk,dn,Zt,mG,hn,Nw,ah,aSs,QB];exact⟨true,true,_,_,rfl,hb.set ⟨hnb.kids,hnb.ints,⟨af8.1,hpk,af8.2.2⟩⟩⟩
  |false=>
   rw[aQ];cases c2:((s.g q1 % 14:Nat):Int)==2 with
   |true=>
    have hrb:abo sB [[D.str []],[D.str [120]],[D.str [105,102]],[D.str [108,101,110,103,116,104]],[D.str [49]],[D.str [47]]]=true:=by decide
    have epk:=PK h (q1+1) _ hrb;have hpk:=Fa hrb (s.g (q1+1));simp only[aG,epk,dn,Zt,mG,hn,Nw,ah,aGi,QB];exact⟨true,true,_,_,rfl,hb.set ⟨hnb.kids,hnb.ints,⟨af8.1,af8.2.1,hpk,af8.2.2.2⟩⟩⟩
   |false=>
    rw[aQ];cases c3:((s.g q1 % 14:Nat):Int)==3 with
    |true=>
     have hrb:abo sB [[D.str []],[D.str [62]],[D.str [120]]]=true:=by decide
     have epk:=PK h (q1+1) _ hrb;have hpk:=Fa hrb (s.g (q1+1));simp only[aG,epk,dn,Zt,mG,hn,Nw,ah,setOther,QB];exact⟨true,true,_,_,rfl,hb.set ⟨hnb.kids,hnb.ints,⟨af8.1,af8.2.1,af8.2.2.1,hpk⟩⟩⟩
    |false=>
     rw[aQ];cases c4:((s.g q1 % 14:Nat):Int)==4 with
     |true=>obtain⟨b,o,l,q2,f5,hl⟩:=aGj h (q1+1);rw[aG,f5,ah];simp only[Oc];exact⟨false,false,l,q2,rfl,hl⟩
     |false=>exact⟨true,true,t.flat 0,q1+1,rfl,hb⟩
end
def an1{b:Int->Option (Int⊕(Unit⊕Int))}(n:Nat)(hn:n<=1048576)(hs:∀i,i<n->b (i:Int)=some (.inl (i64.wrap ((i:Int)+1))))(he:b (n:Int)=some (.inr (.inr (n:Int)))):fJ b 0=some (.inr (n:Int)):=
 vW (b:=b) (t:=(Sum.inr (n:Int):Unit⊕Int)) (λi=>(i:Int)) n (λi hi=>by rw[hs i hi,aS ak ak];rfl) he 0 (Nat.zero_le _)
def ayr(a:List Int)(ha:a.length<=1048576):M.FK (encI a) (encI a)=some true:=by
 have h:=an1 (b:=M.Ko (encI a) (encI a)) a.length ha (λi hi=>by
  obtain⟨x,hx⟩:∃x,a[i]? =some x:=⟨a[i],by simp[hi]⟩
  simp only[M.Ko,M.EZ,eH,dn,Ey,hx,Nw,ah,Zq,bne_self_eq_false,beq_self_eq_true,zaP,aQ];rw[zdt ak];rfl) (by
  simp only[M.Ko,M.EZ,eH];rw[vG ak];rfl)
 simp only[M.FK,M.Rz,bne_self_eq_false,aQ,M.Pq,h,ah];rfl
def ays(a:List Nd)(ha:a.length<=1048576)(hk:∀n,n∈a->n.kids.length<=1048576):M.wX (dD false a) (dD false a)=some true:=by
 have h:=an1 (b:=M.Gw (dD false a) (dD false a)) a.length ha (λi hi=>by
  obtain⟨x,hx⟩:∃x,a[i]? =some x:=⟨a[i],by simp[hi]⟩
  simp only[M.Gw,M.AX,fP,dn,mG,hx,Nw,ah,Yk,YS,YT,YU,Vz,ayr x.kids (hk x (WW hx)),bne_self_eq_false,beq_self_eq_true,zaP,aQ,aG,ah];rw[zdt ak];rfl) (by
  simp only[M.Gw,M.AX,fP];rw[vG ak];rfl)
 simp only[M.wX,M.MH,bne_self_eq_false,aQ,M.Kq,h,ah];rfl
structure Ok(l:List Nd):Prop where
 len:l.length<=1048576
 kids:∀n,n∈l->n.kids.length<=1048576/\∀e,e∈n.kids->I64 e
 sm:∀n,n∈l->Small n
 w:wK l<=10000000
def apK{l:List Nd}(h:KH l=true):Hw l=true:=by unfold KH at h;rw[rZ] at h;exact h.1
def aiz(o:Bool)(n:Nd):Row:=[.int .i64 n.kind,.int .i64 n.op,.str n.text,.sl o 1 (encI n.kids)]
def lM(o:Bool)(l:List Nd):ay:=l.map (aiz o)
section
variable (o:Bool) (n:Nd) (l:List Nd) (i:Int)
@[simp] theorem nJ:(lM o l).length=l.length:=by simp[lM]
@[simp] theorem aKK:idx (lM o l) i=(idx l i).map (aiz o):=aiO _ _ _
@[simp] theorem Hu(j:Nat):(lM o l)[j]? =(l[j]?).map (aiz o):=by simp[lM]
@[simp] theorem cD0:jR .i64 (aiz o n) 0=some n.kind:=rfl
@[simp] theorem cD1:jR .i64 (aiz o n) 1=some n.op:=rfl
@[simp] theorem cD2:cStr (aiz o n) 2=some n.text:=rfl
@[simp] theorem cD3:cSl 1 (aiz o n) 3=some (encI n.kids):=rfl
@[simp] theorem aB0:aB (lM o l)=lM false l:=by
 induction l with
 |nil=>rfl
 |cons x l ih=>simp only[lM,zmc,aB] at ih|-;rw[ih];simp[aiz,Fh,D.fz,avC]
end
def YN(o:Bool)(a b:List Nd):lM o (a++b)=lM o a++lM o b:=by simp[lM]
def alz:∀l:List Nd,KP (lM true l)=true
 |[]=>rfl
 |n::l=>by have:lM true (n::l)=aiz true n::lM true l:=rfl;rw[this,KP,alz l];simp[aiz,dw,D.pure]
def ayt(l:List Nd):[[D.sl true 4 (lM true l)]].all dw=true:=by simp[dw,D.pure,alz]
def aGk(l:List Nd)(o:Bool)(d:Int)(hl:l.length<=90000000)(hk:∀n,n∈l->n.kids.length<=90000000/\∀e,e∈n.kids-> -4000000000<=e+d/\e+d<=4000000000):
  M.tJ (lM o l) d=some (lM true (l.map (Nd.up d))):=by
 simp only[M.tJ,M.LP];have hloop:=vW (b:=M.F8 (lM o l) d) (t:=((l.length:Int),lM true (l.map (Nd.up d)))) (λi=>((i:Int),lM true ((l.take i).map (Nd.up d)))) l.length
  (by
   intro i hi;obtain⟨n,hn⟩:∃n,l[i]? =some n:=⟨l[i],by simp[hi]⟩
   obtain⟨hkl,hke⟩:=hk n (WW hn);have hin:=vW (b:=M.F7 (lM o l) d (i:Int) (lM true ((l.take i).map (Nd.up d))) n.kind n.op n.text) (t:=((n.kids.length:Int),encI (n.kids.map (· +d)))) (λj=>((j:Int),encI ((n.kids.take j).map (· +d)))) n.kids.length
    (by
     intro j hj;obtain⟨e,he⟩:∃e,n.kids[j]? =some e:=⟨n.kids[j],by simp[hj]⟩
     have:=hke e (WW he);simp only[yH,M.F7,M.Ak,dn,Hu,hn,Nw,ah,cD3,eH,Ey,he,Zq,zaR,zlt,GK];rw[zdt ak,aG,bC ak,aG,bC ak,aG,aS ak ak,aS ak ak,qW he];simp[encI])
    (by simp only[yH,M.F7,M.Ak,dn,Hu,hn,Nw,ah,cD3,eH];rw[vG ak,aQ,List.take_length]) 0 (Nat.zero_le _)
   simp only[MW,List.take_zero,List.map_nil] at hin;have hin':M.JM (lM o l) d (i:Int) (lM true ((l.take i).map (Nd.up d))) n.kind n.op n.text (0,[])=some ((n.kids.length:Int),encI (n.kids.map (· +d))):=hin;simp only[yH,M.F8,M.Am,nJ,dn,Hu,hn,Nw,ah,cD0,cD1,cD2,cD3,hin',Ez,aG,zaR,zlt,GK];rw[zdt ak,aG,bC ak,aG,bC ak,aG,aS ak ak,qW hn,List.map_append,YN];rfl)
  (by simp only[yH,M.F8,M.Am,nJ];rw[vG ak,aQ,List.take_length]) 0 (Nat.zero_le _)
 simp only[MW,List.take_zero,List.map_nil] at hloop;have MZ:M.JO (lM o l) d (0,[])=some ((l.length:Int),lM true (l.map (Nd.up d))):=hloop;rw[MZ,ah]
def Fe(ts:List Tn):ay:=ts.map λt=>[.sl false 4 (lM false (t.flat 0))]
def apL(t:Tn)(n:Nd)(hn:n∈t.flat 0):n.kids.length<=t.size/\∀e,e∈n.kids->0<=e/\e<t.size:=by obtain⟨h1,h2⟩:=Uu t 0 n hn;refine⟨ak,λe he=> ?_⟩;have:=h2 e he;omega
def ava(k op:Int)(ts:List Tn)(hs:sizes ts<=90000000):M.eY k op (Fe ts)=some (lM true ((Tn.mk k op [] [] ts).flat 0)):=by
 have htl:=BN ts;simp only[yH,M.eY,M.OO];have hpl:(Fe ts).length=ts.length:=by simp[Fe]
 have hloop:=vW (b:=M.CQ)
  (t:=if ts=[] then .inl (Fe ts,0,[],k,op,[]) else .inr (Fe ts,(ts.length:Int),lM true (jU ts 0),k,op,[],encI (ends ts 0)))
  (λj=>if j=0 then .inl (Fe ts,0,[],k,op,[]) else .inr (Fe ts,(j:Int),lM true (jU (ts.take j) 0),k,op,[],encI (ends (ts.take j) 0))) ts.length
  (by
   intro j hj;obtain⟨t,ht⟩:∃t,ts[j]? =some t:=⟨ts[j],by simp[hj]⟩
   have hst:=Nh ht;have hp:=t.size_pos;have hr:(Fe ts)[j]? =some [.sl false 4 (lM false (t.flat 0))]:=by simp[Fe,ht]
   have c0:cSl 4 [D.sl false 4 (lM false (t.flat 0))] 0=some (lM false (t.flat 0)):=rfl;have hfl:(lM true (jU (ts.take j) 0)).length=sizes (ts.take j):=by rw[nJ,oz]
   have hsh:M.tJ (lM false (t.flat 0)) ((sizes (ts.take j):Nat):Int)=some (lM true (t.flat (sizes (ts.take j)))):=by
    rw[aGk (t.flat 0) false _ (by rw[t.flat_length];omega) (λn hn=> ?_)]
    ·rw[t.aoH 0 (sizes (ts.take j))];congr 4<;>omega
    ·obtain⟨h1,h2⟩:=apL t n hn;refine⟨ak,λe he=> ?_⟩;have:=h2 e he;omega
   have hrl:(lM true (t.flat (sizes (ts.take j)))).length=t.size:=by rw[nJ,t.flat_length]
   have hel:(encI (ends (ts.take j) 0)).length=j:=by rw[eH,jr,zlt];omega
   rw[if_neg (show¬j+1=0 by omega),agU ht,aeu ht]
   by_cases h0:j=0
   ·subst h0;have hi:idx (Fe ts) 0=some [.sl false 4 (lM false (t.flat 0))]:=by have:=dn (Fe ts) 0;rw[MW] at this;rw[this,hr]
    rw[if_pos rfl];have z:sizes (ts.take 0)=0:=rfl;rw[z] at hsh hrl;have z2:(([]:ay).length:Int)=((0:Nat):Int):=rfl;simp only[yH,M.CQ,M.yt,hpl,hi,ah,c0,z2,hsh,hrl,List.nil_append,SS,Nat.zero_add];rw[zdt ak,aG,bC ak,aG,bC ak,aG,aS ak ak,aS ak ak];simp[encI,lM,jU,ends,sizes]
   ·rw[if_neg h0];simp only[yH,M.CQ,M.yt,hpl,dn,hr,ah,c0,hfl,hsh,hrl,hel,wM,GK];rw[zdt ak,aG,bC ak,aG,bC ak,aG,bC ak,aG,bC ak,aG,aS ak ak,aS ak ak,YN,Nat.zero_add];simp[encI])
  (by
   by_cases h0:ts=[]
   ·rw[if_pos (by rw[h0];rfl),if_pos h0];subst h0;rfl
   ·have h1:¬ts.length=0:=λe=>h0 (List.length_eq_zero_iff.1 e)
    rw[if_neg h1,if_neg h0,List.take_length];simp only[yH,M.CQ,M.yt,hpl];rw[vG ak,aQ]) 0 (Nat.zero_le _)
 rw[if_pos rfl] at hloop;rw[M.LQ,hloop,ah]
 by_cases h0:ts=[]
 ·rw[if_pos h0];subst h0;rfl
 ·rw[if_neg h0];simp only[jX,letE,Ez,aG,nJ,oz,GK];rw[bC ak,aG,bC ak,aG,Tn.flat,YN];rfl
def ai9:∀{ks:List Tn} {u:Tn},aix ks->u∈ks->sml u
 |[],_,_,h=>by cases h
 |t::ts,u,h,hu=>by
  rw[aix] at h;rcases List.mem_cons.1 hu with rfl|hu
  ·exact h.1
  ·exact ai9 h.2 hu
def aHe(l:List (aC))(h:∀g,g∈l->g.length<=9)(i:Nat):(l[i]?.getD []).length<=9:=by
 cases hx:l[i]? with
 |none=>simp
 |some g=>exact h g (WW hx)
def aSt:∀g,g∈Ve->g.length<=9:=by decide+kernel
def aSu:∀g,g∈vT->g.length<=9:=by decide+kernel
def X3(k:Int):(spell k).length<=9:=by
 unfold spell;split
 ·simp
 ·split
  ·exact aHe _ aSt _
  ·split
   ·exact aHe _ aSu _
   ·simp
def SmK(l:List Tk):Prop:=∀t,t∈l->t.text.length<=1048576
def abr:SmK []:=λt h=>by cases h
def yC{t:Tk}{l:List Tk}(h:t.text.length<=1048576)(hl:SmK l):SmK (t::l):=by
 intro u hu;rcases List.mem_cons.1 hu with rfl|hu
 ·exact h
 ·exact hl u hu
def QC{a b:List Tk}(ha:SmK a)(hb:SmK b):SmK (a++b):=by
 intro u hu;rcases List.mem_append.1 hu with hu|hu
 ·exact ha u hu
 ·exact hb u hu
def Nu(k:Int):(tok k).text.length<=1048576:=by have:=X3 k;show(spell k).length<=1048576;omega
def Ju{a b:List Tk}(c:Bool)(ha:SmK a)(hb:SmK b):SmK (bif c then a else b):=by cases c<;>assumption
def aB1:∀{L:List (List Tk)} (b:Bool),(∀l,l∈L->SmK l)->SmK (uX b L)
 |[],b,_=>by rw[uX];exact abr
 |x::l,b,h=>by have h1:=h x zmf;rw[uX];exact QC (Ju _ h1 (yC (Nu _) h1)) (aB1 false λl hl=>h l (zmm _ hl))
def aKy{L:List (List Tk)}(h:∀l,l∈L->SmK l)(j:Nat):SmK (IK L j):=by
 unfold IK;cases hx:L[j]? with
 |none=>exact abr
 |some l=>exact h l (WW hx)
def aKz{k op:Int}{n:Nat}{x:aC}{L:List (List Tk)}(hx:x.length<=1048576)(h:∀l,l∈L->SmK l):SmK (D8 k op n x L):=by
 have t1:∀z:Int,SmK [⟨z,x,0⟩]:=λz=>yC hx abr
 have t2:∀z:Int,SmK [tok z]:=λz=>yC (Nu z) abr
 have n1:=aKy h;have c1:=aB1 true h;unfold D8;refine Ju _ (t1 _) (Ju _ (t1 _) (Ju _ (t1 _) (Ju _ (t1 _) (Ju _ ?_ (Ju _ ?_ (Ju _ ?_ (Ju _ ?_ (Ju _ ?_ (Ju _ ?_ (Ju _ ?_ (Ju _ ?_ ?_)))))))))))
 ·exact yC hx (yC (Nu _) (QC c1 (t2 _)))
 ·exact yC hx (yC (Nu _) (QC c1 (t2 _)))
 ·exact yC hx (yC (Nu _) (QC c1 (t2 _)))
 ·exact yC (Nu _) (n1 _)
 ·exact yC (Nu _) (n1 _)
 ·exact QC (n1 _) (t2 _)
 ·exact QC (Ju _ (yC (Nu _) (QC c1 (t2 _))) (n1 _)) (yC (Nu _) (yC hx abr))
 ·exact QC (n1 _) (yC (Nu _) (QC (n1 _) (yC (Nu _) (n1 _))))
 ·exact QC (n1 _) (QC (Ju _ abr (t2 _)) (n1 _))
def awR{k op:Int}{n:Nat}{p:Ps}:∀{ts:List Tn} {j:Nat},(∀u,u∈ts->∀q,SmK (mV u q))->∀l,l∈fF k op n p ts j->SmK l
 |[],j,_,l,hl=>by rw[fF] at hl;cases hl
 |t::ts,j,h,l,hl=>by
  rw[fF] at hl;rcases List.mem_cons.1 hl with rfl|hl
  ·exact Ju _ (h t zmf _) (yC (Nu _) (QC (h t zmf _) (yC (Nu _) abr)))
  ·exact awR (λu hu=>h u (zmm _ hu)) l hl
def awS(t:Tn):sml t->∀p,SmK (mV t p):=by refine Tn.ind (P:=λt=>sml t->∀p,SmK (mV t p)) ?_ t;intro k op x y ks ih h p;rw[sml] at h;rw[mV];exact aKz h.1.1 (awR λu hu q=>ih u hu (ai9 h.2 hu) q)
def aKA{k op:Int}{n:Nat}{p:Ps}{j:Nat}{u:Tn}(h:sml u):SmK (Np k op n p j u):=
 Ju _ (awS u h _) (yC (Nu _) (QC (awS u h _) (yC (Nu _) abr)))
def aB2(t:Tn):Kz t->PW t->∀p,mV t p≠[]:=by
 refine Tn.ind (P:=λt=>Kz t->PW t->∀p,mV t p≠[]) ?_ t;intro k op x y ks ih hok he p;have hc:=Vg hok;have he':=he;simp only[PW,Tn.kind] at he';have ih':∀i u,ks[i]? =some u->∀q,mV u q≠[]:=λi u e q=>by obtain⟨h1,h2⟩:=abf hok he' e;exact ih u (WW e) h2 h1 q
 have kne:∀i u,ks[i]? =some u->Np k op ks.length p i u≠[]:=by
  intro i u e;unfold Np;cases(kM k i||fits u.kind u.op (aU k op ks.length i p)) with
  |true=>exact ih' i u e _
  |false=>simp
 rw[mV];have hk:k=1\/k=2\/k=3\/k=4\/k=5\/k=7\/k=8\/k=6\/k=9\/k=10\/k=11\/k=13\/k=14\/(k=12\/k=15):=ak;rcases hk with rfl|rfl|rfl|rfl|rfl|rfl|rfl|rfl|rfl|rfl|rfl|rfl|rfl|hk
 iterate 13 simp[D8]
 obtain⟨u,v,rfl⟩:=alo (hc.two ak);have h0:Np k op 2 p 0 u≠[]:=kne 0 u rfl;rcases hk with rfl|rfl
 ·rw[apx];simp[D8,IK,h0]
 ·rw[apx];simp[D8,IK,h0]
def aGl{k op:Int}{n:Nat}{p:Ps}{j:Nat}{u:Tn}(h1:Kz u)(h2:PW u):Np k op n p j u≠[]:=by
 unfold Np;cases(kM k j||fits u.kind u.op (aU k op n j p)) with
 |true=>exact aB2 u h1 h2 _
 |false=>simp
def an2:∀(L:List Tn) (b:Bool) (x:Tn),Qw b (L++[x])=Qw b L++(bif L.isEmpty && b then[x] else[GN [44],Wj,x])
 |[],b,x=>by cases b<;>simp[Qw]
 |y::L,b,x=>by rw[zca,Qw,Qw,an2 L false x];simp
def as1:∀(L:List Tn) (b:Bool),(Qw b L).length<=3 * L.length
 |[],b=>by simp[Qw]
 |y::L,b=>by have:=as1 L false;cases b<;>simp only[Qw,aG,aQ,wM,yS,SS]<;>omega
def psD(p:Ps)(ks:List Tn):List Tn:=ks.map λu=>P9 u p
def apM(p:Ps)(ks:List Tn):(psD p ks).length=ks.length:=by simp[psD]
def aB3(p:Ps)(ks:List Tn):akS p ks=XJ (psD p ks):=rfl
def ah5{n:Nat}(h:n<=8000000):n.ble 9223372036854775807=true:=bC ak
def alA(k op:Int)(n:Nat)(p:Ps)(u:Tn):nZ k op n p [u] 0=[Uj k op n p 0 u]:=by rw[nZ,nZ];rfl
def aB4(k op:Int)(n:Nat)(p:Ps)(u v:Tn):nZ k op n p [u,v] 0=[Uj k op n p 0 u,Uj k op n p 1 v]:=by rw[nZ,nZ,nZ];rfl
def aKB(k op:Int)(n:Nat)(p:Ps)(u v z:Tn):nZ k op n p [u,v,z] 0=[Uj k op n p 0 u,Uj k op n p 1 v,Uj k op n p 2 z]:=by rw[nZ,nZ,nZ,nZ];rfl
def alB{k op:Int}{n:Nat}{p:Ps}(ht:∀j,kM k j=false)(hq:∀j,j<n->aU k op n j p=.top):∀(ts:List Tn) (j:Nat),j+ts.length=n->nZ k op n p ts j=psD .top ts
 |[],j,_=>by rw[nZ];rfl
 |t::ts,j,hj=>by rw[yS] at hj;rw[nZ,hq j ak,ht j,alB ht hq ts (j+1) ak,Bool.false_or];rfl
def af9{k op:Int}{ks:List Tn}{p:Ps}(hp:jL p=true)(h:(lvl k op=15)\/(k=13/\Nat.blt 1 ks.length=true/\lvl k op≠0))(ht:∀j,kM k j=false):nZ k op ks.length p ks 0=psD .top ks:=by
 refine alB ht (λj hj=> ?_) ks 0 ak;rcases h with h|⟨h1,h2,h3⟩
 ·exact Gy hp hj h
 ·have hb:Nat.blt j ks.length=true:=by rw[Nat.blt_eq];exact hj
  have h4:(lvl k op==0)=false:=by simpa using h3
  subst h1;unfold aU;rw[hp,hb,h4,h2];simp
structure Ex'(u:Tn):Prop where
 ok:Kz u
 e:PW u
 sm:sml u
 sz:u.size<=1048576
def dE(t:Tn):ay:=lM true (t.flat 0)
def ayu(t:Tn):Row:=[D.sl true 4 (dE t)]
def GI(s:aC):M.eX s=some (dE (GN s)):=by simp[M.eX,M.OL,dE,GN,Tn.flat,jU,ends,lM,aiz,encI]
def avb:M.wV=some (dE Wj):=by simp[M.wV,M.OM,dE,Wj,Tn.flat,jU,ends,lM,aiz,encI]
def Nv(t:Tn):[[D.sl true 4 (dE t)]].all dw=true:=ayt _
def abJ(L:List Tn):aB (L.map ayu)=Fe L:=by
 induction L with
 |nil=>rfl
 |cons t L ih=>
  have h1:Fh (ayu t)=[D.sl false 4 (lM false (t.flat 0))]:=by simp[ayu,Fh,D.fz,dE]
  rw[zmc,aB,ih,h1];rfl
section
variable (a b c d e f g h:Tn)
def aKC:aB [[D.sl true 4 (dE a)]]=Fe [a]:=abJ [a]
def aB5:aB [[D.sl true 4 (dE a)],[D.sl true 4 (dE b)]]=Fe [a,b]:=abJ [a,b]
def ayv:aB [[D.sl true 4 (dE a)],[D.sl true 4 (dE b)],[D.sl true 4 (dE c)]]=Fe [a,b,c]:=abJ [a,b,c]
def aSv:aB [[D.sl true 4 (dE a)],[D.sl true 4 (dE b)],[D.sl true 4 (dE c)],[D.sl true 4 (dE d)]]=Fe [a,b,c,d]:=abJ [a,b,c,d]
def aZ6:aB [[D.sl true 4 (dE a)],[D.sl true 4 (dE b)],[D.sl true 4 (dE c)],[D.sl true 4 (dE d)],[D.sl true 4 (dE e)]]=Fe [a,b,c,d,e]:=abJ [a,b,c,d,e]
end
def Tq(ts:List Tn)(h:sizes ts<=90000000):M.eY 6 0 (Fe ts)=some (dE (D9 ts)):=ava 6 0 ts h
def avc(t:Tn)(h:sizes [t]<=90000000):M.eY 4 4 (Fe [t])=some (dE (adC t)):=ava 4 4 [t] h
def aB6(t:Tn)(h:sizes [t]<=90000000):M.eY 5 0 (Fe [t])=some (dE (ar1 t)):=ava 5 0 [t] h
def as2(p:Ps):∀ks:List Tn,sizes (psD p ks)+3 * ks.length<=16 * sizes ks
 |[]=>by simp[psD,sizes]
 |t::ts=>by have h1:=aeC t p;have h2:=as2 p ts;simp only[psD,zmc,sizes,yS] at h2|-;omega
def DS(t:Tn):Prop:=∀(o:Bool) (f:Nat) (p:Ps) (l:List Nd) (b:Nat),l.length<=1048576->Lies l b t->5 * t.size<=f->jL p=true->
 M.Jf f (dD o l) false ((b+sizes t.kids:Nat):Int) p.level p.yQ p.Ad p.Du p.ng=some (dE (zX t p))
def aB7{u:Tn}{o:Bool}{l:List Nd}{b:Nat}(h:Lies l b u):idx (dD o l) ((b+sizes u.kids:Nat):Int)=some (PO o ⟨u.kind,u.op,u.text,u.other,ends u.kids b⟩):=by rw[dn,mG,Lies.root' h];rfl
def aKD{u:Tn}(hS:DS u){o:Bool}{f:Nat}{p:Ps}{l:List Nd}{b:Nat}(hl:l.length<=1048576)(h:Lies l b u)(hf:5 * u.size+1<=f)(hp:jL p=true):
  M.uq f (dD o l) false ((b+sizes u.kids:Nat):Int) p.level p.yQ p.Ad p.Du p.ng=some (dE (P9 u p)):=by
 obtain⟨g,rfl⟩:∃g,f=g+1:=⟨f - 1,ak⟩
 have hlt:=h.lt;have h1:=hS o g p l b hl h ak hp;have h2:=hS o g .top l b hl h ak rfl;have hb:=Nj u .top;simp only[Ps.top] at h2 hb;rw[M.aoU];simp only[yH,M.JU,aB7 h,ah,Yk,YS,YT,YU,Vz,aAt u.kind u.op u.text u.other _ p,P9];cases fits u.kind u.op p with
 |true=>simp only[aG,h1,ah]
 |false=>
  have hs:sizes [GN [40],zX u ⟨1,false,false,false,false⟩,GN [41]]<=90000000:=by simp only[sizes,A8];omega
  simp only[aQ,GI,ahW,ah,h2,ayv,Tq _ hs,Nv,aG,Ps.top]
def aB8{ks:List Tn}(ih:∀u,u∈ks->DS u){o:Bool}{f:Nat}{p:Ps}(hp:jL p=true){l:List Nd}{b:Nat}(hl:l.length<=1048576)(hat:At l b ks)(hf:5 * sizes ks+2<=f)(hu:sizes ks<=1048575):
  M.Je f (dD o l) false (encI (ends ks b)) p.level p.yQ p.Ad p.Du p.ng=some (dE (akS p ks)):=by
 obtain⟨g,rfl⟩:∃g,f=g+1:=⟨f - 1,ak⟩
 have hkl:=BN ks;have hpz:=as2 p ks;have hcz:=agY (psD p ks) true;rw[apM] at hcz;have hloop:=vW (b:=M.Ig (M.uq g) (encI (ends ks b)) (dD o l) false p.level p.yQ p.Ad p.Du p.ng) (t:=((ks.length:Int),(Qw true (psD p ks)).map ayu)) (λj=>((j:Int),(Qw true (psD p (ks.take j))).map ayu)) ks.length
  (by
   intro j hj;obtain⟨u,hu'⟩:∃u,ks[j]? =some u:=⟨ks[j],by simp[hj]⟩
   have hus:=EC (WW hu');have ha:=aKD (ih u (WW hu')) (o:=o) (f:=g) (p:=p) hl (hat j u hu') ak hp;have hi:=RD (b:=b) hu';have hcl:=as1 (psD p (ks.take j)) true;rw[apM,zlt] at hcl;have hw:i64.wrap ((j:Int)+1)=((j+1:Nat):Int):=by rw[aS ak ak];omega
   have e:psD p (ks.take (j+1))=psD p (ks.take j)++[P9 u p]:=by rw[qW hu'];simp[psD]
   rw[e,an2];simp only[yH,M.Ig,M.CS,eH,jr,GI,avb,hi,Zq,ha,ah,wM,zaR,yS,SS,hw];rw[zdt ak,aG]
   by_cases h0:j=0
   ·subst h0;rw[vG ak,aQ,bC ak,aG,bC ak,aG];rfl
   ·have z:(psD p (ks.take j)).isEmpty=false:=by
     cases hq:psD p (ks.take j) with
     |nil=>have:=apM p (ks.take j);rw[hq,SS,zlt] at this;omega
     |cons _ _=>rfl
    rw[zdt ak,aG,bC ak,aG,bC ak,aG,bC ak,aG,bC ak,aG,z,Bool.false_and,aQ,List.map_append,Qc];rfl)
  (by simp only[yH,M.Ig,M.CS,eH,jr];rw[vG ak,aQ,List.take_length]) 0 (Nat.zero_le _)
 have MZ:M.LV (M.uq g) (encI (ends ks b)) (dD o l) false p.level p.yQ p.Ad p.Du p.ng (0,[])=some ((ks.length:Int),(Qw true (psD p ks)).map ayu):=hloop;have z1:sizes [D9 (Qw true (psD p ks))]<=90000000:=by simp only[sizes,YB];omega
 have z2:sizes [adC (D9 (Qw true (psD p ks)))]<=90000000:=by simp only[sizes,YB,afI];omega
 rw[M.akw];simp only[M.EP,MZ,ah,abJ,Tq _ (show sizes (Qw true (psD p ks))<=90000000 by omega),Nv,aG,aKC,avc _ z1,aB6 _ z2];rfl
def aga{ks:List Tn}(ih:∀u,u∈ks->DS u){o:Bool}{f:Nat}{l:List Nd}{b:Nat}{k op:Int}{x y:aC}{p:Ps}{j:Nat}{u:Tn}(he:1<=k/\k<=15)(hc:Cnt k op y ks.length)(hp:jL p=true)(hl:l.length<=1048576)(hat:At l b ks)(hf:5 * sizes ks+1<=f)(hu:sizes ks<=1048575)(hj:ks[j]? =some u)(ht:kM k j=false):
  (idx (encI (ends ks b)) (j:Int)=some [D.int .i64 ((b+sizes (ks.take j)+sizes u.kids:Nat):Int)]/\
   M.fQ k op x y (encI (ends ks b)) (j:Int) p.level p.yQ p.Ad p.Du p.ng=some (aU k op ks.length j p).Kv/\
   M.uq f (dD o l) false ((b+sizes (ks.take j)+sizes u.kids:Nat):Int) (aU k op ks.length j p).Kv.1 (aU k op ks.length j p).Kv.2.1 (aU k op ks.length j p).Kv.2.2.1 (aU k op ks.length j p).Kv.2.2.2.1 (aU k op ks.length j p).Kv.2.2.2.2=some (dE (Uj k op ks.length p j u)))/\(Uj k op ks.length p j u).size+3<=16 * u.size:=by
 have hkl:=BN ks;have hus:=EC (WW hj);have hjl:j<ks.length:=(NV.1 hj).1;have hen:(encI (ends ks b)).length=ks.length:=by rw[eH,jr]
 have hlv:lvl k op≠0:=by have:=Ui he hc;omega
 refine⟨⟨RD hj, ?_, ?_⟩,anE (Nj u)⟩
 ·have h:=abm (x:=x) (r:=encI (ends ks b)) (j:=j) (p:=p) he (by rw[hen];exact hc) ak ak;rw[hen] at h;exact h
 ·have h:=aKD (ih u (WW hj)) (o:=o) (f:=f) (p:=aU k op ks.length j p) hl (hat j u hj) ak (jF hp hjl hlv);rw[Uj,ht,Bool.false_or];exact h
def apN{ks:List Tn}(ih:∀u,u∈ks->DS u){o:Bool}{f:Nat}{l:List Nd}{b:Nat}(hl:l.length<=1048576)(hat:At l b ks)(hf:5 * sizes ks+3<=f)(hu:sizes ks<=1048575)(k op:Int)(x y:aC)(hx:x.length<=1048576)(c d:UInt8):
  M.L6 f (dD o l) false k op x y (encI (ends ks b)) [c] [d]=some (dE (D9 [GN (x++[c]),akS .top ks,GN [d]])):=by
 obtain⟨g,rfl⟩:∃g,f=g+1:=⟨f - 1,ak⟩
 have h1:=aB8 ih (o:=o) (f:=g) (p:=.top) rfl (b:=b) hl hat ak hu;have h2:=ak1 .top ks;simp only[Ps.top] at h1 h2;have hs:sizes [GN (x++[c]),akS ⟨1,false,false,false,false⟩ ks,GN [d]]<=90000000:=by simp only[sizes,A8];omega
 rw[M.ais];simp(disch:=omega) only[M.BH,yS,SS,ah5,aG,GI,ahW,h1,ah,ayv,Tq _ hs,Nv,Ps.top]
def alC{u:Tn}(hS:DS u)(hok:Kz u)(he:PW u)(hh:13<=lvl u.kind u.op){o:Bool}{f:Nat}{l:List Nd}{b:Nat}(hl:l.length<=1048576)(h:Lies l b u)(hf:5 * u.size+1<=f)(p:Ps)(hp:jL p=true):
  M.JV f (dD o l) false ((b+sizes u.kids:Nat):Int)=some (dE (zX u p)):=by
 obtain⟨g,rfl⟩:∃g,f=g+1:=⟨f - 1,ak⟩
 have h1:=hS o g ⟨14,false,false,false,false⟩ l b hl h ak rfl;rw[aui u hok hh he _ p rfl hp] at h1;rw[M.agO];simp only[M.zZ,h1,ah]
def aSw{ks:List Tn}(ih:∀u,u∈ks->DS u){o:Bool}{f:Nat}{l:List Nd}{b:Nat}{op:Int}{x y:aC}{p:Ps}(hc:Cnt 12 op y ks.length)(hp:jL p=true)(hl:l.length<=1048576)(hat:At l b ks)(hf:5 * sizes ks+2<=f)(hu:sizes ks<=1048575)(gp:Bool):
  M.Rk f (dD o l) false 12 op x y (encI (ends ks b)) p.level p.yQ p.Ad p.Du p.ng=some (dE (abZ 12 op ks.length x gp (nZ 12 op ks.length p ks 0))):=by
 obtain⟨g,rfl⟩:∃g,f=g+1:=⟨f - 1,ak⟩
 rw[M.al0];obtain⟨u,v,rfl⟩:=alo (hc.two ak);have hsz:=sz2 u v;have hI:=awz (hc.bin rfl).1;have hsl:=X3 op;obtain⟨⟨a1,a2,a3⟩,a4⟩:=aga ih (o:=o) (f:=g) (b:=b) (k:=12) (op:=op) (x:=x) (y:=y) (p:=p) (j:=0) (u:=u) ak hc hp hl hat ak hu rfl (abn 12 ak 0);obtain⟨⟨b1,b2,b3⟩,b4⟩:=aga ih (o:=o) (f:=g) (b:=b) (k:=12) (op:=op) (x:=x) (y:=y) (p:=p) (j:=1) (u:=v) ak hc hp hl hat ak hu rfl (abn 12 ak 1);rw[MW] at a1 a2;rw[ayh] at b1 b2;rw[aB4];generalize (aU 12 op [u,v].length 0 p).Kv=q0 at a2 a3;generalize Uj 12 op [u,v].length p 0 u=K0 at a3 a4|-;generalize (aU 12 op [u,v].length 1 p).Kv=q1 at b2 b3;generalize Uj 12 op [u,v].length p 1 v=K1 at b3 b4|-
 by_cases h99:op=99
 ·subst h99;have hs:sizes [K0,GN [32],K1]<=90000000:=by simp only[sizes,A8];omega
  simp only[M.xq,M.Ap,a1,a2,a3,b1,b2,b3,Zq,ah,Int.reduceBEq,aG,aQ,GI,ayv,Tq _ hs,Nv];rfl
 ·have e1:(op==99)=false:=by simpa using h99
  have hs:sizes [K0,GN ([32]++spell op),Wj,K1]<=90000000:=by simp only[sizes,A8,abj];omega
  have z1:sizes [D9 [K0,GN ([32]++spell op),Wj,K1]]<=90000000:=by simp only[sizes,A8,abj,YB];omega
  have z2:sizes [adC (D9 [K0,GN ([32]++spell op),Wj,K1])]<=90000000:=by simp only[sizes,A8,abj,YB,afI];omega
  by_cases h45:op=45
  ·subst h45;simp(disch:=omega) only[M.xq,M.Ap,a1,a2,a3,b1,b2,b3,Zq,ah,Int.reduceBEq,aG,aQ,(DZ 45 hI).1,GI,avb,aSv,aKC,Tq _ hs,avc _ z1,aB6 _ z2,Nv,ah5];rfl
  ·have e2:(op==45)=false:=by simpa using h45
   by_cases h44:op=44
   ·subst h44;simp(disch:=omega) only[M.xq,M.Ap,a1,a2,a3,b1,b2,b3,Zq,ah,Int.reduceBEq,aG,aQ,(DZ 44 hI).1,GI,avb,aSv,aKC,Tq _ hs,avc _ z1,aB6 _ z2,Nv,ah5];rfl
   ·have e3:(op==44)=false:=by simpa using h44
    have hs3:sizes [K0,GN ([32]++spell op++[32]),K1]<=90000000:=by simp only[sizes,A8];omega
    simp(disch:=omega) only[M.xq,M.Ap,a1,a2,a3,b1,b2,b3,Zq,ah,e1,e2,e3,aG,aQ,(DZ op hI).1,wM,yS,SS,GI,ayv,Tq _ hs3,Nv,ah5];simp[abZ,e1,e2,e3,Pv]
set_option maxHeartbeats 4000000 in
def avd(t:Tn):Kz t->PW t->sml t->t.size<=1048576->DS t:=by
 refine Tn.ind (P:=λt=>Kz t->PW t->sml t->t.size<=1048576->DS t) ?_ t;intro k op x y ks ih hok he hsm hsz;intro o f p l b hl h hf hp;have aZ4:=h;simp only[PW,Tn.kind] at he;have hc:=Vg hok;rw[sml] at hsm;obtain⟨⟨hx,hy⟩,hss⟩:=hsm;rw[Tn.size] at hsz hf;have hkE:∀u,u∈ks->Kz u/\PW u/\sml u:=by intro u hu;obtain⟨i,hi⟩:=List.mem_iff_getElem?.1 hu;obtain⟨h1,h2⟩:=abf hok he hi;exact⟨h2,h1,ai9 hss hu⟩
 have ih':∀u,u∈ks->DS u:=by intro u hu;obtain⟨h1,h2,h3⟩:=hkE u hu;have:=EC hu;exact ih u hu h1 h2 h3 ak
 have hat:At l b ks:=λj u hj=>Lies.aes h hj
 obtain⟨g,rfl⟩:∃g,f=g+1:=⟨f - 1,ak⟩
 have hr:idx (dD o l) ((b+sizes ks:Nat):Int)=some (PO o ⟨k,op,x,y,ends ks b⟩):=by have hr0:l[b+sizes ks]? =some ⟨k,op,x,y,ends ks b⟩:=Lies.root' h;rw[dn,mG,hr0];rfl
 have hkl:=BN ks;have tgt:∀{u:Tn},ks[0]? =some u->cls k op ks.length 0=6->Kz u/\PW u/\13<=lvl u.kind u.op:=by intro u hu hcls;obtain⟨h1,h2⟩:=abf hok he hu;obtain⟨h3,_⟩:=agV hok hu;rw[hcls] at h3;exact⟨h2,h1,(ao3 h3).1⟩
 rw[M.akx,Tn.kids];have hk:k=1\/k=2\/k=3\/k=4\/k=5\/k=7\/k=8\/k=6\/k=9\/k=10\/k=11\/k=13\/k=15\/k=12\/k=14:=ak;rw[zX];rcases hk with rfl|rfl|rfl|rfl|rfl|rfl|rfl|rfl|rfl|rfl|rfl|rfl|rfl|rfl|rfl
 ·simp only[yH,M.gW,M.gq,hr,ah,Yk,YS,YT,YU,Vz,M.cZ,M.bW,Int.reduceBEq,Int.reduceBNe,aG,aQ,GI];rfl
 ·simp only[yH,M.gW,M.gq,hr,ah,Yk,YS,YT,YU,Vz,M.cZ,M.bW,Int.reduceBEq,Int.reduceBNe,aG,aQ,GI];rfl
 ·simp only[yH,M.gW,M.gq,hr,ah,Yk,YS,YT,YU,Vz,M.cZ,M.bW,Int.reduceBEq,Int.reduceBNe,aG,aQ,GI];rfl
 ·simp only[yH,M.gW,M.gq,hr,ah,Yk,YS,YT,YU,Vz,M.cZ,M.bW,Int.reduceBEq,Int.reduceBNe,aG,aQ,GI];rfl
 ·have a1:=apN ih' (o:=o) (f:=g) (b:=b) hl hat ak ak 5 op x y hx 91 93;rw[af9 hp (.inl rfl) (λj=>by simp[kM])];simp only[yH,M.gW,M.gq,hr,ah,Yk,YS,YT,YU,Vz,M.cZ,M.bW,Int.reduceBEq,Int.reduceBNe,aG,aQ,a1];rfl
 ·have a1:=apN ih' (o:=o) (f:=g) (b:=b) hl hat ak ak 7 op x y hx 40 41;rw[af9 hp (.inl rfl) (λj=>by simp[kM])];simp only[yH,M.gW,M.gq,hr,ah,Yk,YS,YT,YU,Vz,M.cZ,M.bW,Int.reduceBEq,Int.reduceBNe,aG,aQ,a1];rfl
 ·have a1:=apN ih' (o:=o) (f:=g) (b:=b) hl hat ak ak 8 op x y hx 40 41;rw[af9 hp (.inl rfl) (λj=>by simp[kM])];simp only[yH,M.gW,M.gq,hr,ah,Yk,YS,YT,YU,Vz,M.cZ,M.bW,Int.reduceBEq,Int.reduceBNe,aG,aQ,a1];rfl
 ·obtain⟨u,rfl⟩:=zlo.1 (hc.one ak);have hs1:=sz1 u;obtain⟨⟨a1,a2,a3⟩,a4⟩:=aga ih' (o:=o) (f:=g) (b:=b) (k:=6) (op:=op) (x:=x) (y:=y) (p:=p) (j:=0) (u:=u) ak hc hp hl hat ak ak rfl (abn 6 ak 0);rw[MW] at a1 a2;rw[alA];generalize (aU 6 op [u].length 0 p).Kv=q0 at a2 a3;generalize Uj 6 op [u].length p 0 u=K0 at a3 a4|-;have hs:sizes [GN [36],K0]<=90000000:=by simp only[sizes,A8];omega
  simp only[yH,M.gW,M.gq,hr,ah,Yk,YS,YT,YU,Vz,M.cZ,M.bW,Int.reduceBEq,Int.reduceBNe,aG,aQ,a1,a2,a3,Zq,GI,aB5,Tq _ hs,Nv];rfl
 ·obtain⟨u,rfl⟩:=zlo.1 (hc.one ak);have hs1:=sz1 u;have hI:I64 op:=by rcases hc.stp ak with rfl|rfl<;>constructor<;>decide
  have a1:=RD (ks:=[u]) (b:=b) (j:=0) (u:=u) rfl;obtain⟨t1,t2,t3⟩:=tgt (u:=u) rfl (by simp[cls]);have a3:=alC (ih' u (by simp)) t1 t2 t3 (o:=o) (f:=g) (p:=aU 9 op [u].length 0 p) hl (hat 0 u rfl) ak (jF hp (by simp) (by simp[lvl]));have a4:=Nj u (aU 9 op [u].length 0 p);rw[MW] at a1;rw[alA,Uj,show kM 9 0=true from rfl,Bool.true_or,aG];generalize zX u (aU 9 op [u].length 0 p)=K0 at a3 a4|-;have hs:sizes [GN (spell op),K0]<=90000000:=by simp only[sizes,A8];omega
  simp only[yH,M.gW,M.gq,hr,ah,Yk,YS,YT,YU,Vz,M.cZ,M.bW,Int.reduceBEq,Int.reduceBNe,aG,aQ,a1,a3,(DZ op hI).1,Zq,GI,aB5,Tq _ hs,Nv];rfl
 ·obtain⟨u,rfl⟩:=zlo.1 (hc.one ak);have hs1:=sz1 u;have hI:I64 op:=by rcases hc.stp ak with rfl|rfl<;>constructor<;>decide
  have a1:=RD (ks:=[u]) (b:=b) (j:=0) (u:=u) rfl;obtain⟨t1,t2,t3⟩:=tgt (u:=u) rfl (by simp[cls]);have a3:=alC (ih' u (by simp)) t1 t2 t3 (o:=o) (f:=g) (p:=aU 10 op [u].length 0 p) hl (hat 0 u rfl) ak (jF hp (by simp) (by simp[lvl]));have a4:=Nj u (aU 10 op [u].length 0 p);rw[MW] at a1;rw[alA,Uj,show kM 10 0=true from rfl,Bool.true_or,aG];generalize zX u (aU 10 op [u].length 0 p)=K0 at a3 a4|-;have hs:sizes [K0,GN (spell op)]<=90000000:=by simp only[sizes,A8];omega
  simp only[yH,M.gW,M.gq,hr,ah,Yk,YS,YT,YU,Vz,M.cZ,M.bW,Int.reduceBEq,Int.reduceBNe,aG,aQ,a1,a3,(DZ op hI).1,Zq,GI,aB5,Tq _ hs,Nv];rfl
 ·obtain⟨u,rfl⟩:=zlo.1 (hc.one ak);have hs1:=sz1 u;obtain⟨u1,u2,u3⟩:=hkE u (by simp);have hI:I64 op:=by rcases hc.una ak with rfl|rfl|rfl<;>constructor<;>decide
  have ihS:∀v,v∈[u]->PS v:=by intro v hv;rw[List.mem_singleton.1 hv];exact ayi u u1 u2 ak
  obtain⟨⟨a1,a2,a3⟩,a4⟩:=aga ih' (o:=o) (f:=g) (b:=b) (k:=11) (op:=op) (x:=x) (y:=y) (p:=p) (j:=0) (u:=u) ak hc hp hl hat ak ak rfl (abn 11 ak 0);obtain⟨⟨c1,c2,c3⟩,c4⟩:=adF ihS (o:=o) (f:=5 * sizes [u]+1) (b:=b) (k:=11) (op:=op) (x:=x) (y:=y) (p:=p) (j:=0) (u:=u) ak hc hp hl hat ak ak rfl (abn 11 ak 0);have c3':=M.alX c3;rw[MW] at a1 a2;rw[alA,ahb];have hne:=aGl (k:=11) (op:=op) (n:=[u].length) (p:=p) (j:=0) u1 u2;have aSx:=aKA (k:=11) (op:=op) (n:=[u].length) (p:=p) (j:=0) u3;clear c3 c2;generalize (aU 11 op [u].length 0 p).Kv=q0 at a2 a3 c3';generalize Uj 11 op [u].length p 0 u=K0 at a3 a4|-;generalize Np 11 op [u].length p 0 u=K at hne aSx c3'|-;cases K with
  |nil=>exact absurd rfl hne
  |cons t0 K=>
   have hsl:=X3 op;have hg:M.wW op (spell op) 0 t0.kind t0.text t0.at_=some (AZ (tok op) t0):=agW (tok op) t0 (by show(spell op).length<=_;omega) (by have:=aSx t0 zmf;omega);have i0:idx (aF (t0::K)) 0=some (alP t0):=rfl;have i1:(aF (t0::K))[0]? =some (alP t0):=rfl;have hs:sizes [GN (spell op),K0]<=90000000:=by simp only[sizes,A8];omega
   have hs2:sizes [GN (spell op++[32]),K0]<=90000000:=by simp only[sizes,A8];omega
   have ha:abZ 11 op [u].length x (ar2 op [t0::K]) [K0]=D9 [GN (bif AZ (tok op) t0 then spell op++[32] else spell op),K0]:=rfl;rw[ha];simp(disch:=omega) only[yH,M.gW,M.gq,hr,ah,Yk,YS,YT,YU,Vz,M.cZ,M.bW,Int.reduceBEq,Int.reduceBNe,aG,aQ,a1,a2,a3,c3',i0,i1,cT0,cT1,cT2,hg,(DZ op hI).1,Jq op hI,Zq,GI,aB5,Tq _ hs,Tq _ hs2,Nv,ah5];cases AZ (tok op) t0<;>rfl
 ·obtain⟨u,hu⟩:∃u,ks[0]? =some u:=by have:=hc.some_ ak;exact⟨ks[0],by simp⟩
  obtain⟨⟨a1,a2,a3⟩,a4⟩:=aga ih' (o:=o) (f:=g) (b:=b) (k:=13) (op:=op) (x:=x) (y:=y) (p:=p) (j:=0) (u:=u) ak hc hp hl hat ak ak hu (abn 13 ak 0);have hus:=EC (WW hu);rw[MW] at a1 a2;have hel:(encI (ends ks b)).length=ks.length:=by rw[eH,jr]
  cases hm:Nat.blt 1 ks.length with
  |true=>
   have b1:=aB8 ih' (o:=o) (f:=g) (p:=.top) rfl (b:=b) hl hat ak ak;have b2:=ak1 .top ks;simp only[Ps.top] at b1 b2;have e1:((ks.length:Int)==1)=false:=by rw[Nat.blt_eq] at hm;rw[mX];omega
   have hs:sizes [GN [40],akS ⟨1,false,false,false,false⟩ ks,GN ([41,32,105,110,32]++x)]<=90000000:=by simp only[sizes,A8];omega
   rw[af9 hp (.inr ⟨rfl,hm,by simp[lvl]⟩) (λj=>by simp[kM])];simp(disch:=omega) only[yH,M.gW,M.gq,hr,ah,Yk,YS,YT,YU,Vz,M.cZ,M.bW,Int.reduceBEq,Int.reduceBNe,aG,aQ,hel,e1,GI,ahW,b1,ayv,Tq _ hs,Nv,ah5];simp[abZ,hm,aB3,Ps.top]
  |false=>
   have h1:ks.length=1:=by
    have h2:=hc.some_ ak;have h3:¬1<ks.length:=by rw[<-Nat.blt_eq,hm];simp
    omega
   obtain⟨u',rfl⟩:=zlo.1 h1;obtain rfl:u'=u:=by simpa using hu
   rw[alA];have e1:(([u'].length:Int)==1)=true:=rfl;generalize (aU 13 op [u'].length 0 p).Kv=q0 at a2 a3;generalize Uj 13 op [u'].length p 0 u'=K0 at a3 a4|-;have hs:sizes [K0,GN ([32,105,110,32]++x)]<=90000000:=by simp only[sizes,A8];omega
   simp(disch:=omega) only[yH,M.gW,M.gq,hr,ah,Yk,YS,YT,YU,Vz,M.cZ,M.bW,Int.reduceBEq,Int.reduceBNe,aG,aQ,hel,e1,a1,a2,a3,Zq,GI,aB5,Tq _ hs,Nv,ah5];rfl
 ·obtain⟨u,v,rfl⟩:=alo (hc.two ak);have hsv:=sz2 u v;have hI:I64 op:=by rcases hc.asg rfl with rfl|h<;>constructor<;>omega
  have hsl:=X3 op;have a1:=RD (ks:=[u,v]) (b:=b) (j:=0) (u:=u) rfl;obtain⟨t1,t2,t3⟩:=tgt (u:=u) rfl (by simp[cls]);have a3:=alC (ih' u (by simp)) t1 t2 t3 (o:=o) (f:=g) (p:=aU 15 op [u,v].length 0 p) hl (hat 0 u rfl) ak (jF hp (by simp) (by simp[lvl]));have a4:=Nj u (aU 15 op [u,v].length 0 p);obtain⟨⟨b1,b2,b3⟩,b4⟩:=aga ih' (o:=o) (f:=g) (b:=b) (k:=15) (op:=op) (x:=x) (y:=y) (p:=p) (j:=1) (u:=v) ak hc hp hl hat ak ak rfl rfl;rw[MW] at a1;rw[ayh] at b1 b2;rw[aB4]
  conv=>rhs;rw[Uj,show kM 15 0=true from rfl,Bool.true_or,aG]
  generalize zX u (aU 15 op [u,v].length 0 p)=K0 at a3 a4|-;generalize (aU 15 op [u,v].length 1 p).Kv=q1 at b2 b3;generalize Uj 15 op [u,v].length p 1 v=K1 at b3 b4|-;have hs3:sizes [K0,GN ([32]++spell op++[32]),K1]<=90000000:=by simp only[sizes,A8];omega
  simp(disch:=omega) only[yH,M.gW,M.gq,hr,ah,Yk,YS,YT,YU,Vz,M.cZ,M.bW,Int.reduceBEq,Int.reduceBNe,aG,aQ,a1,a3,b1,b2,b3,(DZ op hI).1,Zq,wM,yS,SS,GI,ayv,Tq _ hs3,Nv,ah5];simp[abZ,Pv]
 ·have a1:=aSw ih' (o:=o) (f:=g) (b:=b) (op:=op) (x:=x) (y:=y) (p:=p) hc hp hl hat ak ak (ar2 op (fF 12 op ks.length p ks 0));simp only[yH,M.gW,M.gq,hr,ah,Yk,YS,YT,YU,Vz,M.cZ,M.bW,Int.reduceBEq,Int.reduceBNe,aG,aQ,a1]
 ·obtain⟨u,v,z,rfl⟩:=asK (hc.three rfl);have hsz3:=sz3 u v z;obtain⟨⟨a1,a2,a3⟩,a4⟩:=aga ih' (o:=o) (f:=g) (b:=b) (k:=14) (op:=op) (x:=x) (y:=y) (p:=p) (j:=0) (u:=u) ak hc hp hl hat ak ak rfl (abn 14 ak 0);obtain⟨⟨b1,b2,b3⟩,b4⟩:=aga ih' (o:=o) (f:=g) (b:=b) (k:=14) (op:=op) (x:=x) (y:=y) (p:=p) (j:=1) (u:=v) ak hc hp hl hat ak ak rfl (abn 14 ak 1);obtain⟨⟨c1,c2,c3⟩,c4⟩:=aga ih' (o:=o) (f:=g) (b:=b) (k:=14) (op:=op) (x:=x) (y:=y) (p:=p) (j:=2) (u:=z) ak hc hp hl hat ak ak rfl (abn 14 ak 2);rw[MW] at a1 a2;rw[ayh] at b1 b2;rw[aSi] at c1 c2;rw[aKB];generalize (aU 14 op [u,v,z].length 0 p).Kv=q0 at a2 a3;generalize Uj 14 op [u,v,z].length p 0 u=K0 at a3 a4|-;generalize (aU 14 op [u,v,z].length 1 p).Kv=q1 at b2 b3;generalize Uj 14 op [u,v,z].length p 1 v=K1 at b3 b4|-;generalize (aU 14 op [u,v,z].length 2 p).Kv=q2 at c2 c3;generalize Uj 14 op [u,v,z].length p 2 z=K2 at c3 c4|-;have hs:sizes [K0,GN [32,63,32],K1,GN [32,58,32],K2]<=90000000:=by simp only[sizes,A8];omega
  simp only[yH,M.gW,M.gq,hr,ah,Yk,YS,YT,YU,Vz,M.cZ,M.bW,Int.reduceBEq,Int.reduceBNe,aG,aQ,a1,a2,a3,b1,b2,b3,c1,c2,c3,Zq,GI,aZ6,Tq _ hs,Nv];rfl
section
variable {o:Bool} {l:List Nd} {b:Nat} (hl:l.length<=1048576)
include hl
theorem aZ7{u:Tn}(h:Ex' u)(hh:Lies l b u){p:Ps}(hp:jL p=true):M.qo (dD o l) false ((b+sizes u.kids:Nat):Int) p.level p.yQ p.Ad p.Du p.ng=some (dE (P9 u p)):=
 M.al1 (aKD (avd u h.ok h.e h.sm h.sz) (f:=5 * u.size+1) hl hh (zaQ _) hp)
end
def len_eq(n c:Nat):((n:Int)==(c:Int))=Nat.beq n c:=by rw[Bool.eq_iff_iff,beq_iff_eq,Nat.beq_eq];omega
def aSy(n:Nat):((n:Int)==0)=Nat.beq n 0:=len_eq n 0
def aSz(n:Nat):((n:Int)==1)=Nat.beq n 1:=len_eq n 1
def as3{P:Int->Prop}(h1:P 1)(h2:P 2)(h3:P 3)(h4:P 4)(h5:P 5)(h6:P 6)(h:∀k,k≠1->k≠2->k≠3->k≠4->k≠5->k≠6->P k)(k:Int):P k:=by
 by_cases e1:k=1
 ·rwa [e1]
 by_cases e2:k=2
 ·rwa [e2]
 by_cases e3:k=3
 ·rwa [e3]
 by_cases e4:k=4
 ·rwa [e4]
 by_cases e5:k=5
 ·rwa [e5]
 by_cases e6:k=6
 ·rwa [e6]
 exact h k e1 e2 e3 e4 e5 e6
def aiA(k n:Int)(x:aC)(rows:ay)(hx:x.length<=1000000000):M.BU k n x rows=some (aut k n x rows.length):=by
 simp only[M.BU,M.OU,M.BJ,arQ x hx,ah,Yt,aut,aSy,aSz];generalize hasB 10 x=hb;generalize (x==[])=xe;generalize Nat.beq rows.length 0=c0;generalize Nat.beq rows.length 1=c1;generalize (decide (0<=n) && decide (n<=40))=r
 by_cases hn:n=0
 ·subst hn;revert k;refine as3 ?_ ?_ ?_ ?_ ?_ ?_ (λk e1 e2 e3 e4 e5 e6=> ?_)
  case refine_7=>rw[<-bne_iff_ne] at e1 e4;simp only[mX.2 e2,mX.2 e3,mX.2 e5,mX.2 e6,e1,e4,mX.2 (bne_iff_ne.1 e1),mX.2 (bne_iff_ne.1 e4)];cases xe<;>rfl
  all_goals cases xe<;>cases hb<;>cases r<;>rfl
 ·have hn':(n==0)=false:=mX.2 hn;have hn2:(n !=0)=true:=bne_iff_ne.2 hn;revert k;refine as3 ?_ ?_ ?_ ?_ ?_ ?_ (λk e1 e2 e3 e4 e5 e6=> ?_)
  case refine_7=>rw[<-bne_iff_ne] at e1 e4;simp only[hn',hn2,mX.2 e2,mX.2 e3,mX.2 e5,mX.2 e6,e1,e4,mX.2 (bne_iff_ne.1 e1),mX.2 (bne_iff_ne.1 e4)];cases xe<;>rfl
  all_goals simp only[hn',hn2];cases xe<;>cases hb<;>cases r<;>rfl
def abt(l:List Nd)(o:Bool){i:Nat}{n:Nd}{st:List Int}(hi:l[i]? =some n)(hl:l.length<=90000000)(hst:abM st)(hs:st.length=i):
  ∀(j:Nat) (a:Int),j<=n.kids.length->n.kids.length<=90000000->0<=a->a<=i->M.uw (lM o l) (i:Int) (encI st) (a,(j:Int) - 1)=some (match jv st (n.kids.take j).reverse (a - 1) with
   |none=> .inl ()
   |some r=> .inr (r+1, -1))
 |0,a,hj,hk,h0,h1=>by rw[M.uw];apply aT;simp only[M.Ee,M.yY];rw[vG ak,aQ,List.take_zero,List.reverse_nil,jv];simp
 |j+1,a,hj,hkl,h0,h1=>by
  have hlt:i<l.length:=(NV.1 hi).1;obtain⟨k,hk⟩:∃k,n.kids[j]? =some k:=⟨n.kids[j]'ak,by simp⟩
  have ht:(n.kids.take (j+1)).reverse=k::(n.kids.take j).reverse:=by rw[List.take_add_one,hk,Option.toList_some,List.reverse_append];rfl
  rw[ht,jv];have e1:(((j+1:Nat):Int) - 1)=(j:Int):=ak;rw[e1];have hstep:M.Ee (lM o l) (i:Int) (encI st) (a,(j:Int))=if a - 1<0\/k≠a - 1 then some (.inr (.inl ())) else some (.inl (st[k.toNat]?.getD 0,(j:Int) - 1)):=by
   simp only[M.Ee,M.yY,dn,Hu,hi,Nw,ah,cD3,Ey,hk,Zq];rw[zdt ak,aG,aS (n:=a - 1) ak ak]
   by_cases h2:k=a - 1
   ·have:(k !=a - 1)=false:=by simp[h2]
    rw[this,aQ]
    by_cases h3:a=0
    ·have:(a==0)=true:=by simp[h3]
     rw[this,aG,if_pos (.inl ak)]
    ·have:(a==0)=false:=by simp[h3]
     rw[this,aQ,if_neg ak];obtain⟨d,hd⟩:∃d:Nat,a - 1=(d:Int):=⟨(a - 1).toNat,ak⟩
     have hdl:d<st.length:=ak;rw[h2,hd];simp only[aj1,dn,Ey,Zt];rw[List.getElem?_eq_getElem hdl];simp only[Nw,ah,Zq,Option.getD_some];rw[aS ak ak]
   ·have:(k !=a - 1)=true:=by simp[h2]
    rw[this,aG,if_pos (.inr h2)]
  by_cases hc:a - 1<0\/k≠a - 1
  ·rw[if_pos hc];rw[if_pos hc] at hstep;exact aT hstep
  ·rw[if_neg hc];rw[if_neg hc] at hstep;rw[M.uw,cu hstep];have hz:=Xo hst k.toNat;have:=abt l o hi hl hst hs j (st[k.toNat]?.getD 0) ak hkl hz.1 ak;rw[M.uw] at this;exact this
def Zd(l:List Nd)(o:Bool)(hl:l.length<=90000000)(hk:∀n,n∈l->n.kids.length<=90000000):∀(rest:List Nd) (i:Nat) (st:List Int),l.drop i=rest->st.length=i->i<=l.length->abM st->
  M.uy (lM o l) ((i:Int),encI st)=some (match mY st (ks rest) with
   |none=> .inl ()
   |some r=> .inr ((l.length:Int),encI r))
 |[],i,st,hd,hs,hi,hst=>by have:l.length<=i:=List.drop_eq_nil_iff.1 hd;rw[M.uy];apply aT;simp only[yH,M.Ef,M.yZ,nJ];rw[vG ak,aQ];have:i=l.length:=ak;subst this;rfl
 |n::rest,i,st,hd,hs,hi,hst=>by
  have hn:l[i]? =some n:=by
   have:(l.drop i)[0]? =some n:=by rw[hd];rfl
   simpa using this
  have hlt:i<l.length:=(NV.1 hn).1;have hd':l.drop (i+1)=rest:=by rw[<-List.drop_drop,hd];rfl
  have hkn:=hk n (WW hn);have hin:=abt l o hn hl hst hs n.kids.length (i:Int) (zaQ _) hkn ak ak;rw[List.take_length] at hin;have hks:ks (n::rest)=n.kids::ks rest:=rfl;rw[hks,mY,hs];have hstep:M.Ef (lM o l) ((i:Int),encI st)=some (match jv st n.kids.reverse ((i:Int) - 1) with
    |none=> .inr (.inl ())
    |some a=> .inl (((i+1:Nat):Int),encI (st++[a+1]))):=by
   simp only[yH,M.Ef,M.yZ,nJ,dn,Hu,hn,Nw,ah,cD3,eH];rw[zdt ak,aG,aS (n:=(n.kids.length:Int) - 1) ak ak,hin];cases hw:jv st n.kids.reverse ((i:Int) - 1) with
   |none=>rfl
   |some a=>simp only[ah,jX,letE,GK];rw[bC ak,aG,bC ak,aG,aS ak ak];simp[encI]
  cases hw:jv st n.kids.reverse ((i:Int) - 1) with
  |none=>rw[hw] at hstep;exact aT hstep
  |some a=>rw[hw] at hstep;rw[M.uy,cu hstep];have hr:=Qn hst _ _ _ ak ak hw;have:=Zd l o hl hk rest (i+1) (st++[a+1]) hd' (by simp[hs]) hlt (Xq hst hr.1 hr.2);rw[M.uy] at this;exact this
def aGm(n:Nd):Bool:=aut n.kind n.op n.text n.kids.length
mutual
def as4:∀(t:Tn) (b:Nat),(t.flat b).all aGm=(dOk t)
 | .mk k o x y ks,b=>by rw[Tn.flat,List.all_append,an3 ks b,dOk];simp[aGm,jr]
def an3:∀(ks:List Tn) (b:Nat),(jU ks b).all aGm=axW ks
 |[],_=>rfl
 |t::ts,b=>by rw[jU,List.all_append,as4 t b,an3 ts _,axW]
end
def as5{α:Type}(f:α->Bool):∀(l:List α) (i:Nat),Yu (λ_ x=>f x) l i=l.all f
 |[],_=>rfl
 |x::l,i=>by rw[Yu,as5 f l,List.all_cons]
section
variable {t:Tn} {o:Bool} (h:t.size<=90000000)
include h
theorem ave:(t.flat 0).length<=90000000/\∀n,n∈t.flat 0->n.kids.length<=90000000:=
 ⟨by rw[t.flat_length];exact h,λn hn=>by have:=(Uu t 0 n hn).1;omega⟩
theorem aB9:∃q:Nat,(t.size:Int) - 1=(q:Int)/\(t.sts 0)[q]? =some 0:=by obtain⟨u,hu,hul⟩:=t.afc 0;have hp:=t.size_pos;refine⟨u.length,ak, ?_⟩;rw[hu,List.getElem?_append_right (zaQ _),Nat.sub_self];rfl
theorem agb:M.xF (lM o (t.flat 0))=some (encI (t.sts 0),true):=by obtain⟨h1,h2⟩:=ave h;have hout:=Zd (t.flat 0) o h1 h2 (t.flat 0) 0 [] rfl rfl (Nat.zero_le _) ZU;rw[MW,ZT] at hout;have e0:encI []=[]:=rfl;rw[e0] at hout;simp only[M.xF,M.JW,hout,ah,jX,letE,Ez,aG]
theorem adH(hx:∀n,n∈t.flat 0->n.text.length<=1000000000):M.I7 (lM o (t.flat 0))=some ((dOk t) && decide (t.size<=4000)):=by
 have hp:=t.size_pos;simp only[M.I7,M.Ue,Yt,ah,nJ,t.flat_length]
 by_cases hs:t.size<=4000
 ·have hl:=akP (t.flat 0) (λ_ n=>aGm n) (b:=M.L8 (lM o (t.flat 0)))
   (λi n hi=>by have hil:=(NV.1 hi).1;have hxn:=hx n (WW hi);rw[t.flat_length] at hil;simp only[M.L8,M.G7,nJ,t.flat_length,dn,Hu,hi,Nw,ah,cD0,cD1,cD2,cD3,aiA _ _ n.text _ ak,eH];rw[zdt ak,aG,aS ak ak];change _=some (bif aut n.kind n.op n.text n.kids.length then _ else _);cases aut n.kind n.op n.text n.kids.length<;>rfl)
   (by simp only[M.L8,M.G7,nJ];rw[vG ak,aQ])
  rw[as5,as4] at hl;rw[zdt (show(1:Int)<=t.size by omega),zdt (show(t.size:Int)<=4000 by omega),Bool.true_and,zaP,aQ,M.Rn,hl,ah,zdt hs,Bool.and_true];cases hd:(dOk t) with
  |false=>rfl
  |true=>obtain⟨q,hq1,hq2⟩:=aB9 h;simp only[aG,jX,letE,agb (o:=o) h,ah];rw[aS ak ak,hq1];simp only[dn,Ey,hq2,Nw,ah,Zq,Zt];rfl
 ·rw[vG (show¬(t.size:Int)<=4000 by omega),Bool.and_false,Bool.not_false,aG,vG hs,Bool.and_false]
end
def bytesOf_map:∀s:aC,bytesOf (s.map byteRow)=some s
 |[]=>rfl
 |c::s=>by
  have h:asByte (byteRow c)=some c:=by simp only[byteRow,asByte];simp
  rw[zmc,bytesOf,h,bytesOf_map s]
def flR(o:Option (aC)):aC×Bool:=match o with
 |some s=>(s,true)
 |none=>([],false)
mutual
def tsm:Tn->Prop
 | .mk _ _ x _ ks=>x.length<=1000000000/\QD ks
def QD:List Tn->Prop
 |[]=>True
 |t::ts=>tsm t/\QD ts
end
mutual
def alD:∀(t:Tn) (b:Nat),tsm t->∀n,n∈t.flat b->n.text.length<=1000000000
 | .mk k o x y ks,b,h,n,hn=>by
  rw[tsm] at h;rw[Tn.flat] at hn;rcases List.mem_append.1 hn with hn|hn
  ·exact an4 ks b h.2 n hn
  ·simp only[List.mem_singleton] at hn;subst hn;exact h.1
def an4:∀(ks:List Tn) (b:Nat),QD ks->∀n,n∈jU ks b->n.text.length<=1000000000
 |[],b,_,n,hn=>by simp[jU] at hn
 |t::ts,b,h,n,hn=>by
  rw[QD] at h;rw[jU] at hn;rcases List.mem_append.1 hn with hn|hn
  ·exact alD t b h.1 n hn
  ·exact an4 ts _ h.2 n hn
end
def alE(s:aC):tsm (GN s)↔s.length<=1000000000:=by simp[GN,tsm,QD]
def as6:tsm Wj:=by simp[Wj,tsm,QD]
def as7(d:Tn):tsm (adC d)↔tsm d:=by simp[adC,tsm,QD]
def awT(d:Tn):tsm (ar1 d)↔tsm d:=by simp[ar1,tsm,QD]
def apO(l:List Tn):tsm (D9 l)↔QD l:=by simp[D9,tsm]
def as8:∀l:List Tn,QD l↔∀t,t∈l->tsm t
 |[]=>by simp[QD]
 |t::ts=>by simp[QD,as8 ts]
def as9(a b:List Tn):QD (a++b)↔QD a/\QD b:=by simp only[as8,List.mem_append];exact⟨λh=>⟨λt ht=>h t (.inl ht),λt ht=>h t (.inr ht)⟩,λh t ht=>ht.elim (h.1 t) (h.2 t)⟩
def II{a b:Tn}(c:Bool)(ha:tsm a)(hb:tsm b):tsm (bif c then a else b):=by cases c<;>assumption
def aCa{a b:List Tn}(c:Bool)(ha:QD a)(hb:QD b):QD (bif c then a else b):=by cases c<;>assumption
def ata:∀(L:List Tn) (b:Bool),QD L->QD (Qw b L)
 |[],b,_=>by simp[Qw,QD]
 |x::l,b,h=>by rw[QD] at h;rw[Qw,as9];exact⟨aCa _ ⟨h.1,trivial⟩ ⟨by simp[alE],as6,h.1,trivial⟩,ata l false h.2⟩
def ayw{L:List Tn}(h:QD L):tsm (XJ L):=by rw[XJ,awT,as7,apO];exact ata L true h
def agc:∀{L:List Tn} (j:Nat),QD L->tsm (Pv L j)
 |[],j,_=>by simp[Pv,alE]
 |x::l,0,h=>h.1
 |x::l,j+1,h=>agc (L:=l) j h.2
def aCb(k op:Int)(n:Nat){x:aC}(g:Bool){L:List Tn}(hx:x.length<=1048576)(h:QD L):tsm (abZ k op n x g L):=by
 have hs:=X3 op;have h0:=agc 0 h;have h1:=agc 1 h;have h2:=agc 2 h;have hl:=ayw h;unfold abZ;refine II _ ?_ (II _ ?_ (II _ ?_ (II _ ?_ (II _ ?_ (II _ ?_ (II _ ?_ (II _ ?_ (II _ (II _ ?_ ?_) (II _ ?_ (II _ ?_ ?_))))))))))
 all_goals simp only[apO,awT,as7,QD,alE,h0,h1,h2,hl,as6,true_and,and_true,wM,yS,SS]
 all_goals first
  |omega
  |(cases g<;>simp only[aG,aQ,wM,yS,SS]<;>omega)
def an5{a:Tn}(h:tsm a):tsm (D9 [GN [40],a,GN [41]]):=by rw[apO];exact⟨by simp[alE],h,by simp[alE],trivial⟩
def an6(k op:Int)(n:Nat)(p:Ps):∀(ts:List Tn) (j:Nat),(∀u,u∈ts->∀q,tsm (zX u q))->QD (nZ k op n p ts j)
 |[],j,_=>by rw[nZ];trivial
 |t::ts,j,h=>by rw[nZ];exact⟨II _ (h t zmf _) (an5 (h t zmf _)),an6 k op n p ts (j+1) λu hu=>h u (zmm _ hu)⟩
def an7(t:Tn):sml t->∀q,tsm (zX t q):=by refine Tn.ind (P:=λt=>sml t->∀q,tsm (zX t q)) ?_ t;intro k op x y ks ih hs q;rw[sml] at hs;rw[zX];exact aCb _ _ _ _ hs.1.1 (an6 _ _ _ _ _ _ λu hu=>ih u hu (ai9 hs.2 hu))
def ayx{t:Tn}(h:sml t)(q:Ps):tsm (P9 t q):=II _ (an7 t h q) (an5 (an7 t h _))
def flL:List Nd->Option (aC)
 |[]=>some []
 |n::l=>bif n.kind==1 then(flL l).map (n.text++ ·) else bif n.kind==2 then(flL l).map ([32]++ ·) else bif n.kind==3 then none else flL l
def two(a b:Option (aC)):Option (aC):=match a with
 |none=>none
 |some x=>match b with
  |none=>none
  |some y=>some (x++y)
def aGn(a:Option (aC)):two a (some [])=a:=by cases a<;>simp[two]
def apP:∀a b:List Nd,flL (a++b)=two (flL a) (flL b)
 |[],b=>by rw[List.nil_append,flL];cases flL b<;>rfl
 |n::a,b=>by
  rw[zca,flL,flL,apP a b];cases n.kind==1 with
  |true=>cases flL a<;>cases flL b<;>simp[two]
  |false=>
  cases n.kind==2 with
  |true=>cases flL a<;>cases flL b<;>simp[two]
  |false=>
  cases n.kind==3 with
  |true=>rfl
  |false=>rfl
mutual
def atb:∀(t:Tn) (b:Nat),dOk t=true->flL (t.flat b)=Qa t
 | .mk k n x y ks,b,h=>by
  rw[dOk,rZ] at h;have hk:=an8 ks b h.1;rw[Tn.flat,apP,hk,Qa];simp only[flL];have hd:=h.2;unfold aut at hd;have key:∀(e:ks.length=0),Jr ks=some []:=λe=>by rw[List.eq_nil_of_length_eq_zero e];rfl
  cases h0:(!(k==4) && !(n==0))||(!(k==1) && !(x==[])) with
  |true=>rw[h0,aG] at hd;cases hd
  |false=>
  rw[h0,aQ] at hd;cases h1:k==1 with
  |true=>rw[h1,aG,rZ] at hd;rw[key (Dy hd.2)];simp[two]
  |false=>
  rw[h1,aQ] at hd;cases h2:k==2 with
  |true=>rw[h2,Bool.true_or,aG] at hd;rw[key (Dy hd)];simp[two]
  |false=>
  rw[h2,Bool.false_or] at hd;cases h3:k==3 with
  |true=>rw[h3,aG] at hd;rw[key (Dy hd)];rfl
  |false=>simp only[aQ];rw[aGn]
def an8:∀(ks:List Tn) (b:Nat),axW ks=true->flL (jU ks b)=Jr ks
 |[],b,_=>rfl
 |t::ts,b,h=>by rw[axW,rZ] at h;rw[jU,apP,atb t b h.1,an8 ts _ h.2,Jr];rfl
end
def tL:List Nd->Nat
 |[]=>0
 |n::l=>n.text.length+1+tL l
def aHf:∀l:List Nd,(∀n,n∈l->n.text.length<=1000000000)->tL l<=1000000001 * l.length
 |[],_=>by simp[tL]
 |n::l,h=>by
  have h1:=h n zmf;have h2:=aHf l λm hm=>h m (zmm _ hm)
  rw[tL,yS,Nat.mul_add];omega
def an9{L:List Nd}{o:Bool}(hL:L.length<=1000000):∀(l:List Nd) (i:Nat) (acc:aC),L.drop i=l->i+l.length=L.length->acc.length+tL l<=20000000000000->
  M.mP (lM o L) ((i:Int),acc.map byteRow)=(match flL l with
   |none=>some (.inl ())
   |some s=>some (.inr ((L.length:Int),(acc++s).map byteRow)))
 |[],i,acc,hd,hi,_=>by rw[M.mP];refine aT ?_;simp only[M.rJ,M.o7,nJ];rw[SS] at hi;rw[vG ak,aQ,List.append_nil,show i=L.length by omega]
 |n::l,i,acc,hd,hi,hb=>by
  rw[yS] at hi;rw[tL] at hb;have hn:L[i]? =some n:=by have:=congrArg (λx=>x[0]?) hd;simpa using this
  have hd':L.drop (i+1)=l:=by have:=congrArg (λx=>x.drop 1) hd;simpa using this
  have hw:i64.wrap ((i:Int)+1)=((i+1:Nat):Int):=by rw[aS ak ak];omega
  have hin:((i:Int)<(L.length:Int)):=ak;have step:∀(s:aC),s.length<=n.text.length+1->M.rJ (lM o L) ((i:Int),acc.map byteRow)=some (.inl (((i+1:Nat):Int),(acc++s).map byteRow))->
    M.mP (lM o L) ((i:Int),acc.map byteRow)=(match(flL l).map (s++ ·) with
     |none=>some (.inl ())
     |some s=>some (.inr ((L.length:Int),(acc++s).map byteRow))):=by
   intro s hs hb';have:=an9 (o:=o) hL l (i+1) (acc++s) hd' ak (by rw[wM];omega);rw[M.mP] at this;rw[M.mP,cu hb',this];cases flL l with
   |none=>rfl
   |some x=>simp only[Nw,Qc]
  rw[flL];cases h1:n.kind==1 with
  |true=>rw[aG];refine step n.text ak ?_;simp only[M.rJ,M.o7,nJ,dn,Hu,hn,Nw,ah,cD0,cD2,h1,aG,zaR,hw];rw[zdt hin,aG,bC ak,aG,bC ak,aG,List.map_append]
  |false=>
  rw[aQ];cases h2:n.kind==2 with
  |true=>rw[aG];refine step [32] (by simp) ?_;simp only[M.rJ,M.o7,nJ,dn,Hu,hn,Nw,ah,cD0,cD2,h1,h2,aG,aQ,zaR,hw];rw[zdt hin,aG,bC ak,aG,bC ak,aG,List.map_append];rfl
  |false=>
  rw[aQ];cases h3:n.kind==3 with
  |true=>rw[aG,M.mP];refine aT ?_;simp only[M.rJ,M.o7,nJ,dn,Hu,hn,Nw,ah,cD0,h1,h2,h3,aG,aQ];rw[zdt hin,aG]
  |false=>rw[aQ];have h:=step [] (by simp) (by simp only[M.rJ,M.o7,nJ,dn,Hu,hn,Nw,ah,cD0,h1,h2,h3,aQ,hw,List.append_nil];rw[zdt hin,aG]);rw[h];cases flL l<;>rfl
def atc{t:Tn}{o:Bool}(hd:dOk t=true)(hz:t.size<=4000)(hx:tsm t):M.tN (lM o (t.flat 0))=some (flR (Qa t)):=by
 have hxx:=alD t 0 hx;have hf:=atb t 0 hd;have ht:=aHf _ hxx;rw[t.flat_length] at ht;have h:=an9 (o:=o) (L:=t.flat 0) (by rw[t.flat_length];omega) (t.flat 0) 0 [] rfl ak (by simp only[SS];omega);rw[hf] at h;have h0:M.mP (lM o (t.flat 0)) (0,[])=M.mP (lM o (t.flat 0)) (((0:Nat):Int),([]:aC).map byteRow):=rfl;simp only[M.tN,M.G8,adH (t:=t) ak hxx,ah,hd,Bool.true_and];rw[zdt hz,h0,h];cases Qa t with
 |none=>rfl
 |some s=>simp only[zaP,aQ,ah,jX,letE,List.nil_append,bytesOf_map];rfl
def aCc{s:Cu}(h:Zp s)(p:Nat):∃(a:Int) (b c d e:Bool) (q:Nat),M.I4 (cS s p).1 (cS s p).2.1 (cS s p).2.2=some (a,b,c,d,e,cS s q):=by have e15:=nC h p 15 ak ak;have o1:=RF h (p+1) 4 ak ak;have o2:=RF h (p+1+1) 4 ak ak;have o3:=RF h (p+1+1+1) 4 ak ak;have e12:=nC h (p+1+1+1+1) 12 ak ak;have epk:=PL h (p+1+1+1+1+1) [[D.int .i64 0],[D.int .i64 16],[D.int .i64 (-1)]] (by decide);rw[show((15:Nat):Int)=15 from rfl] at e15;rw[show((4:Nat):Int)=4 from rfl] at o1 o2 o3;rw[show((12:Nat):Int)=12 from rfl] at e12;simp only[M.I4,M.TW,e15,o1,o2,o3,e12,epk,ah];generalize ((s.g (p+1+1+1+1) % 12:Nat):Int)=z;cases z==0<;>cases z==1<;>cases z==2<;>cases z==3<;>cases z==4<;>cases z==5<;>exact⟨_,_,_,_,_,_,rfl⟩
def ayy(c:aC)(hc:c.length<=1048576):∃(l:List Nd) (r:Int×Bool×Bool×Bool×Bool),M.qC (c.map byteRow)=some (false,dD false l,r)/\Bt l:=by
 obtain⟨h,e⟩:=aKw c hc;have hc':=aKx hc h;have eo:=RF hc' 0 10 ak ak;rw[show((10:Nat):Int)=10 from rfl] at eo;have eo':M.jh 10 (c.map byteRow) 0 h=_:=eo;obtain⟨l,o,q,hd,hl⟩:∃(l:List Nd) (o:Bool×Bool) (q:Nat),M.BQ (c.map byteRow) 0 h=some (o.1,dD o.2 l,cS ⟨c,0,h⟩ q)/\Bt l:=by
  simp only[M.BQ,M.Ox,eo',ah];cases(Cu.g ⟨c,0,h⟩ 0 % 10==0) with
  |true=>obtain⟨b,o,l,q,f,hl⟩:=ayq hc' 1;rw[aG,show 0+1=1 from rfl,f,ah];simp only[Oc];exact⟨l,(false,false),q,rfl,hl⟩
  |false=>obtain⟨t,q,f,z,i⟩:=apH hc' 1;rw[aQ,show 0+1=1 from rfl,f,ah];exact⟨t.flat 0,(true,true),q,rfl,apI ak i⟩
 obtain⟨a,b,cc,d,ee,q',hp⟩:=aCc hc' q;refine⟨l,(a,b,cc,d,ee), ?_,hl⟩;simp only[M.qC,M.Ec,M.vX,M.FY,e,ah,hd,hp,Oc]
def awU{n:Nd}(h:aBN n):Small n:=by obtain⟨⟨_,_⟩,⟨_,_⟩,h3,h4⟩:=h;unfold Ns at h3 h4;constructor<;>omega
def aKE{l:List Nd}(hb:Bt l):∃x,M.zN (dD false l) 1 false false false false=some x/\(x=[]\/∃T:Tn,l=T.flat 0/\KH (T.flat 0)=true/\PW T/\Qa (P9 T .top)=some x):=by
 have hS:∀n,n∈l->Small n:=λn hn=>awU (hb.all n hn).fine
 have hl:=hb.len;have hk:∀n,n∈l->n.kids.length<=1048576:=λn hn=>by have:=(hb.all n hn).kids;omega
 have a1:=abd l false ak hk hS;have p1:M.vY 1 false false false false=some true:=rfl;have f0:M.tN []=some ([],false):=rfl;simp only[M.zN,M.L9,M.FW,M.OT,M.I5,M.Rf,a1,ah];cases pa:KH l with
 |false=>exact⟨[],by simp only[aQ,Bool.not_false,aG,ah,aB,List.map_nil,f0],.inl rfl⟩
 |true=>
  obtain⟨T,rfl,hTs⟩:=atS (apK pa);have hT:T.size<=1048576:=by rw[T.flat_length] at hl;omega
  have hT4:T.size<=400:=hTs;have hsm:=(ai6 T 0).2 hS;have hr:=aB7 (o:=false) (Lies.whole T);have hen:i64.wrap (((dD false (T.flat 0)).length:Int) - 1)=((0+sizes T.kids:Nat):Int):=by have:=T.aby;rw[fP,T.flat_length,aS ak ak];omega
  simp only[aG,hen,hr,ah,Yk,uU];cases hs:akM T.kind with
  |false=>exact⟨[],by simp only[Bool.not_false,aG,ah,aB,List.map_nil,f0],.inl rfl⟩
  |true=>
   have hE:PW T:=by unfold akM at hs;rw[rZ,decide_eq_true_eq,decide_eq_true_eq] at hs;exact hs
   have hX:Ex' T:=⟨(ak3 pa hS hE).1,hE,hsm,hT⟩
   have h1:M.qo (dD false (T.flat 0)) false ((0+sizes T.kids:Nat):Int) 1 false false false false=some (dE (P9 T .top)):=aZ7 (o:=false) (by rw[T.flat_length];omega) hX (Lies.whole T) (p:=.top) rfl;have hz2:=aeC T .top;have htx:=ayx hsm .top;simp only[zaP,aQ,p1,h1,ah,dE,aB0];cases hd:dOk (P9 T .top) && decide ((P9 T .top).size<=4000) with
   |true=>
    rw[rZ,decide_eq_true_eq] at hd;rw[atc hd.1 hd.2 htx,ah];cases hx:Qa (P9 T .top) with
    |none=>exact⟨[],rfl,.inl rfl⟩
    |some x=>exact⟨x,rfl,.inr ⟨T,rfl,pa,hE,hx⟩⟩
   |false=>refine⟨[], ?_,.inl rfl⟩;have hxx:=alD _ 0 htx;simp only[M.tN,M.G8,adH (t:=P9 T .top) ak hxx,ah,hd];rfl
abbrev aHg:ay:=[[D.str [105,102,32,40,120,41,32]],[D.str [119,104,105,108,101,32,40,120,41,32]],[D.str [102,111,114,32,40,59,59,41,32]],[D.str [102,111,114,32,40,107,32,105,110,32,97,41,32]]]
def aCd(k:Nat)(hk:k<4):∃s:aC,idx aHg (k:Int)=some [D.str s]/\aHg[k]? =some [D.str s]/\s.length<=14/\[66,69,71,73,78,32,123]++s=spl (Js k)++[32]:=by have:k=0\/k=1\/k=2\/k=3:=ak;rcases this with rfl|rfl|rfl|rfl<;>exact⟨_,rfl,rfl,by decide,by decide+kernel⟩
def aZ8(c:aC):∃a:Nat,M.VP (c.map byteRow) 0=some (a:Int):=by
 simp only[M.VP,M.abz,zaR];cases c with
 |nil=>exact⟨0,rfl⟩
 |cons b r=>refine⟨b.toNat, ?_⟩;rw[zdt (by simp),aG];have hb:=b.toNat_lt;have e1:idx (List.map byteRow (b::r)) 0=some (byteRow b):=rfl;have e2:jR .u8 (byteRow b) 0=some (b.toNat:Int):=rfl;rw[e1,ah,e2,ah,aS ak ak]
def aGo{k:Int}{t:aC}(h0:t≠[])(hc:TkC k t)(h5:k=5):rY t=47:=by
 cases hc with
 |ere he=>exact Vo h0 (aeE h0 he).1
 |_=>omega
def aGp{b:Tk}{y:UInt8}{ys w:aC}(hb:iR b.kind b.text=true)(h:b.text++w=y::ys)(hy:((y.toNat:Int)==47)=false):b.kind≠5:=by
 intro h5;obtain⟨h0,hc⟩:=NP hb;have hf:=aGo h0 hc h5;cases ht:b.text with
 |nil=>exact h0 ht
 |cons z zs=>rw[ht] at h hf;simp only[zca,List.cons.injEq] at h;rw[<-h.1] at hy;have:(z.toNat:Int)=47:=hf;rw[this] at hy;cases hy
def avf(c:aC):M.DN (c.map byteRow)=some true:=by
 simp only[M.DN,M.MI,M.UN,M.Yl,ah,zaR]
 by_cases hc:c.length<=1048576
 ·rw[vG ak,aQ];obtain⟨l,r,hd,hb⟩:=ayy c hc;obtain⟨x,hx,hor⟩:=aKE hb;simp only[hd,ah,Oc,ahW,hx];rcases hor with rfl|⟨T,rfl,pa,hE,hf⟩
  ·rfl
  cases x with
  |nil=>rfl
  |cons y ys=>
  have hS:∀n,n∈T.flat 0->Small n:=λn hn=>awU (hb.all n hn).fine
  have hz:T.size<=380:=by
   rcases hb.lim with h|⟨U,h⟩
   ·rw[T.flat_length] at h;omega
   ·rcases aBY h with⟨h,_⟩|h
    ·omega
    ·exact h.elim
  obtain⟨hok,hrt⟩:=ak3 pa hS hE;have hsm:=(ai6 T 0).2 hS;have hdp:=Y6 (T.flat 0) false (by rw[T.flat_length];omega) (λn hn=>by have:=(hb.all n hn).kids;omega);rw[anW ak] at hdp;simp only[show((y::ys)==([]:aC))=false from rfl,aQ,hdp,ah]
  by_cases h5:(y::ys).length<=500
  ·rw[vG ak,aQ]
   by_cases h30:T.depth<=30
   ·rw[vG ak,aQ,show idx (y::ys) 0=some y from rfl,ah];cases hy:((y.toNat:Int)==47) with
    |true=>rfl
    |false=>
     obtain⟨a,ha⟩:=aZ8 c;obtain⟨s,s1,s2,s3,s4⟩:=aCd (a % 4) (Nat.mod_lt _ ak);have hm:(a:Int).tmod 4=((a % 4:Nat):Int):=rfl;obtain⟨b,R,hp,_⟩:=aFb hok hE (aSm T hok hrt hE) (p:=.top) rfl;have htx:y::ys=b.text++spl R:=by have:=hp.txt;rw[hf] at this;simpa[spl] using this
     have hb5:=aGp hp.ok htx.symm hy;have hl2:=congrArg List.length s4;simp only[wM,yS,SS] at hl2 h5;have eA:[66,69,71,73,78,32,123]++s++(y::ys)++[125]=spl (Uk (a % 4) 0 b R):=by rw[s4,htx,Uk,Dv,Dv,Dv,show spl (inG 0 b)=[32]++b.text from by simp[inG,spl],show spl (apn 0)=[125] from by decide+kernel];simp only[Qc]
     have eB:[66,69,71,73,78,32,123]++s++[123]++(y::ys)++[125,125]=spl (Uk (a % 4) 1 b R):=by rw[s4,htx,Uk,Dv,Dv,Dv,show spl (inG 1 b)=[32]++([123]++b.text) from by simp only[inG,spl,List.append_nil,List.nil_append];rfl,show spl (apn 1)=[125,125] from by decide+kernel];simp only[Qc]
     have eC:[66,69,71,73,78,32,123]++s++[123,10]++(y::ys)++[59,10,125,10,125,10]=spl (Uk (a % 4) 2 b R):=by rw[s4,htx,Uk,Dv,Dv,Dv,show spl (inG 2 b)=[32]++([123,10]++b.text) from by simp only[inG,spl,List.append_nil,List.nil_append];rfl,show spl (apn 2)=[59,10,125,10,125,10] from by decide+kernel];simp only[Qc]
     have rA:=aeK hp hb5 hok hrt hE hsm hz h30 (a % 4) 0 (by rw[<-eA];simp only[wM,yS,SS];omega);have rB:=aeK hp hb5 hok hrt hE hsm hz h30 (a % 4) 1 (by rw[<-eB];simp only[wM,yS,SS];omega);have rC:=aeK hp hb5 hok hrt hE hsm hz h30 (a % 4) 2 (by rw[<-eC];simp only[wM,yS,SS];omega);have hsz:=anV (a % 4) T;have hfl:((Ky (a % 4) T).flat 0).length<=1048576:=by rw[Tn.flat_length];omega
     have hfk:∀n,n∈(Ky (a % 4) T).flat 0->n.kids.length<=1048576:=λn hn=>by have:=(Uu _ 0 n hn).1;omega
     have hpS:=(ai6 (Ky (a % 4) T) 0).1 (asQ (a % 4) hsm);have q1:=ays _ hfl hfk;have q2:=af2 _ false hfl hfk hpS;have q3:XW ((Ky (a % 4) T).flat 0)=true:=aF7 rA.2;rw[q3] at q2;simp only[ha,ah,hm,s1,Zt,s2,show cStr [D.str s] 0=some s from rfl,eA,eB,eC,rA.1,rB.1,rC.1,Oc,q1,q2,wM,yS,SS]
     iterate 9 rw[bC ak,aG]
     rfl
   ·rw[zdt ak,aG]
  ·rw[zdt ak,aG]
 ·rw[zdt ak,aG]
end Go.Proofs.YtephpnbbbimjbaaGreatDoor
namespace Go.Proofs
open Go.Shelf
def Tryz.lays137_ren:Go.Shelf.Ren:=⟨fun|137=>90|217=>132|266=>169|n=>n,fun|9=>9|5=>5|3=>3|n=>n,fun|n=>n⟩
def Tryz.lays137:Go.Proofs.Lays.n137 Tryz.prog Tryz.lays137_ren:={
 mixed:=by kernel_rfl
 f137:=Tryz.func90.trans (congrArg some (by kernel_rfl))
 f217:=Tryz.func132.trans (congrArg some (by kernel_rfl))
 f266:=Tryz.func169.trans (congrArg some (by kernel_rfl))
 t3:=Tryz.underlying3
 a3:=Tryz.isAgg3
 z3:=Tryz.sizeOf3
 v3:=Tryz.zeroValue3
 t5:=Tryz.underlying5
 a5:=Tryz.isAgg5
 z5:=Tryz.sizeOf5
 v5:=Tryz.zeroValue5
 t9:=Tryz.underlying9
 a9:=Tryz.isAgg9
 z9:=Tryz.sizeOf9
 v9:=Tryz.zeroValue9}
def Tryz.lays144_ren:Go.Shelf.Ren:=⟨fun|144=>139|143=>173|219=>184|217=>132|225=>189|224=>190|267=>191|266=>169|314=>207|n=>n,fun|9=>9|4=>4|3=>3|5=>5|46=>132|146=>160|51=>159|n=>n,fun|1=>3|n=>n⟩
def Tryz.lays144:Go.Proofs.Lays.n144 Tryz.prog Tryz.lays144_ren:={
 mixed:=by kernel_rfl
 f143:=Tryz.func173.trans (congrArg some (by kernel_rfl))
 f144:=Tryz.func139.trans (congrArg some (by kernel_rfl))
 f217:=Tryz.func132.trans (congrArg some (by kernel_rfl))
 f219:=Tryz.func184.trans (congrArg some (by kernel_rfl))
 f224:=Tryz.func190.trans (congrArg some (by kernel_rfl))
 f225:=Tryz.func189.trans (congrArg some (by kernel_rfl))
 f266:=Tryz.func169.trans (congrArg some (by kernel_rfl))
 f267:=Tryz.func191.trans (congrArg some (by kernel_rfl))
 f314:=Tryz.func207.trans (congrArg some (by kernel_rfl))
 t3:=Tryz.underlying3
 a3:=Tryz.isAgg3
 z3:=Tryz.sizeOf3
 v3:=Tryz.zeroValue3
 t4:=Tryz.underlying4
 a4:=Tryz.isAgg4
 z4:=Tryz.sizeOf4
 v4:=Tryz.zeroValue4
 t5:=Tryz.underlying5
 a5:=Tryz.isAgg5
 z5:=Tryz.sizeOf5
 v5:=Tryz.zeroValue5
 t9:=Tryz.underlying9
 a9:=Tryz.isAgg9
 z9:=Tryz.sizeOf9
 v9:=Tryz.zeroValue9
 t46:=Tryz.underlying132
 a46:=Tryz.isAgg132
 z46:=Tryz.sizeOf132
 v46:=Tryz.zeroValue132
 t51:=Tryz.underlying159
 a51:=Tryz.isAgg159
 z51:=Tryz.sizeOf159
 v51:=Tryz.zeroValue159
 t146:=Tryz.underlying160
 a146:=Tryz.isAgg160
 z146:=Tryz.sizeOf160
 v146:=Tryz.zeroValue160
 g1:=by kernel_rfl}
open Go.RowKit in
def Tryz.strings_IndexByte(s:ByteArray)(c:Int)(w:World):
  Calls Tryz.prog 90 #[.string s,.int .u8 c] w λe w'=>e=.returned (.int .i64 (Lib.indexByte s.data.toList c.toNat.toUInt8))/\w'=w:=Any.strings_IndexByte Tryz.lays137 s c w
open Go.RowKit Go.Lib in
def Tryz.strings_Contains_one(s:ByteArray)(c:UInt8)(w:World):
  Calls Tryz.prog 139 #[.string s,.string ⟨#[c]⟩] w λe w'=>e=.returned (.bool (decide (0<=Lib.indexByte s.data.toList c)))/\w'=w:=Any.strings_Contains_one Tryz.lays144 s c w
end Go.Proofs
namespace Go.Proofs.YtephpnbbbimjbaaGreatDoor
open Go Go.Vm
def aiB{X:Ctx}(hP:X.P=Tryz.prog)(hm:∀i,i<2->NY X.TA 139 i=0)(fn:Func)(args:List V)(cells:List Cell)(rows:ay)(outs:List Cell)(hf:X.P.funcs[139]? =some fn)(h:Prim.strings_Contains args cells=some (rows,outs))
  (base:Nat) (U:Nat->Prop) (w:World) (gargs mF:List Value) (N1 N2:List Nat) (hG:Given X base U w 139 args cells gargs mF N1 N2):
  Calls X.P 139 gargs.toArray w λe w'=>∃gs M1 M2,e=.returned (ah7 gs)/\Did X.P U w w' (N1++N2) fn.resultTypes.toList cells outs mF rows gs M1 M2:=by
 unfold Prim.strings_Contains at h;split at h
 ·rename_i s t;unfold M.strings_Contains at h;split at h
  ·rename_i c;cases h;obtain⟨rfl,rfl,rfl,hs⟩:=aqg hG hm;rw[atQ hs];rw[hP] at hf|-;have hfn:fn.resultTypes.toList=[4]:=by rw[Tryz.func139] at hf;cases hf;rfl
   refine(Tryz.strings_Contains_one ⟨⟨s⟩⟩ c w).mono ?_;rintro e w' ⟨rfl,rfl⟩;rw[hfn];exact⟨[_],[],[],rfl,aj2 (by kernel_rfl) (by kernel_rfl) (λ_ _=>⟨rfl,rfl⟩) (Keep.refl _ _)⟩
  ·cases h
 ·cases h
def ahf{X:Ctx}(hP:X.P=Tryz.prog)(hm:∀i,i<2->NY X.TA 90 i=0)(fn:Func)(args:List V)(cells:List Cell)(rows:ay)(outs:List Cell)(hf:X.P.funcs[90]? =some fn)(h:Prim.strings_IndexByte args cells=some (rows,outs))
  (base:Nat) (U:Nat->Prop) (w:World) (gargs mF:List Value) (N1 N2:List Nat) (hG:Given X base U w 90 args cells gargs mF N1 N2):
  Calls X.P 90 gargs.toArray w λe w'=>∃gs M1 M2,e=.returned (ah7 gs)/\Did X.P U w w' (N1++N2) fn.resultTypes.toList cells outs mF rows gs M1 M2:=by
 unfold Prim.strings_IndexByte at h;split at h
 ·rename_i s b;unfold M.strings_IndexByte at h;cases h;obtain⟨rfl,rfl,rfl,hs⟩:=aqg hG hm;have hg:gargs=[.string ⟨⟨s⟩⟩,.int .u8 b]:=by simp only[dA,aV,ro] at hs;obtain⟨g,gs,rfl,rfl,g',gs',rfl,rfl,rfl⟩:=hs;rfl
  rw[hg];rw[hP] at hf|-;have hfn:fn.resultTypes.toList=[3]:=by rw[Tryz.func90] at hf;cases hf;rfl
  refine(Tryz.strings_IndexByte ⟨⟨s⟩⟩ b w).mono ?_;rintro e w' ⟨rfl,rfl⟩;rw[hfn];exact⟨[_],[],[],rfl,aj2 (by kernel_rfl) (by kernel_rfl) (λ_ _=>⟨rfl,rfl⟩) (Keep.refl _ _)⟩
 ·cases h
end Go.Proofs.YtephpnbbbimjbaaGreatDoor
namespace Go.Proofs.YtephpnbbbimjbaaGreatDoor
open Go Go.Vm Go.RowKit
set_option maxRecDepth 100000 in
def avg{n:Nat}{row:Row}(h:tyD Tryz.prog (n+2) 22 row):∃c:aC,row=[.sl false 1 (c.map byteRow)]/\c.length<=maxLen:=by
 obtain⟨rows,rfl,hl,hr⟩:=aHH Tryz.underlying22 h;obtain⟨c,rfl,_⟩:=aqp (f:=byteRow) (p:=λ_=>True) (λr hr'=>by
  obtain⟨x,rfl,hx⟩:=aCK Tryz.underlying5 (hr r hr');have h':0<=x/\x<=255:=by simp[Lit.wf,IntKind.min,IntKind.max,IntKind.signed,IntKind.bits] at hx;omega
  refine⟨UInt8.ofNat x.toNat, ?_,trivial⟩;rw[byteRow,UInt8.toNat_ofNat'];congr 2;omega)
 exact⟨c,rfl,by simpa using hl⟩
def aKF:aou X0:=by
 intro f p fn args cells rows outs hx hf hb h base U w gargs mF N1 N2 hG;have hx':(bif Nat.beq f 90 then some Prim.strings_IndexByte else bif Nat.beq f 139 then some Prim.strings_Contains else none)=some p:=hx;cases hq:Nat.beq f 90 with
 |true=>rw[hq] at hx';cases hx';have e:=Dy hq;subst e;exact ahf rfl (by decide) fn args cells rows outs hf h base U w gargs mF N1 N2 hG
 |false=>
 rw[hq,aQ] at hx';cases hq:Nat.beq f 139 with
 |true=>rw[hq] at hx';cases hx';have e:=Dy hq;subst e;exact aiB rfl (by decide) fn args cells rows outs hf h base U w gargs mF N1 N2 hG
 |false=>rw[hq] at hx';cases hx'
def own:ownKnob Tryz.prog.godebug=none:=by kernel_rfl
def laidOut:laidOutB Tryz.prog=true:=by kernel_rfl
def gK : Tryz.prog.globalNamed "loop.example/g01543/impl.keywords" = some 1 := by kernel_rfl
def gS : Tryz.prog.globalNamed "loop.example/g01543/impl.signs" = some 0 := by kernel_rfl
def gB : Tryz.prog.globalNamed "loop.example/g01543/impl.builtins" = some 2 := by kernel_rfl
def tK:(Tryz.prog.globals[1]?).map (·.type)=some 147:=by kernel_rfl
def tS:(Tryz.prog.globals[0]?).map (·.type)=some 139:=by kernel_rfl
def tB:(Tryz.prog.globals[2]?).map (·.type)=some 149:=by kernel_rfl
def c9:Tryz.prog.cellsOf 9=1:=by kernel_rfl
def dK:(Rows.laid_loop_example_g01543_impl_keywords:DataW Unit)=.agg (Ve.map λs=> .lit (.string s)):=by kernel_rfl
def dS:(Rows.laid_loop_example_g01543_impl_signs:DataW Unit)=.agg (vT.map λs=> .lit (.string s)):=by kernel_rfl
def dB:(Rows.laid_loop_example_g01543_impl_builtins:DataW Unit)=.agg (agS.map λs=> .lit (.string s)):=by kernel_rfl
def rK:Fp=Ve.map D.str:=by kernel_rfl
def rS:UM=vT.map D.str:=by kernel_rfl
def rB:ND=agS.map D.str:=by kernel_rfl
def ayz{W:World}(hL:laidMetH Tryz.prog Rows.fnBodiesRow.laid W)(hS:W.ShapedOpen Tryz.prog):aji X0 (full W):=by
 rw[MakeChecks.laidMetH_plain _ _ _ (by kernel_rfl)] at hL;obtain⟨ps,⟨g0,t0,cs0,f0,p0,q0,hg0,ht0,hv0,hd0,⟨g1,t1,cs1,f1,p1,q1,hg1,ht1,hv1,hd1,⟨g2,t2,cs2,f2,p2,q2,hg2,ht2,hv2,hd2,_,_⟩,_⟩,_⟩,_,_⟩:=hL;obtain rfl:=Option.some.inj (gK.symm.trans hg0);obtain rfl:=Option.some.inj (gS.symm.trans hg1);obtain rfl:=Option.some.inj (gB.symm.trans hg2);obtain rfl:=Option.some.inj (tK.symm.trans ht0);obtain rfl:=Option.some.inj (tS.symm.trans ht1);obtain rfl:=Option.some.inj (tB.symm.trans ht2);rw[dK] at hd0;rw[dS] at hd1;rw[dB] at hd2;refine⟨λg row h=> ?_,λg h=> ?_⟩
 ·have h':(bif Nat.beq g 2 then some ND else bif Nat.beq g 0 then some UM else bif Nat.beq g 1 then some Fp else none)=some row:=h;cases hq:Nat.beq g 2 with
  |true=>rw[hq] at h';cases h';have e:=Dy hq;subst e;rw[rB];exact agB Tryz.underlying149 Tryz.underlying9 c9 hg2 hv2 hd2
  |false=>
  rw[hq,aQ] at h';cases hq:Nat.beq g 0 with
  |true=>rw[hq] at h';cases h';have e:=Dy hq;subst e;rw[rS];exact agB Tryz.underlying139 Tryz.underlying9 c9 hg1 hv1 hd1
  |false=>
  rw[hq,aQ] at h';cases hq:Nat.beq g 1 with
  |true=>rw[hq] at h';cases h';have e:=Dy hq;subst e;rw[rK];exact agB Tryz.underlying147 Tryz.underlying9 c9 hg0 hv0 hd0
  |false=>rw[hq] at h';cases h'
 ·have h':(bif Nat.beq g 3 then true else false)=true:=h;cases hq:Nat.beq g 3 with
  |false=>rw[hq] at h';cases h'
  |true=>have e:=Dy hq;subst e;exact Go.Proofs.cell_of_shapedOpen_int (zero:=#[.int .i64 0]) hS (of_decide_eq_true (by kernel_rfl)) (by kernel_rfl) rfl (by kernel_rfl) (by kernel_rfl) Tryz.underlying3
end Go.Proofs.YtephpnbbbimjbaaGreatDoor
