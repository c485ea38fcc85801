import Derived.Test.YthmchnpcplgciaaGreatDoorXRfo
import Derived.Shelf.Strings.Search1
import Derived.Shelf.Strings.Search2
import Derived.Shelf.Strings.Search3
import Derived.Shelf.LaysM
import Derived.Shelf.Strings.Shaped
import Derived.Test.YthmchnpcplgciaaGreatDoorProg
import Derived.Test.YthmchnpcplgciaaGreatDoorRows
set_option linter.defProp false
set_option linter.unusedVariables false
set_option linter.unusedSimpArgs false
set_option linter.unusedSectionVars false
open Go.IntKind (i64)
namespace Go.Proofs.YthmchnpcplgciaaGreatDoor
open Go Go.Vm
def TkB(n:Nat)(l:List Tk):Prop:=l.length<=n/\∀t,t∈l->I64 t.kind/\t.text.length<=1048576
def TkB.of{n m:Nat}{l:List Tk}(h:TkB n l)(hn:n<=m:=by omega):TkB m l:=⟨Nat.le_trans h.1 hn,h.2⟩
def TkB.sub{n:Nat}{l l':List Tk}(h:TkB n l)(hl:l'.length<=l.length)(hs:∀t,t∈l'->t∈l):TkB n l':=⟨Nat.le_trans hl h.1,λt ht=>h.2 t (hs t ht)⟩
def TkB.app{n m:Nat}{a b:List Tk}(h:TkB n a)(h':TkB m b):TkB (n+m) (a++b):=by
 refine⟨by rw[PD];have:=h.1;have:=h'.1;omega,λt ht=> ?_⟩;rcases List.mem_append.1 ht with ht|ht
 ·exact h.2 t ht
 ·exact h'.2 t ht
def TkB.set{n:Nat}{l:List Tk}(h:TkB n l){x:Tk}(hx:I64 x.kind/\x.text.length<=1048576)(i:Nat):TkB n (l.set i x):=by
 refine⟨by rw[List.length_set];exact h.1,λy hy=> ?_⟩;rcases List.mem_or_eq_of_mem_set hy with hy|rfl
 ·exact h.2 y hy
 ·exact hx
def TkB.one{x:Tk}(hx:I64 x.kind/\x.text.length<=1048576):TkB 1 [x]:=⟨zba _,λy hy=>by rw[List.mem_singleton.1 hy];exact hx⟩
def TkB.seg{n:Nat}{l:List Tk}(h:TkB n l)(a c:Nat):TkB n (seg l a c):=h.sub (by unfold Go.Proofs.YthmchnpcplgciaaGreatDoor.seg;rw[zlt,List.length_drop];omega) λt ht=>List.mem_of_mem_drop (List.mem_of_mem_take ht)
def aEB{t:Tk}(h:tkF t):I64 t.kind/\t.text.length<=1048576:=by obtain⟨⟨a,b⟩,c⟩:=h;unfold uZ at c;unfold I64;omega
def aG1{n:Nat}{r:au}(h:GT n r):∃l:List Tk,r=aA l/\TkB n l:=by
 have key:∀r:au,(∀q,q∈r->∃a x z,q=[D.int .i64 a,D.str x,D.int .i64 z]/\x.length<=1048576/\I64 a)->∃l:List Tk,r=aA l/\∀t,t∈l->I64 t.kind/\t.text.length<=1048576:=by
  intro r;induction r with
  |nil=>exact λ_=>⟨[],rfl,λt h=>by cases h⟩
  |cons q r ih=>
   intro h;obtain⟨l,rfl,h2⟩:=ih λq hq=>h q (zmm _ hq)
   obtain⟨a,x,z,rfl,hx,ha⟩:=h q zmf;refine⟨⟨a,x,z⟩::l,rfl,λt ht=> ?_⟩;rcases List.mem_cons.1 ht with rfl|ht
   ·exact⟨ha,hx⟩
   ·exact h2 t ht
 obtain⟨l,rfl,h2⟩:=key r h.2;exact⟨l,rfl,by have:=h.1;rw[aX] at this;exact this,h2⟩
def ap8{n:Nd}(h:aEp n):Small n:=by obtain⟨⟨_,_⟩,⟨_,_⟩,h3,h4⟩:=h;unfold uZ at h3 h4;constructor<;>omega
def ai1{T:Tn}(hT:T.size<=1048576):i64.wrap (((T.flat 0).length:Int) - 1)=((0+sizes T.kids:Nat):Int):=by have:=T.Hw;rw[T.flat_length,aK ak ak];omega
def am2{u:Tn}{o:Bool}{l:List Nd}{b:Nat}(h:Lies l b u):idx (aP o l) ((b+sizes u.kids:Nat):Int)=some (Xe o ⟨u.kind,u.op,u.text,u.other,ends u.kids b⟩):=by rw[bK,nH,Lies.root' h];rfl
def ayw{t:Tn}(hz:t.size<=400)(hf:Rz t)(w:Bool)(p:Ps):M.oW (aP false (t.flat 0))=some false\/(M.oW (aP false (t.flat 0))=some true/\isE t/\∃l:List Tk,M.nZ (aP false (t.flat 0)) w ((0+sizes t.kids:Nat):Int) p.level p.gU p.nN p.oC p.fD=some (aA l)/\TkB (20 * t.size) l):=by
 have hS:∀n,n∈t.flat 0->Small n:=λn hn=>ap8 (hf 0 n hn)
 have hl:(t.flat 0).length<=1048576:=by rw[t.flat_length];omega
 have hk:∀n,n∈t.flat 0->n.kids.length<=1048576:=λn hn=>by have:=(KF t 0 n hn).1;omega
 have a1:=Zr (t.flat 0) false hl hk hS;simp only[M.oW,M.KY,a1,ah];cases pa:Xy (t.flat 0) with
 |false=>exact .inl rfl
 |true=>
  have hsm:=(amM t 0).2 hS;have hT:t.size<=1048576:=ak;have hr:=am2 (o:=false) (Lies.whole t);have hen:((aP false (t.flat 0)).length:Int)=((t.flat 0).length:Int):=by rw[dI]
  simp only[aJ,hen,ai1 hT,hr,ah,cN0,WB];cases hs:acQ t.kind with
  |false=>exact .inl rfl
  |true=>
   have hE:isE t:=by unfold acQ at hs;rw[wo,decide_eq_true_eq,decide_eq_true_eq] at hs;exact hs
   obtain⟨r,h1,h2⟩:=atw (ayv t (arv pa hS hE).1 hE hsm hT) hT (o:=false) (w:=w) (f:=5 * t.size+1) (p:=p) (l:=t.flat 0) (b:=0) hl (Lies.whole t) (zba _);obtain⟨l,rfl,h3⟩:=aG1 h2.1;exact .inr ⟨rfl,hE,l,M.ajr h1,h3.of⟩
def aG2{t:Tn}(hz:t.size<=400)(hf:Rz t):∃l:List Tk,M.vI (aF (aP true (t.flat 0)))=some (aA l)/\TkB (20 * t.size) l:=by
 have hr:=am2 (o:=false) (Lies.whole t);have hen:((aP false (t.flat 0)).length:Int)=((t.flat 0).length:Int):=by rw[dI]
 simp only[bV,M.vI,M.Ij];rcases ayw hz hf true .top with h|⟨h1,h2,l,h3,h4⟩
 ·rw[h];exact⟨[],rfl,Nat.zero_le _,λt ht=>by cases ht⟩
 ·have hk:1<=t.kind/\t.kind<=15:=h2;have h16:(t.kind==16)=false:=by rw[nY];omega
  have h3':M.nZ (aP false (t.flat 0)) true ((0+sizes t.kids:Nat):Int) 1 false false false false=some (aA l):=h3;simp only[h1,ah,zaZ,aW,hen,ai1 (show t.size<=1048576 by omega),hr,cN0,h16,aaL,h3',qO,aJ];exact⟨l,rfl,h4⟩
def aG3{t:Tn}(hz:t.size<=400)(hf:Rz t):∃l:List Tk,M.vJ (aF (aP true (t.flat 0))) 1 false false false false=some (aA l)/\TkB (20 * t.size) l:=by
 have hr:=am2 (o:=false) (Lies.whole t);have hen:((aP false (t.flat 0)).length:Int)=((t.flat 0).length:Int):=by rw[dI]
 simp only[bV,M.vJ,M.Ik];rcases ayw hz hf false .top with h|⟨h1,h2,l,h3,h4⟩
 ·rw[h];exact⟨[],rfl,Nat.zero_le _,λt ht=>by cases ht⟩
 ·have hk:1<=t.kind/\t.kind<=15:=h2;have h16:(t.kind==16)=false:=by rw[nY];omega
  have h3':M.nZ (aP false (t.flat 0)) false ((0+sizes t.kids:Nat):Int) 1 false false false false=some (aA l):=h3;have hpo:M.pz 1 false false false false=some true:=rfl;simp only[h1,ah,zaZ,aW,hpo,hen,ai1 (show t.size<=1048576 by omega),hr,cN0,h16,h3',qO,aJ];exact⟨l,rfl,h4⟩
def ayx(l:List Tk):[[D.sl true 3 (aA l)]].all lU=true:=by
 have:I9 (aA l)=true:=by
  induction l with
  |nil=>rfl
  |cons t r ih=>show I9 (UG t::aA r)=true;rw[I9,ih];rfl
 simp[lU,D.pure,this]
abbrev DTR:=Option zaN
def DTq(m:DTR)(s:Cu)(n:Nat):Prop:=∃(l:List Tk) (q:Nat),m=some (aA l,cS s q)/\TkB n l
section
variable {s:Cu} (h:abJ s)
include h
theorem aG4(p:Nat):DTq (M.FU (cS s p).1 (cS s p).2.1 (cS s p).2.2) s 1200:=by
 have e3:=tV h p 3 ak ak;rw[show((3:Nat):Int)=3 from rfl] at e3;simp only[M.FU,M.QN,e3,ah];generalize ((s.g p % 3:Nat):Int)=z;cases z==0 with
 |true=>obtain⟨l,q,e,h1,h2⟩:=arw h 12 ak (p+1);rw[show((12:Nat):Int)=12 from rfl] at e;simp only[aJ,e,ah,qO];exact⟨l,q,rfl,ak,λt ht=>aEB (h2 t ht)⟩
 |false=>
  obtain⟨t,q,e,h1,h2⟩:=aCV h (p+1);cases z==1 with
  |true=>obtain⟨l,f,hb⟩:=aG2 (t:=t) ak h2;simp only[aJ,aW,e,ah,f,ayx,qO];exact⟨l,q,rfl,hb.of⟩
  |false=>obtain⟨l,f,hb⟩:=aG3 (t:=t) ak h2;simp only[aJ,aW,e,ah,aaL,f,ayx,qO];exact⟨l,q,rfl,hb.of⟩
theorem ayy(p:Nat):DTq (M.oG (cS s p).1 (cS s p).2.1 (cS s p).2.2) s 2401:=by
 obtain⟨l,q,e,hl⟩:=aG4 h p;have hl1:=hl.1;have o5:=MJ h q 5 ak ak;rw[show((5:Nat):Int)=5 from rfl] at o5;simp only[I7,M.oG,M.J5,e,ah,aX]
 by_cases hz:l.length=0
 ·rw[rF ak,aW,qO];exact⟨l,q,rfl,hl.of⟩
 rw[zdt ak,aJ];simp only[o5,ah];cases(s.g q % 5==0) with
 |false=>rw[aW,qO];exact⟨l,q+1,rfl,hl.of⟩
 |true=>
 rw[aJ];obtain⟨k,q2,eb,_,_,k0,kn⟩:=auE h (q+1) (l.length:Int) ak;have hk:k<l.length:=ak;obtain⟨j,rfl⟩:∃j:Nat,k=j:=⟨k.toNat,ak⟩
 have e4:=tV h q2 4 ak ak;rw[show((4:Nat):Int)=4 from rfl] at e4;simp only[eb,e4,ah];generalize ((s.g q2 % 4:Nat):Int)=z;obtain⟨kk,t,q3,ht,hkk⟩:=aeh h (q2+1);have hkk:=aEB hkk;have c1:=Ve (l:=l) (a:=0) (c:=j) (Nat.zero_le _) ak;rw[x9] at c1;have s1:=(hl.seg 0 j).1;cases z==0 with
 |true=>
  simp only[aJ,Yf];rw[zdt ak,zdt ak];have et:(aA l).take j=aA (l.take j):=by simp[aA,List.map_take]
  rw[et,qO];exact⟨l.take j,q2+1,rfl,(hl.sub (by rw[zlt];omega) λt ht=>List.mem_of_mem_take ht).of⟩
 |false=>
 rw[aW];cases z==1 with
 |true=>
  obtain⟨x,hx⟩:∃x,l[j]? =some x:=⟨l[j]'ak,by simp⟩
  rw[aJ,ht,ah];simp only[bK,Yf,dZ,hx,Ht,ah,aiQ,abL,qO,aJ];exact⟨_,q3,rfl,(hl.set hkk j).of⟩
 |false=>
 rw[aW];cases z==2 with
 |true=>have c2:=Ve (l:=l) (a:=j) (c:=l.length) ak (zba _);have s2:=(hl.seg j l.length).1;have tl:[[D.int IntKind.i64 kk,D.str t,D.int IntKind.i64 0]]=aA [⟨kk,t,0⟩]:=rfl;simp only[aJ,c1,c2,ht,ah,tl,<-Nl,aX,qO,PD,TG];rw[XD ak,room ak,aJ,aJ,XD ak,room ak,aJ,aJ,XD ak,room ak,aJ,aJ];exact⟨_,q3,rfl,(((hl.seg 0 j).app (.one hkk)).app (hl.seg j l.length)).of⟩
 |false=>
  have c2:=Ve (l:=l) (a:=j+1) (c:=l.length) ak (zba _);have s2:=(hl.seg (j+1) l.length).1;have w1:i64.wrap ((j:Int)+1)=((j+1:Nat):Int):=by rw[aK ak ak];omega
  simp only[aW,c1,w1,c2,ah,<-Nl,aX,qO];rw[XD ak,room ak,aJ,aJ,XD ak,room ak,aJ,aJ];exact⟨_,q2+1,rfl,((hl.seg 0 j).app (hl.seg (j+1) l.length)).of⟩
theorem ai2:∀(n:Nat) (l:List Tk) (p:Nat),TkB (2600 - n) l->n<=100->∃(l':List Tk) (q:Nat),M.wM ((n:Int),(cS s p).1,(cS s p).2.1,(cS s p).2.2,aA l)=some (0,(cS s q).1,(cS s q).2.1,(cS s q).2.2,aA l')/\TkB 2600 l'
 |0,l,p,hl,hn=>by refine⟨l,p, ?_,hl.of⟩;rw[M.wM];apply aQ;simp only[I7,M.Jl,M.xM];rw[rF ak,aW];rfl
 |n+1,l,p,hl,hn=>by
  have hr:aiM iB [[D.int IntKind.i64 32],[D.int IntKind.i64 34],[D.int IntKind.i64 30],[D.int IntKind.i64 32],[D.int IntKind.i64 33]]=true:=by decide
  have hp:=WC h p _ hr;have hk:=TN hr (s.g p);generalize pkI [[D.int IntKind.i64 32],[D.int IntKind.i64 34],[D.int IntKind.i64 30],[D.int IntKind.i64 32],[D.int IntKind.i64 33]] (s.g p)=k at hp hk;have h64:I64 k:=by unfold I64;omega
  have hx:=ZQ k;have hl1:=hl.1;obtain⟨l',q,e',hb⟩:=ai2 n (l++[⟨k,spell k,0⟩]) (p+1) ((hl.app (.one ⟨h64,by show(spell k).length<=1048576;omega⟩)).of) ak;refine⟨l',q, ?_,hb⟩;rw[M.wM] at e'|-;rw[bI (s':=((n:Int),(cS s (p+1)).1,(cS s (p+1)).2.1,(cS s (p+1)).2.2,aA (l++[⟨k,spell k,0⟩]))) ?_]
  ·exact e'
  ·have w1:i64.wrap (((n+1:Nat):Int) - 1)=(n:Int):=by rw[aK ak ak];omega
   simp only[I7,M.Jl,M.xM,hp,ah,ars k h64,w1,aX,TG];rw[zdt ak,aJ,XD ak,room ak,aJ,aJ,Nl];rfl
theorem auS(p:Nat):∃(a:Int) (b c d e:Bool) (q:Nat),M.Gi (cS s p).1 (cS s p).2.1 (cS s p).2.2=some (a,b,c,d,e,cS s q):=by have e15:=tV h p 15 ak ak;have o1:=MJ h (p+1) 4 ak ak;have o2:=MJ h (p+1+1) 4 ak ak;have o3:=MJ h (p+1+1+1) 4 ak ak;have e12:=tV h (p+1+1+1+1) 12 ak ak;have epk:=WC h (p+1+1+1+1+1) [[D.int .i64 0],[D.int .i64 16],[D.int .i64 (-1)]] (by decide);rw[show((15:Nat):Int)=15 from rfl] at e15;rw[show((4:Nat):Int)=4 from rfl] at o1 o2 o3;rw[show((12:Nat):Int)=12 from rfl] at e12;simp only[M.Gi,M.Tq,e15,o1,o2,o3,e12,epk,ah];generalize ((s.g (p+1+1+1+1) % 12:Nat):Int)=z;cases z==0<;>cases z==1<;>cases z==2<;>cases z==3<;>cases z==4<;>cases z==5<;>exact⟨_,_,_,_,_,_,rfl⟩
end
def auT(c:aI)(hc:c.length<=1048576):∃l:List Tk,M.vK (c.map byteRow)=some (aA l)/\TkB 2600 l:=by
 obtain⟨z,e⟩:=ax1 c hc;have h:abJ ⟨c,0,z⟩:=⟨Nat.zero_le _,hc⟩
 obtain⟨l,q,e1,hl⟩:=ayy h 0;have e1':M.oG (c.map byteRow) 0 z=some (aA l,cS ⟨c,0,z⟩ q):=e1;have o3:=MJ h q 3 ak ak;rw[show((3:Nat):Int)=3 from rfl] at o3;simp only[M.vK,M.Il,e,ah,e1',o3];cases(Cu.g ⟨c,0,z⟩ q % 3==0) with
 |false=>rw[aW,qO];exact⟨l,rfl,hl.of⟩
 |true=>
  have e20:=tV h (q+1) 20 ak ak;rw[show((20:Nat):Int)=20 from rfl] at e20;have hm:=Nat.mod_lt (Cu.g ⟨c,0,z⟩ (q+1)) (show 0<20 by omega);have w1:i64.wrap (30+((Cu.g ⟨c,0,z⟩ (q+1) % 20:Nat):Int))=((30+Cu.g ⟨c,0,z⟩ (q+1) % 20:Nat):Int):=by rw[aK ak ak];omega
  obtain⟨l',q',e2,hb⟩:=ai2 h (30+Cu.g ⟨c,0,z⟩ (q+1) % 20) l (q+1+1) (hl.of ak) ak;rw[aJ];simp only[e20,ah,w1,e2,qO,aJ];exact⟨l',rfl,hb⟩
def ap9{code:au}{x:Int}{a b c d:Bool}{r:au}{i0 z0:Int}:∀(n i:Nat) (l:List Tk),l.length - i=n->i<=l.length->TkB 2600 l->∃l':List Tk,M.rG code x a b c d r i0 z0 ((i:Int),aA l)=some ((l.length:Int),aA l')/\TkB 2600 l'
 |0,i,l,hn,hi,hl=>by obtain rfl:i=l.length:=ak;refine⟨l, ?_,hl⟩;rw[M.rG];apply aQ;simp only[M.EM,M.tq,aX];rw[rF ak,aW]
 |n+1,i,l,hn,hi,hl=>by
  have hl1:=hl.1;obtain⟨y,hy⟩:∃y,l[i]? =some y:=⟨l[i]'ak,by simp⟩
  have hyb:=hl.2 y (ZF hy);obtain⟨l',e',hb⟩:=ap9 n (i+1) (l.set i ⟨y.kind,y.text,i64.wrap (2 * i)⟩) (by rw[List.length_set];omega) (by rw[List.length_set];omega) (hl.set (x:=⟨y.kind,y.text,i64.wrap (2 * i)⟩) hyb i);refine⟨l', ?_,hb⟩;rw[M.rG] at e'|-;rw[bI (s':=(((i+1:Nat):Int),aA (l.set i ⟨y.kind,y.text,i64.wrap (2 * i)⟩))) ?_]
  ·rw[e',List.length_set]
  ·have w1:i64.wrap ((i:Int)+1)=((i+1:Nat):Int):=by rw[aK ak ak];omega
   have hs:splice (UG y) 2 [D.int .i64 (i64.wrap (2 * (i:Int)))]=UG ⟨y.kind,y.text,i64.wrap (2 * i)⟩:=rfl;simp only[M.EM,M.tq,aX,bK,Yf,dZ,hy,Ht,ah,w1,hs,abL];rw[zdt ak,aJ]
def arM(c:aI)(hc:c.length<=1048576):∃(l:List Tk) (p:Ps),M.qj (c.map byteRow)=some (aA l,p.level,p.gU,p.nN,p.oC,p.fD)/\TkB 2600 l:=by
 obtain⟨z,e⟩:=ax1 c hc;have h:abJ ⟨c,0,z⟩:=⟨Nat.zero_le _,hc⟩
 obtain⟨l,q,e1,hl⟩:=ayy h 0;have e1':M.oG (c.map byteRow) 0 z=some (aA l,cS ⟨c,0,z⟩ q):=e1;obtain⟨l',e2,hb⟩:=ap9 (code:=c.map byteRow) (x:=0) (a:=false) (b:=false) (c:=false) (d:=false) (r:=(cS ⟨c,0,z⟩ q).1) (i0:=(cS ⟨c,0,z⟩ q).2.1) (z0:=(cS ⟨c,0,z⟩ q).2.2) _ 0 l rfl (Nat.zero_le _) hl.of;rw[x9] at e2;have o12:=MJ h q 12 ak ak;rw[show((12:Nat):Int)=12 from rfl] at o12;have o2:=MJ h (q+1) 2 ak ak;rw[show((2:Nat):Int)=2 from rfl] at o2;obtain⟨ln,en,hn⟩:=auT c hc;obtain⟨pa,pb,pc,pd,pe,pq,ep⟩:=auS h (q+1+1);simp only[M.qj,M.CV,e,ah,e1',e2,o12];cases(Cu.g ⟨c,0,z⟩ q % 12==0) with
 |true=>
  simp only[aJ,en,ah,o2];cases(Cu.g ⟨c,0,z⟩ (q+1) % 2==0) with
  |true=>simp only[aJ,aaL,ah,qO];exact⟨ln,.top,rfl,hn⟩
  |false=>simp only[aJ,aW,ep,ah,qO];exact⟨ln,⟨pa,pb,pc,pd,pe⟩,rfl,hn⟩
 |false=>
  simp only[aW,ah,o2];cases(Cu.g ⟨c,0,z⟩ (q+1) % 2==0) with
  |true=>simp only[aJ,aaL,ah,qO];exact⟨l',.top,rfl,hb⟩
  |false=>simp only[aW,ep,ah,qO,aJ];exact⟨l',⟨pa,pb,pc,pd,pe⟩,rfl,hb⟩
def dn(l:List Tk):aj (aA l)=true:=by simp[aj,aA,UG,D.flat]
abbrev txt(ns:List Tk):kH:=ns.map Tk.text
def shK(d:Int)(n:Nd):Nd:={n with kids:=n.kids.map λe=>i64.wrap (e+d)}
def auU(l:List Nd)(o:Bool)(d:Int)(hl:l.length<=1048576)(hk:∀n,n∈l->n.kids.length<=1048576):
  M.uH (aP o l) d=some (aP true (l.map (shK d))):=by
 simp only[M.uH,M.Jg];have hloop:=yg (b:=M.uN (aP o l) d) (t:=((l.length:Int),aP true (l.map (shK d)))) (λi=>((i:Int),aP true ((l.take i).map (shK d)))) l.length
  (by
   intro i hi;obtain⟨n,hn⟩:∃n,l[i]? =some n:=⟨l[i],by simp[hi]⟩
   have hkl:=hk n (ZF hn);have hin:=yg (b:=M.uK (aP o l) d (i:Int) (aP true ((l.take i).map (shK d))) n.kind n.op n.text n.other) (t:=((n.kids.length:Int),encI (n.kids.map λe=>i64.wrap (e+d)))) (λj=>((j:Int),encI ((n.kids.take j).map λe=>i64.wrap (e+d)))) n.kids.length
    (by
     intro j hj;obtain⟨e,he⟩:∃e,n.kids[j]? =some e:=⟨n.kids[j],by simp[hj]⟩
     simp only[I7,M.uK,M.uJ,bK,nH,hn,Ht,ah,cN4,dV,Eu,he,cI0,zbb,zlt,TG];rw[zdt ak,aJ,fM ak,aJ,fM ak,aJ,aK (n:=(j:Int)+1) ak ak,xA he];simp[encI])
    (by simp only[I7,M.uK,M.uJ,bK,nH,hn,Ht,ah,cN4,dV];rw[rF ak,aW,List.take_length]) 0 (Nat.zero_le _)
   simp only[x9,List.take_zero,List.map_nil] at hin;have hin':M.GX (aP o l) d (i:Int) (aP true ((l.take i).map (shK d))) n.kind n.op n.text n.other (0,[])=some ((n.kids.length:Int),encI (n.kids.map λe=>i64.wrap (e+d))):=hin;simp only[I7,M.uN,M.uM,dI,bK,nH,hn,Ht,ah,cN0,cN1,cN2,cN3,cN4,hin',TM,aJ,zbb,zlt,TG];rw[zdt ak,aJ,fM ak,aJ,fM ak,aJ,aK ak ak,xA hn,List.map_append,DK];rfl)
  (by simp only[I7,M.uN,M.uM,dI];rw[rF ak,aW,List.take_length]) 0 (Nat.zero_le _)
 simp only[x9,List.take_zero,List.map_nil] at hloop;have Qg:M.GY (aP o l) d (0,[])=some ((l.length:Int),aP true (l.map (shK d))):=hloop;rw[Qg,ah]
def RB(R:List Nd)(b:Nat):Prop:=R.length<=b/\∀n,n∈R->n.kids.length<=100000
def RB.mono{R:List Nd}{a b:Nat}(h:RB R a)(hab:a<=b):RB R b:=⟨by have:=h.1;omega,h.2⟩
def RB.tree(t:Tn)(h:t.size<=100000):RB (t.flat 0) t.size:=⟨by rw[t.flat_length];omega,λn hn=>by have:=(KF t 0 n hn).1;omega⟩
def lens:List (List Nd)->Nat
 |[]=>0
 |R::P=>R.length+lens P
def JG(P:List (List Nd)):au:=P.map λR=>[.sl false 5 (aP false R)]
def UD:∀a b:List (List Nd),lens (a++b)=lens a+lens b
 |[],b=>by simp[lens]
 |R::a,b=>by rw[zca,lens,lens,UD a b];omega
def aqa(k op:Int)(x y:aI)(kr:au)(P:List (List Nd))(hl:lens P<=100000)(hn:P.length<=100000)(hk:∀R,R∈P->∀n,n∈R->n.kids.length<=100000):
  ∃R',M.dW k op x y kr (JG P)=some (aP true R')/\R'.length=lens P+1/\∀n,n∈R'->n.kids.length<=100000:=by
 have hloop:∀(Q pre:List (List Nd)) (A:List Nd) (B:List Int),P=pre++Q->A.length=lens pre->B.length=pre.length->(∀n,n∈A->n.kids.length<=100000)->
   ∃A' B',M.Ac (JG P) k op x y ((pre.length:Int),aP true A,encI B)=some ((P.length:Int),aP true A',encI B')/\A'.length=lens P/\B'.length=P.length/\∀n,n∈A'->n.kids.length<=100000:=by
  intro Q;induction Q with
  |nil=>intro pre A B hP hA hB hkA;rw[List.append_nil] at hP;subst hP;refine⟨A,B, ?_,hA,hB,hkA⟩;refine aQ ?_;simp only[I7,M.wH,M.wG,show(JG P).length=P.length by simp[JG]];rw[rF ak,aW]
  |cons R Q ih=>
   intro pre A B hP hA hB hkA;have hPl:P.length=pre.length+(Q.length+1):=by rw[hP,PD,ZE]
   have hPs:lens P=lens pre+(R.length+lens Q):=by rw[hP,UD,lens]
   have hR:R∈P:=by rw[hP];simp
   have hg:(JG P)[pre.length]? =some [.sl false 5 (aP false R)]:=by rw[JG,List.getElem?_map,hP];simp
   have c0:cSl 5 [D.sl false 5 (aP false R)] 0=some (aP false R):=rfl;have hsh:=auU R false (A.length:Int) ak (λn hn=>by have:=hk R hR n hn;omega);have hb:M.wH (JG P) k op x y ((pre.length:Int),aP true A,encI B)=some (.inl (((pre++[R]).length:Int),aP true (A++R.map (shK (A.length:Int))),encI (B++[((A.length+R.length:Nat):Int) - 1]))):=by simp only[I7,M.wH,M.wG,show(JG P).length=P.length by simp[JG],bK,hg,ah,c0,dI,hsh,zbb,PD,dV,TG];rw[zdt ak,aJ,fM ak,aJ,fM ak,aJ,fM ak,aJ,fM ak,aJ,aK ak ak,aK ak ak,DK];simp[encI]
   rw[M.Ac,bI hb];refine ih (pre++[R]) _ _ (by rw[hP];simp) ?_ ?_ ?_
   ·rw[PD,zbb,hA,UD,lens,lens];omega
   ·rw[PD,PD,hB];rfl
   ·intro n hn;rcases List.mem_append.1 hn with hn|hn
    ·exact hkA n hn
    ·obtain⟨n',h1,rfl⟩:=List.mem_map.1 hn;simp only[shK,zbb];exact hk R hR n' h1
 obtain⟨A',B',h1,h2,h3,h4⟩:=hloop P [] [] [] rfl rfl rfl (λn hn=>by cases hn);have h1':M.Ac (JG P) k op x y (0,[],[])=some ((P.length:Int),aP true A',encI B'):=h1;refine⟨A'++[⟨k,op,x,y,B'⟩], ?_,by rw[PD,TG,h2], ?_⟩
 ·simp only[I7,M.dW,M.KX,h1',ah,TM,aJ,dI,TG];rw[fM ak,aJ,fM ak,aJ,DK];rfl
 ·intro n hn;rcases List.mem_append.1 hn with hn|hn
  ·exact h4 n hn
  ·rw[List.mem_singleton] at hn;subst hn;show B'.length<=100000;omega
def Nq(ts:List Tn):parts ts=JG (ts.map λt=>t.flat 0):=by simp[parts,JG]
variable {l:List Tk}
def pJ(i:Nat)(b:Bool)(ns:List Tk):M.aV (aA l) (i:Int) b (aA ns)=some (aO l i,aA l,(i:Int),b,aA ns):=by
 simp only[M.aV,M.Oz,aX,dn,aJ,aO]
 by_cases h:i<l.length
 ·rw[rF ak,aW];obtain⟨t,ht⟩:∃t,l[i]? =some t:=⟨l[i],by simp[h]⟩
  simp only[bK,dZ,ht,Ht,ah,Qr]
 ·rw[zdt ak,aJ,List.getElem?_eq_none ak]
def am3(hl:l.length<=3000){i:Nat}(h:i<l.length):i64.wrap ((i:Int)+1)=((i+1:Nat):Int):=by rw[aK ak ak];omega
def cu(l:List Tk)(i:Nat):Int:=match l[i]? with|some t=>t.at_|none=>0
def qQ(hl:l.length<=3000){k:Int}{i:Nat}{ns:List Tk}(h:aO l i=k)(hk:k≠0):M.bf k (aA l) (i:Int) false (aA ns)=some (k,xB l i,cu l i,aA l,((i+1:Nat):Int),false,aA ns):=by
 have hlt:i<l.length:=eF (by rw[h];exact hk);obtain⟨t,ht⟩:∃t,l[i]? =some t:=⟨l[i],by simp[hlt]⟩
 have e1:t.kind=k:=by rw[aO,ht] at h;exact h
 have e:(aO l i==k)=true:=by rw[h];exact BEq.rfl
 simp only[M.bf,M.EW,dn,aJ,aW,pJ,ah,bne,e,zaZ,bK,dZ,ht,Ht,Qr,cT1,cT2,am3 hl hlt,e1,xB,cu]
def Vf{k:Int}{i:Nat}{ns:List Tk}(h:(aO l i==k)=false):M.bf k (aA l) (i:Int) false (aA ns)=some (0,[],0,aA l,(i:Int),true,aA ns):=by simp only[M.bf,M.EW,dn,aJ,aW,pJ,ah,bne,h,Bool.not_false]
def Ph(k:Int)(i:Nat)(ns:List Tk):M.bf k (aA l) (i:Int) true (aA ns)=some (0,[],0,aA l,(i:Int),true,aA ns):=by simp only[M.bf,M.EW,dn,aJ]
def agc(k:Int):M.kR k=some (isStep k):=by simp only[M.kR,M.L9,isStep];cases k==51<;>rfl
def ayz(k:Int):M.iy k=some (O9 k):=by simp only[M.iy,M.Di,O9];cases k==3<;>cases k==4<;>cases k==6<;>cases k==7<;>cases k==8<;>cases k==32<;>cases k==68<;>rfl
def XE(k:Int):M.iw k=some (JE k):=by simp only[M.iw,M.Ju,JE];cases k==32<;>cases k==34<;>cases k==30<;>rfl
def XF(k:Int):M.gG k=some (KR k):=by simp only[M.gG,M.Hf,KR];cases k==33<;>cases k==35<;>cases k==31<;>rfl
def a1s(k:Int):M.nP k=some (Ee k):=by simp only[M.nP,M.G7,Ee];cases k==1<;>cases k==5<;>rfl
def ayA(t:Tn)(h:Bool)(hs:t.size<=100000):M.zF (aP false (t.flat 0)) h=some (!h && Ee t.kind):=by
 have hp:=t.size_pos;have hsk:=t.Hw;have hr:(t.flat 0)[t.size - 1]? =some ⟨t.kind,t.op,t.text,t.other,Go.Vm.ends t.kids 0⟩:=by have:=Lies.root' (Lies.whole t);rw[show t.size - 1=0+sizes t.kids by omega];exact this
 simp only[I7,M.zF,M.QY,M.Gj,M.OA,dI,t.flat_length];cases h with
 |true=>rfl
 |false=>rw[show((t.size:Int)==0)=false by rw[nY];omega,aK ak ak,show(t.size:Int) - 1=((t.size - 1:Nat):Int) by omega];simp only[aW,Bool.not_false,aJ,bK,nH,hr,Ht,ah,cN0,cN1,cN2,cN3,cN4,a1s,Bool.true_and]
def am4(hl:l.length<=3000)(i:Nat)(ns:List Tk)(hi:i<=l.length)(hn:ns.length<=i):
  ∃ns',txt ns'=(nl l i (txt ns)).2/\M.jv (aA l) (i:Int) false (aA ns)=some (aA l,((nl l i (txt ns)).1:Int),false,aA ns'):=by
 have hstep:∀i (ns:List Tk),(b:Bool)->i<l.length->aO l i=1->M.sQ (bif b then .inl (aA l,(i:Int),false,aA ns) else .inr (aA l,(i:Int),false,aA ns))=some (.inl (.inr (aA l,((i+1:Nat):Int),false,aA ns))):=by intro i ns b hlt hk;have h12:((1:Int)==2)=false:=rfl;cases b<;>simp only[I7,aJ,aW,M.sQ,M.wS,Bool.not_false,dn,pJ,ah,hk,am3 hl hlt,BEq.rfl,h12]
 have hstep2:∀i (ns:List Tk),(b:Bool)->i<l.length->ns.length<=i->aO l i=2->∃t:Tk,t.text=xB l i/\M.sQ (bif b then .inl (aA l,(i:Int),false,aA ns) else .inr (aA l,(i:Int),false,aA ns))=some (.inl (.inr (aA l,((i+1:Nat):Int),false,aA (ns++[t])))):=by
  intro i ns b hlt hni hk;obtain⟨t,ht⟩:∃t,l[i]? =some t:=⟨l[i],by simp[hlt]⟩
  have e2:xB l i=t.text:=by rw[xB,ht]
  have h21:((2:Int)==1)=false:=rfl;have hsn:aA ns++[[D.int .i64 t.kind,D.str t.text,D.int .i64 t.at_]]=aA (ns++[t]):=by simp[aA,UG]
  refine⟨t,e2.symm, ?_⟩;cases b<;>simp only[I7,aJ,aW,M.sQ,M.wS,Bool.not_false,dn,pJ,ah,hk,h21,BEq.rfl,am3 hl hlt,bK,dZ,ht,Ht,Qr,cT1,cT2,hsn,aX,TG]<;>
   rw[fM ak,aJ,fM ak,aJ]
 have amX:∀i (ns:List Tk),(b:Bool)->(aO l i==1)=false->(aO l i==2)=false->M.sQ (bif b then .inl (aA l,(i:Int),false,aA ns) else .inr (aA l,(i:Int),false,aA ns))=some (.inr (aA l,(i:Int),false,aA ns)):=by intro i ns b h1 h2;cases b<;>simp only[I7,aJ,aW,M.sQ,M.wS,Bool.not_false,dn,pJ,ah,h1,h2]
 have hloop:∀(k i:Nat) (ns:List Tk) (b:Bool),l.length - i<=k->i<=l.length->ns.length<=i->∃ns',txt ns'=(nl l i (txt ns)).2/\M.qL (bif b then .inl (aA l,(i:Int),false,aA ns) else .inr (aA l,(i:Int),false,aA ns))=some (aA l,((nl l i (txt ns)).1:Int),false,aA ns'):=by
  intro k;induction k with
  |zero=>
   intro i ns b hk hi hn;have e:aO l i=0:=by rw[aO,List.getElem?_eq_none ak]
   have h1:(aO l i==1)=false:=by rw[e];rfl
   have h2:(aO l i==2)=false:=by rw[e];rfl
   refine⟨ns, ?_, ?_⟩
   ·rw[Zz,h1,h2];rfl
   ·rw[M.qL,aQ (amX i ns b h1 h2),Zz,h1,h2];rfl
  |succ k ih=>
   intro i ns b hk hi hn;cases h1:aO l i==1 with
   |true=>
    have e:aO l i=1:=by rwa [beq_iff_eq] at h1
    have hlt:=jZ h1 (by decide);obtain⟨ns',e1,e2⟩:=ih (i+1) ns false ak ak ak;refine⟨ns', ?_, ?_⟩
    ·rw[Zz,h1];exact e1
    ·rw[M.qL,bI (hstep i ns b hlt e),Zz,h1];exact e2
   |false=>
    cases h2:aO l i==2 with
    |true=>
     have e:aO l i=2:=by rwa [beq_iff_eq] at h2
     have hlt:=jZ h2 (by decide);obtain⟨t,et,hb⟩:=hstep2 i ns b hlt hn e;obtain⟨ns',e1,e2⟩:=ih (i+1) (ns++[t]) false ak ak (by rw[PD,TG];omega);rw[show txt (ns++[t])=txt ns++[xB l i] by rw[<-et];simp[txt]] at e1 e2;refine⟨ns', ?_, ?_⟩
     ·rw[Zz,h1,h2];exact e1
     ·rw[M.qL,bI hb,Zz,h1,h2];exact e2
    |false=>
     refine⟨ns, ?_, ?_⟩
     ·rw[Zz,h1,h2];rfl
     ·rw[M.qL,aQ (amX i ns b h1 h2),Zz,h1,h2];rfl
 obtain⟨ns',e1,e2⟩:=hloop _ i ns true (zba _) hi hn;simp only[aJ] at e2;refine⟨ns',e1, ?_⟩;simp only[M.jv,M.Hl,e2,ah,dn,aJ]
def aqb(i:Nat)(ns:List Tk):M.jv (aA l) (i:Int) true (aA ns)=some (aA l,(i:Int),true,aA ns):=by have:M.qL (.inl (aA l,(i:Int),true,aA ns))=some (aA l,(i:Int),true,aA ns):=aQ rfl;simp only[M.jv,M.Hl,this,ah,dn,aJ]
abbrev TX:=Bool×au×Bool×au×Int×Bool×au
abbrev TY:=Bool×au×au×Int×Bool×au
def AX(l:List Tk)(i:Nat)(o:Option TX):PR Xp->Prop
 | .ok x j nt=>∃fl rows ns,aF rows=aP false (x.1.flat 0)/\txt ns=nt/\o=some (fl,rows,x.2,aA l,(j:Int),false,aA ns)
 | .bad j=>∃fl rows hd ns R,i<=j/\j<=l.length/\ns.length<=l.length/\aF rows=aP false R/\RB R (3 * (j - i))/\o=some (fl,rows,hd,aA l,(j:Int),true,aA ns)
 | .out=>True
def AY(l:List Tk)(i:Nat)(o:Option TY):PR (List Tn)->Prop
 | .ok L j nt=>∃fl ns,txt ns=nt/\o=some (fl,parts L,aA l,(j:Int),false,aA ns)
 | .bad j=>∃fl ns P,i<=j/\j<=l.length/\ns.length<=l.length/\lens P<=3 * (j - i)/\P.length<=8/\(∀R,R∈P->∀n,n∈R->n.kids.length<=100000)/\o=some (fl,JG P,aA l,(j:Int),true,aA ns)
 | .out=>True
variable {l:List Tk}
def AX.elim{β γ:Type}{Q:Option β->PR γ->Prop}{i:Nat}{o:Option TX}{p:PR Xp}(h:AX l i o p){f:TX->Option β}{g:Xp->Nat->kH->PR γ}(hout:∀o,Q o .out)
  (hbad:∀fl rows hd j ns R,i<=j->j<=l.length->ns.length<=l.length->aF rows=aP false R->RB R (3 * (j - i))->Q (f (fl,rows,hd,aA l,((j:Nat):Int),true,aA ns)) (.bad j))
  (hok:∀x fl rows j ns,aF rows=aP false (x.1.flat 0)->p=.ok x j (txt ns)->Q (f (fl,rows,x.2,aA l,(j:Int),false,aA ns)) (g x j (txt ns))):Q (o.bind f) (p.bind g):=by
 cases p with
 |ok x j nt=>obtain⟨fl,rows,ns,h1,rfl,rfl⟩:=h;exact hok x fl rows j ns h1 rfl
 |bad j=>obtain⟨fl,rows,hd,ns,R,h1,h2,h3,h4,h5,rfl⟩:=h;exact hbad fl rows hd j ns R h1 h2 h3 h4 h5
 |out=>exact hout _
def AY.elim{β γ:Type}{Q:Option β->PR γ->Prop}{i:Nat}{o:Option TY}{p:PR (List Tn)}(h:AY l i o p){f:TY->Option β}{g:List Tn->Nat->kH->PR γ}(hout:∀o,Q o .out)
  (hbad:∀fl j ns P,i<=j->j<=l.length->ns.length<=l.length->lens P<=3 * (j - i)->P.length<=8->(∀R,R∈P->∀n,n∈R->n.kids.length<=100000)->Q (f (fl,JG P,aA l,((j:Nat):Int),true,aA ns)) (.bad j))
  (hok:∀L fl j ns,p=.ok L j (txt ns)->Q (f (fl,parts L,aA l,(j:Int),false,aA ns)) (g L j (txt ns))):Q (o.bind f) (p.bind g):=by
 cases p with
 |ok L j nt=>obtain⟨fl,ns,rfl,rfl⟩:=h;exact hok L fl j ns rfl
 |bad j=>obtain⟨fl,ns,P,h1,h2,h3,h4,h5,h6,rfl⟩:=h;exact hbad fl j ns P h1 h2 h3 h4 h5 h6
 |out=>exact hout _
def AX.mk{x:Xp}{i j:Nat}{fl hd:Bool}{rows:au}{ns:List Tk}(h:aF rows=aP false (x.1.flat 0))(h':hd=x.2):AX l i (some (fl,rows,hd,aA l,(j:Int),false,aA ns)) (.ok x j (txt ns)):=by subst h';exact⟨_,_,_,h,rfl,rfl⟩
def AX.sU{i j:Nat}{fl hd:Bool}{rows:au}{ns:List Tk}{R:List Nd}(h1:i<=j)(h2:j<=l.length)(h3:ns.length<=l.length)(h4:aF rows=aP false R)(h5:RB R (3 * (j - i))):AX l i (some (fl,rows,hd,aA l,(j:Int),true,aA ns)) (.bad j):=⟨_,_,_,_,_,h1,h2,h3,h4,h5,rfl⟩
def AX.pass{i i':Nat}{o:Option TX}{p:PR Xp}(h:AX l i o p)(hi:i'<=i){f:TX->Option TX}
  (hf:∀fl rows hd c1 b ns,f (fl,rows,hd,aA l,c1,b,aA ns)=some (false,aF rows,hd,aA l,c1,b,aA ns)):AX l i' (o.bind f) p:=by
 rw[<-PR.bind_ok p];refine AX.elim (Q:=AX l i') h (λ_=>trivial) (λfl rows hd j ns R h1 h2 h3 h4 h5=> ?_) (λx fl rows j ns hk _=> ?_)
 ·rw[hf];exact AX.sU ak h2 h3 (by rw[h4,bV]) (h5.mono ak)
 ·rw[hf];exact AX.mk (by rw[hk,bV]) rfl
def fzN{rows:au}{R:List Nd}(h:aF rows=aP false R):aF (aF rows)=aP false R:=by rw[h,bV]
def Pj(P:List (List Nd)):aF (JG P)=JG P:=by rw[JG,Uy,List.map_map];congr 1;funext R;simp[Bl,D.fz,bV]
def aqc(k op:Int)(x y:aI)(kr:au)(P:List (List Nd))(hl:lens P<=100000)(hn:P.length<=100000)(hk:∀R,R∈P->∀n,n∈R->n.kids.length<=100000):
  ∃R',M.bW k op x y kr (JG P)=some (false,aP false R',false)/\R'.length=lens P+1/\∀n,n∈R'->n.kids.length<=100000:=by
 obtain⟨R',h1,h2,h3⟩:=aqa k op x y kr P hl hn hk;exact⟨R',by simp only[M.bW,M.Jv,h1,ah,bV],h2,h3⟩
def aer(k op:Int)(x y:aI)(kr:au)(ts:List Tn)(h:sizes ts<=100000):M.bW k op x y kr (JG (ts.map λt=>t.flat 0))=some (false,aP false ((Tn.mk k op x y ts).flat 0),false):=by have:=acU k op x y kr ts ak;rw[Nq] at this;simp only[M.bW,M.Jv,this,ah,bV]
def aG5(k op:Int)(x y:aI)(kr:au)(ts:List Tn){R:List Nd}{b:Nat}(hR:RB R b)(hs:sizes ts+b<=90000):
  ∃R',M.bW k op x y kr (JG ((ts.map λt=>t.flat 0)++[R]))=some (false,aP false R',false)/\RB R' (sizes ts+b+1):=by
 have hlen:∀ts:List Tn,lens (ts.map λt=>t.flat 0)=sizes ts:=by
  intro ts;induction ts with
  |nil=>rfl
  |cons t ts ih=>rw[zmc,lens,sizes,t.flat_length,ih]
 have hsl:=zW ts;obtain⟨R',h1,h2,h3⟩:=aqc k op x y kr ((ts.map λt=>t.flat 0)++[R]) (by rw[UD,hlen,lens,lens];have:=hR.1;omega) (by rw[PD,zbb,TG];omega) (by
  intro Q hQ n hn;rcases List.mem_append.1 hQ with hQ|hQ
  ·obtain⟨t,ht,rfl⟩:=List.mem_map.1 hQ;have:=(KF t 0 n hn).1;have:=Ew ht;omega
  ·rw[List.mem_singleton] at hQ;subst hQ;exact hR.2 n hn)
 refine⟨R',h1, ?_,h3⟩;rw[h2,UD,hlen,lens,lens];have:=hR.1;omega
def afR(lv:Nat)(p:Int)(p1 a b p4:Bool)(i:Nat)(ns:List Tk)(h3:3<=lv)(h10:lv<=10):M.kV (lv:Int) p p1 a b p4 (aA l) (i:Int) false (aA ns)=some (oN lv b (aO l i),aA l,(i:Int),false,aA ns):=by
 simp only[M.kV,M.OB,dn,aJ,aW,pJ,ah,Bool.not_false,ayz,oN];generalize aO l i=k;cases h8:Nat.beq lv 8 with
 |true=>have e:=Ia h8;subst e;rfl
 |false=>
  have e8:((lv:Int)==8)=false:=by have:=Nat.ne_of_beq_eq_false h8;rw[nY];omega
  rw[e8,aW,aW];cases h0:k==0 with
  |true=>
   have e:k=0:=by rwa [beq_iff_eq] at h0
   subst e;have:(dP 0==(lv:Int))=false:=by rw[nY];show(0:Int)≠lv;omega
   simp only[this,Bool.false_and,bne,BEq.rfl,zaZ,aW]
  |false=>
   cases ZO:k==99 with
   |true=>
    have e:k=99:=by rwa [beq_iff_eq] at ZO
    subst e;have:(dP 99==(lv:Int))=false:=by have:=Nat.ne_of_beq_eq_false h8;rw[nY];show(8:Int)≠lv;omega
    simp only[this,h0,Bool.false_and,bne,BEq.rfl,zaZ,Bool.not_false,aW,aJ]
   |false=>
    simp only[bne,h0,ZO,Bool.not_false,aJ,aee _,ah];cases dP k==(lv:Int) with
    |false=>rfl
    |true=>cases k==62<;>cases b<;>rfl
def UE{lv:Nat}{b:Bool}{k:Int}(h:Nat.beq lv 7=false):oN lv b k=oN lv (b && Nat.beq lv 7) k:=by
 rw[h,Bool.and_false];unfold oN;cases h8:Nat.beq lv 8 with
 |true=>rfl
 |false=>
  simp only[aW,Bool.false_and,Bool.not_false,Bool.and_true];cases hk:k==62 with
  |false=>simp
  |true=>
   have e:k=62:=by rwa [beq_iff_eq] at hk
   subst e;have:(dP 62==(lv:Int))=false:=by have:=Nat.ne_of_beq_eq_false h;rw[nY];show(7:Int)≠lv;omega
   rw[this];rfl
abbrev T7:=Int×au×Int×Bool×au×Bool×au
def AZ(l:List Tk)(i:Nat)(o:Option T7):PR Xp->Prop
 | .ok x j nt=>∃cnt ns,txt ns=nt/\o=some (cnt,aA l,(j:Int),false,aP false (x.1.flat 0),x.2,aA ns)
 | .bad j=>∃cnt hd ns R,i<=j/\j<=l.length/\ns.length<=l.length/\RB R (3 * (j - i))/\o=some (cnt,aA l,(j:Int),true,aP false R,hd,aA ns)
 | .out=>True
def ZR(hl:l.length<=3000){bd:T7->Option (T7⊕T7)}{lv:Nat}{a b:Bool}{f:au->Int->Bool->au->Option TX}(h3:3<=lv)(h10:lv<=10)
  (hstop:∀(cnt:Nat) (i:Nat) rows hd ns,cnt<3000->bd ((cnt:Int),aA l,(i:Int),true,rows,hd,aA ns)=some (.inr ((cnt:Int),aA l,(i:Int),true,rows,hd,aA ns)))
  (hend:∀(cnt:Nat) (i:Nat) rows hd ns,cnt<3000->oN lv (b && Nat.beq lv 7) (aO l i)=false->bd ((cnt:Int),aA l,(i:Int),false,rows,hd,aA ns)=some (.inr ((cnt:Int),aA l,(i:Int),false,rows,hd,aA ns)))
  (hop:∀(cnt:Nat) (i:Nat) rows hd ns,cnt<3000->oN lv (b && Nat.beq lv 7) (aO l i)=true->i<l.length->ns.length<=i->
   ∃ns1,txt ns1=(bif Nat.beq lv 8 then(i,txt ns) else bif Nat.ble lv 4 then nl l (i+1) (txt ns) else(i+1,txt ns)).2/\
   bd ((cnt:Int),aA l,(i:Int),false,rows,hd,aA ns)=(f (aA l) (((bif Nat.beq lv 8 then(i,txt ns) else bif Nat.ble lv 4 then nl l (i+1) (txt ns) else(i+1,txt ns)).1:Nat):Int) false (aA ns1)).bind λr=>(M.bW 12 (bif Nat.beq lv 8 then 99 else aO l i) [] [] [] (aF [[D.sl false 5 rows],[D.sl false 5 (aF r.2.1)]])).bind λr'=>some (.inl (((cnt+1:Nat):Int),r.2.2.2.1,r.2.2.2.2.1,r.2.2.2.2.2.1,aF r'.2.1,r'.2.2,r.2.2.2.2.2.2))):
  ∀n,(∀n',n'<=n->∀i ns,i<=l.length->ns.length<=i->AX l i (f (aA l) (i:Int) false (aA ns)) (ex l n' (lv+1) a b i (txt ns)))->
   ∀(i0 cnt:Nat) (x:Xp) (i:Nat) (ns:List Tk),cnt<i->i0<i->i<=l.length->ns.length<=i->x.1.size+2 * i0+1<=2 * i->AZ l i0 (dU bd ((cnt:Int),aA l,(i:Int),false,aP false (x.1.flat 0),x.2,aA ns)) (UK l n lv a b x i (txt ns))
 |0,_,_,_,_,_,_,_,_,_,_,_=>by rw[UK];trivial
 |n+1,hrec,i0,cnt,x,i,ns,hcnt,hi0,hi,hn,hsx=>by
  rw[UK];cases hc:oN lv (b && Nat.beq lv 7) (aO l i) with
  |false=>rw[aQ (hend cnt i _ _ ns ak hc)];exact⟨_,ns,rfl,rfl⟩
  |true=>
   have hlt:=eF (GR h3 hc);obtain⟨ns1,et,hq⟩:=hop cnt i (aP false (x.1.flat 0)) x.2 ns ak hc hlt hn;have hqb:FN l i (txt ns).length (bif Nat.beq lv 8 then(i,txt ns) else bif Nat.ble lv 4 then nl l (i+1) (txt ns) else(i+1,txt ns)).1 (bif Nat.beq lv 8 then(i,txt ns) else bif Nat.ble lv 4 then nl l (i+1) (txt ns) else(i+1,txt ns)).2.length:=by
    cases Nat.beq lv 8<;>cases Nat.ble lv 4<;>simp only[aJ,aW]
    ·omega
    ·have:=alf (l:=l) (i:=i+1) (nt:=txt ns) ak;omega
    ·omega
    ·omega
   simp only[aJ];generalize (bif Nat.beq lv 8 then(i,txt ns) else bif Nat.ble lv 4 then nl l (i+1) (txt ns) else(i+1,txt ns))=q at hq hqb et|-;rw[<-et] at hqb|-;simp only[zbb] at hqb;have hr:=hrec n (Nat.le_succ n) q.1 ns1 ak ak;have hs:=(sats l n).ex (lv+1) a b q.1 (txt ns1) ak ak ak;generalize ex l n (lv+1) a b q.1 (txt ns1)=p at hr hs|-;cases p with
   |ok y j m=>
    obtain⟨fl,rows,ns2,h1,rfl,h2⟩:=hr;have hs':FE l q.1 (txt ns1).length y.1.size j (txt ns2).length:=hs;simp only[zbb] at hs';have hp2:sizes [x.1,y.1]=x.1.size+y.1.size:=by simp only[sizes,Nat.add_zero]
    have ho:=aer 12 (bif Nat.beq lv 8 then 99 else aO l i) [] [] [] [x.1,y.1] ak;rw[h2,ah] at hq;simp only[h1,show aF [[D.sl false 5 (aP false (x.1.flat 0))],[D.sl false 5 (aP false (y.1.flat 0))]]=JG ([x.1,y.1].map λt=>t.flat 0) from Pj [x.1.flat 0,y.1.flat 0],ho,ah,bV] at hq;rw[bI hq];exact ZR hl h3 h10 hstop hend hop n (λn' h=>hrec n' ak) i0 (cnt+1) (Tn.mk 12 (bif Nat.beq lv 8 then 99 else aO l i) [] [] [x.1,y.1],false) j ns2 ak ak ak ak (by rw[size2];omega)
   |bad j=>
    obtain⟨fl,rows,hd,ns2,R,g1,g2,g3,g4,g5,h2⟩:=hr;have hp1:sizes [x.1]=x.1.size:=by simp only[sizes,Nat.add_zero]
    obtain⟨R',h5,h6⟩:=aG5 12 (bif Nat.beq lv 8 then 99 else aO l i) [] [] [] [x.1] g5 ak;rw[h2,ah] at hq;simp only[g4,show aF [[D.sl false 5 (aP false (x.1.flat 0))],[D.sl false 5 (aP false R)]]=JG (([x.1].map λt=>t.flat 0)++[R]) from Pj [x.1.flat 0,R],h5,ah,bV] at hq;rw[bI hq];have hcn:j<=3000:=ak;exact⟨_,_,ns2,R',ak,g2,g3,h6.mono ak,aQ (hstop (cnt+1) j _ _ ns2 ak)⟩
   |out=>trivial
variable {l:List Tk}
variable {l:List Tk}
def aqd{a b:Bool}:∀(n:Nat) (L:List Tn) (i:Nat) (nt:kH),L.length<6->(Po l n a b L i nt).sat λL' _ _=>L'.length<=6
 |0,_,_,_,_=>by rw[Po];trivial
 |n+1,L,i,nt,hL=>by
  rw[Po,nM];refine dR apX λx j m _=> ?_
  rw[oz];refine⟨λ_=> ?_,λ_=> ?_⟩
  ·rw[oz];refine⟨λ_=>trivial,λh=> ?_⟩;have:=Nat.ne_of_beq_eq_false h;exact aqd n _ _ _ (by rw[PD,TG];omega)
  ·show(L++[x.1]).length<=6;rw[PD,TG];omega
variable {l:List Tk}
def KB(P:List (List Nd)):Prop:=∀R,R∈P->∀n,n∈R->n.kids.length<=100000
def KB.nil:KB []:=λR h=>by cases h
def KB.cons{R:List Nd}{P:List (List Nd)}(h:∀n,n∈R->n.kids.length<=100000)(hP:KB P):KB (R::P):=by
 intro Q hQ;rcases List.mem_cons.1 hQ with rfl|hQ
 ·exact h
 ·exact hP Q hQ
def auV(t:Tn)(h:t.size<=100000):∀n,n∈t.flat 0->n.kids.length<=100000:=(RB.tree t h).2
def KB.tree{t:Tn}{P:List (List Nd)}(h:t.size<=100000)(hP:KB P):KB (t.flat 0::P):=KB.cons (auV t h) hP
def KB.none{P:List (List Nd)}(hP:KB P):KB ([]::P):=KB.cons (λn h=>by cases h) hP
def KB.trees{P:List (List Nd)}:∀ts:List Tn,sizes ts<=100000->KB P->KB ((ts.map λt=>t.flat 0)++P)
 |[],_,hP=>hP
 |t::ts,h,hP=>by rw[sizes] at h;exact KB.tree ak (KB.trees ts ak hP)
def Ns:∀ts:List Tn,lens (ts.map λt=>t.flat 0)=sizes ts
 |[]=>rfl
 |t::ts=>by rw[zmc,lens,sizes,t.flat_length,Ns ts]
def aes(k op:Int)(x y:aI)(kr:au){P:List (List Nd)}{b:Nat}(hb:lens P<=b)(hl:b<=90000)(hn:P.length<=100000)(hk:KB P):
  ∃R',M.bW k op x y kr (JG P)=some (false,aP false R',false)/\RB R' (b+1):=by
 obtain⟨R',h1,h2,h3⟩:=aqc k op x y kr P ak hn hk;exact⟨R',h1,ak,h3⟩
def aeu(k op:Int)(x y:aI)(kr:au){P:List (List Nd)}{b:Nat}(hb:lens P<=b)(hl:b<=90000)(hn:P.length<=100000)(hk:KB P):
  ∃R',M.dW k op x y kr (JG P)=some (aP true R')/\RB R' (b+1):=by
 obtain⟨R',h1,h2,h3⟩:=aqa k op x y kr P ak hn hk;exact⟨R',h1,ak,h3⟩
def ali(L:List Tn):(parts L).length=L.length:=by simp[parts]
def ai3{L:List Tn}{x:Tn}{rows:au}(h:aF rows=aP false (x.flat 0)):parts L++[[D.sl false 5 (aF rows)]]=parts (L++[x]):=by rw[h];simp[parts]
def alj{L:List Tn}{R:List Nd}{rows:au}(h:aF rows=aP false R):parts L++[[D.sl false 5 (aF rows)]]=JG ((L.map λt=>t.flat 0)++[R]):=by rw[h];simp[parts,JG]
def aDg(m:Nat)(p:Int)(p1 p2 p3 p4:Bool)(i:Nat)(ns:List Tk):M.aY (m+1) p p1 p2 p3 p4 (aA l) (i:Int) true (aA ns)=some (true,[],false,aA l,(i:Int),true,aA ns):=by rw[M.mY];simp only[M.je,M.gI,aJ,dn]
def aT6(n:Nat)(a b a' b':Bool)(i:Nat)(nt:kH):ex l n 15 a b i nt=ex l n 15 a' b' i nt:=by
 cases n with
 |zero=>simp only[ex]
 |succ n=>simp only[ex]
def ayB(a b a' b':Bool):∀(n:Nat) (i:Nat) (nt:kH),ex l n 14 a b i nt=ex l n 14 a' b' i nt
 |0,i,nt=>by simp only[ex]
 |n+1,i,nt=>by simp only[ex,ayB a b a' b' n,aT6 n a b a' b']
abbrev S6:=Int×au×Int×Bool×au×au
def AI(l:List Tk)(e:Int)(i:Nat)(o:Option (S6⊕S6)):PR (List Tn)->Prop
 | .ok L j nt=>∃ns,txt ns=nt/\o=some (.inl (e,aA l,(j:Int),false,parts L,aA ns))
 | .bad j=>∃ns P u,i<=j/\j<=l.length/\ns.length<=l.length/\lens P<=3 * (j - i)/\P.length<=8/\KB P/\o=some u/\(u=.inl (e,aA l,(j:Int),true,JG P,aA ns)\/u=.inr (e,aA l,(j:Int),true,JG P,aA ns))
 | .out=>True
def ayC(hl:l.length<=3000){f:Int->Bool->Bool->Bool->Bool->au->Int->Bool->au->Option TX}(e:Int):
  ∀n,(∀n',n'<n->∀i ns,i<=l.length->ns.length<=i->AX l i (f 1 false false false false (aA l) (i:Int) false (aA ns)) (ex l n' 1 false false i (txt ns)))->
   ∀(i0:Nat) (L:List Tn) (i:Nat) (ns:List Tk) (s:zaO⊕S6),(s=.inl (e,false,aA l,(i:Int),false,[],aA ns)/\L=[]\/s=.inr (e,aA l,(i:Int),false,parts L,aA ns))->
    L.length<6->i0<=i->i<=l.length->ns.length<=i->sizes L+2 * i0<=2 * i->AI l e i0 (M.yQ f s) (Po l n false false L i (txt ns))
 |0,_,_,_,_,_,_,_,_,_,_,_,_=>by rw[Po];trivial
 |n+1,hrec,i0,L,i,ns,s,hs,hL,hi0,hi,hn,hsz=>by
  rw[Po,M.yQ];have hb:M.IJ f s=(f 1 false false false false (aA l) (i:Int) false (aA ns)).bind λacN=>
    (bif(((parts L).length+[[D.sl false 5 (aF acN.2.1)]].length) * 24).ble 140737488355328 then
     (bif((parts L).length+[[D.sl false 5 (aF acN.2.1)]].length).ble 140737488355328 then
     (bif aj acN.2.2.2.2.2.2 then
      ((M.aV acN.2.2.2.1 acN.2.2.2.2.1 acN.2.2.2.2.2.1 acN.2.2.2.2.2.2).bind λac8=>
      (bif ac8.1 !=36 then
       (some (.inr (.inl ((e,ac8.2.1,ac8.2.2.1,ac8.2.2.2.1,parts L++[[D.sl false 5 (aF acN.2.1)]],ac8.2.2.2.2))))) else
       (bif((parts L++[[D.sl false 5 (aF acN.2.1)]]).length:Int)==6 then
       (bif aj ac8.2.2.2.2 then
        ((M.bf 36 ac8.2.1 ac8.2.2.1 true ac8.2.2.2.2).bind λayD=>
        (bif aj ayD.2.2.2.2.2.2 then
         ((M.jv ayD.2.2.2.1 ayD.2.2.2.2.1 ayD.2.2.2.2.2.1 ayD.2.2.2.2.2.2).bind λaDh=>
         (some (.inl (.inr ((e,aDh.1,aDh.2.1,aDh.2.2.1,parts L++[[D.sl false 5 (aF acN.2.1)]],aDh.2.2.2)))))) else none)) else none) else
       (bif aj ac8.2.2.2.2 then
        ((M.bf 36 ac8.2.1 ac8.2.2.1 ac8.2.2.2.1 ac8.2.2.2.2).bind λayE=>
        (bif aj ayE.2.2.2.2.2.2 then
         ((M.jv ayE.2.2.2.1 ayE.2.2.2.2.1 ayE.2.2.2.2.2.1 ayE.2.2.2.2.2.2).bind λaDi=>
         (some (.inl (.inr ((e,aDi.1,aDi.2.1,aDi.2.2.1,parts L++[[D.sl false 5 (aF acN.2.1)]],aDi.2.2.2)))))) else none)) else none)))) else none) else none) else none):=by
   rcases hs with⟨rfl,rfl⟩|rfl
   ·simp only[I7,M.IJ,M.Dj,M.fO,M.MX,Bool.not_false,aJ,dn,ah];rfl
   ·simp only[I7,M.IJ,M.Dj,M.fO,M.MX,Bool.not_false,aJ,dn,ah]
  have hr:=hrec n (Nat.lt_succ_self n) i ns hi hn;have abO:=(sats l n).ex 1 false false i (txt ns) ak ak hi;generalize ex l n 1 false false i (txt ns)=p at hr abO|-;cases p with
  |out=>trivial
  |bad j=>
   obtain⟨fl,rows,hd,ns',R,g1,g2,g3,g4,g5,h2⟩:=hr;have hP:lens ((L.map λt=>t.flat 0)++[R])<=3 * (j - i0):=by rw[UD,Ns,lens,lens];have:=g5.1;omega
   have hKB:KB ((L.map λt=>t.flat 0)++[R]):=KB.trees L ak (KB.cons g5.2 KB.nil);have hlen:((L.map λt=>t.flat 0)++[R]).length<=8:=by rw[PD,zbb,TG];omega
   rw[h2,ah] at hb;simp only[alj g4,ali,TG,dn,aJ,pJ,ah,bne,Ph,aqb] at hb;rw[fM ak,aJ,fM ak,aJ] at hb;simp only[PR.bind];cases hc:aO l j==36 with
   |false=>simp only[hc,Bool.not_false,aJ] at hb;exact⟨ns',_,_,ak,g2,g3,hP,hlen,hKB,aQ hb,.inl rfl⟩
   |true=>simp only[hc,zaZ,aW,Bool.cond_self] at hb;rw[bI hb];exact⟨ns',_,_,ak,g2,g3,hP,hlen,hKB,aQ rfl,.inr rfl⟩
  |ok x j m=>
   obtain⟨fl,rows,ns',h1,rfl,h2⟩:=hr;have hs':FE l i (txt ns).length x.1.size j (txt ns').length:=abO;simp only[zbb] at hs';rw[h2,ah] at hb;simp only[ai3 h1,ali,TG,PD,dn,aJ,pJ,ah,bne] at hb;rw[fM ak,aJ,fM ak,aJ] at hb;simp only[PR.bind];cases hc:aO l j==36 with
   |false=>simp only[hc,Bool.not_false,aJ] at hb;rw[aQ hb];exact⟨ns',rfl,rfl⟩
   |true=>
    have hlt:=jZ hc (by decide);have e36:aO l j=36:=by rwa [beq_iff_eq] at hc
    simp only[hc,zaZ,aW] at hb;simp only[aJ];cases h6:Nat.beq (L.length+1) 6 with
    |true=>
     have e:=Ia h6;have e':(((L.length+1:Nat):Int)==6)=true:=by rw[e];rfl
     simp only[e',aJ,Ph,aqb,ah,dn] at hb;rw[bI hb];refine⟨ns',(L++[x.1]).map λt=>t.flat 0,.inr _,ak,ak,ak, ?_, ?_, ?_,aQ rfl,.inr (by rw[Nq])⟩
     ·rw[Ns,sizes1];omega
     ·rw[zbb,PD,TG];omega
     ·have:=KB.trees (P:=[]) (L++[x.1]) (by rw[sizes1];omega) KB.nil
      rwa [List.append_nil] at this
    |false=>
     have hne:L.length+1≠6:=Nat.ne_of_beq_eq_false h6;have e':(((L.length+1:Nat):Int)==6)=false:=by rw[nY];omega
     obtain⟨ns2,t2,hln⟩:=am4 hl (j+1) ns' ak ak;have hf:=alf (l:=l) (i:=j+1) (nt:=txt ns') ak;simp only[e',aW,qQ hl e36 (by decide),ah,dn,aJ,hln] at hb;rw[bI hb,aW,<-t2];rw[<-t2] at hf;simp only[zbb] at hf;exact ayC hl e n (λn' h=>hrec n' ak) i0 (L++[x.1]) _ ns2 _ (.inr rfl) (by rw[PD,TG];omega) ak ak ak (by rw[sizes1];omega)
def arN(l:List Tk)(n:Nat)(e:Int)(i:Nat)(nt:kH):PR (List Tn):=(Po l n false false [] i nt).bind λL i nt=>(qH l e i nt).bind λ_ i nt=> .ok L i nt
def aqe(hl:l.length<=3000){e:Int}(he:e≠0){i0 n i:Nat}{ns:List Tk}(hi:i<=l.length)(hi0:i0<=i)(hn:ns.length<=i){o:Option (S6⊕S6)}(h:AI l e i0 o (Po l n false false [] i (txt ns))):
  AY l i0 (o.bind λu=>kT u (λt=>bif aj t.2.2.2.2.2 then(M.bf t.1 t.2.1 t.2.2.1 t.2.2.2.1 t.2.2.2.2.2).bind λr=>bif aj r.2.2.2.2.2.2 then some (true,t.2.2.2.2.1,r.2.2.2.1,r.2.2.2.2.1,r.2.2.2.2.2.1,r.2.2.2.2.2.2) else none else none) λu=>letE u λt=>bif aj t.2.2.2.2.2 then(M.bf t.1 t.2.1 t.2.2.1 t.2.2.2.1 t.2.2.2.2.2).bind λr=>bif aj r.2.2.2.2.2.2 then some (true,t.2.2.2.2.1,r.2.2.2.1,r.2.2.2.2.1,r.2.2.2.2.2.1,r.2.2.2.2.2.2) else none else none) (arN l n e i (txt ns)):=by
 rw[arN];have abO:=asT (l:=l) (n:=n) (a:=false) (b:=false) (nt:=txt ns) hi;have hsh:=aqd (l:=l) (a:=false) (b:=false) n [] i (txt ns) (by decide);generalize Po l n false false [] i (txt ns)=p at h abO hsh|-;cases p with
 |out=>trivial
 |bad j=>
  obtain⟨ns',P,u,g1,g2,g3,g4,g5,g6,rfl,rfl|rfl⟩:=h
  ·simp only[ah,kT,dn,aJ,Ph];exact⟨_,ns',P,g1,g2,g3,g4,g5,g6,rfl⟩
  ·simp only[ah,kT,letE,dn,aJ,Ph];exact⟨_,ns',P,g1,g2,g3,g4,g5,g6,rfl⟩
 |ok L j m=>
  obtain⟨ns',rfl,rfl⟩:=h;have hs':FE l i (txt ns).length (sizes L) j (txt ns').length:=abO;have h6:L.length<=6:=hsh;simp only[zbb] at hs';simp only[ah,kT,dn,aJ,PR.bind,qH];cases hc:aO l j==e with
  |true=>
   have e1:aO l j=e:=by rwa [beq_iff_eq] at hc
   simp only[qQ hl e1 he,ah,dn,aJ];exact⟨_,ns',rfl,rfl⟩
  |false=>
   simp only[Vf hc,ah,dn,aJ,aW];refine⟨_,ns',L.map λt=>t.flat 0,ak,ak,ak, ?_, ?_, ?_,by rw[Nq]⟩
   ·rw[Ns];omega
   ·rw[zbb];omega
   ·have:=KB.trees (P:=[]) L ak KB.nil
    rwa [List.append_nil] at this
def ayF(hl:l.length<=3000){e:Int}(he:e≠0){m n i:Nat}{ns:List Tk}(h:∀n',n'<n->∀i ns,i<=l.length->ns.length<=i->AX l i (M.aY m 1 false false false false (aA l) (i:Int) false (aA ns)) (ex l n' 1 false false i (txt ns)))(hi:i<=l.length)(hn:ns.length<=i):
  AY l i (M.qx (m+1) e 1 (aA l) (i:Int) false (aA ns)) (arN l n e i (txt ns)):=by
 rw[M.Uu];have h10:((1:Int)==0)=false:=rfl;simp only[M.xZ,M.vO,h10,aW];exact aqe hl he hi (zba i) hn (ayC hl e n h i [] i ns _ (.inl ⟨rfl,rfl⟩) (by decide) (zba i) hi hn (by rw[sizes0];omega))
def aG6(hl:l.length<=3000){m n i:Nat}{ns:List Tk}(h:∀n',n'<n->∀i ns,i<=l.length->ns.length<=i->AX l i (M.aY m 1 false false false false (aA l) (i:Int) false (aA ns)) (ex l n' 1 false false i (txt ns)))(hi:i<=l.length)(hn:ns.length<=i):
  AY l i (M.qx (m+1) 33 0 (aA l) (i:Int) false (aA ns)) (Bv l (n+1) 33 i (txt ns)):=by
 rw[M.Uu,Bv];simp only[M.xZ,M.vO,BEq.rfl,aJ,dn,pJ,ah];cases hc:aO l i==33 with
 |true=>
  have e1:aO l i=33:=by rwa [beq_iff_eq] at hc
  simp only[aJ,qQ hl e1 (by decide),ah,dn];exact⟨_,ns,rfl,rfl⟩
 |false=>simp only[aW];exact aqe hl (by decide) hi (zba i) hn (ayC hl 33 n h i [] i ns _ (.inl ⟨rfl,rfl⟩) (by decide) (zba i) hi hn (by rw[sizes0];omega))
def aDj(m:Nat)(i:Nat)(ns:List Tk):M.qx (m+1) 33 0 (aA l) (i:Int) true (aA ns)=some (true,[],aA l,(i:Int),true,aA ns):=by
 rw[M.Uu];simp only[M.xZ,M.vO,BEq.rfl,aJ,dn,pJ,ah,Ph];cases aO l i==33 with
 |true=>rfl
 |false=>simp only[aW];rw[show M.yQ _ _=_ from aQ rfl];simp only[ah,kT,letE,dn,aJ,Ph]
end Go.Proofs.YthmchnpcplgciaaGreatDoor
namespace Go.Proofs.YthmchnpcplgciaaGreatDoor
open Go Go.Vm
variable {l:List Tk}
structure Bk(l:List Tk)(n:Nat):Prop where
 ex:∀{lv:Nat} {a b:Bool} {i:Nat} {nt:kH} {x:Xp} {j:Nat} {m:kH},1<=lv->lv<=15->i<=l.length->ex l n lv a b i nt=.ok x j m->NC l i j->Dv l x lv a b i j
 ch:∀{lv:Nat} {a b:Bool} {x:Xp} {i:Nat} {nt:kH} {y:Xp} {j:Nat} {m:kH} {i0:Nat},(lv=3\/lv=4\/lv=8\/lv=9\/lv=10)->i<=l.length->i0<=i->UK l n lv a b x i nt=.ok y j m->NC l i0 j->Dv l x lv a b i0 i->Dv l y lv a b i0 j
 inp:∀{a b:Bool} {x:Xp} {i:Nat} {nt:kH} {y:Xp} {j:Nat} {m:kH} {i0:Nat},i<=l.length->i0<=i->TQ l n a x i nt=.ok y j m->NC l i0 j->Dv l x 5 a b i0 i->Dv l y 5 a b i0 j
 pre:∀{i:Nat} {nt:kH} {x:Xp} {j:Nat} {m:kH},i<l.length->isStep (aO l i)=true->I8 l n i nt=.ok x j m->NC l i j->x.2=false/\x.1.kind=9/\∀p,gY p=true->Dx l (.nv x.1 p) i j
 lst:∀{i:Nat} {nt:kH} {L:List Tn} {j:Nat} {m:kH},i<=l.length->Bv l n 33 i nt=.ok L j m->NC l i j->∃j',j=j'+1/\aO l j'=33/\((L=[]/\j'=i)\/(Dx l (.ls L) i j'/\L.length<=6))
 it:∀{L:List Tn} {i:Nat} {nt:kH} {L':List Tn} {j:Nat} {m:kH},i<=l.length->Po l n false false L i nt=.ok L' j m->NC l i j->L.length<6->∃K,L'=L++K/\Dx l (.ls K) i j/\L'.length<=6
def aT7{k:Int}:(dP k=3->k=44)/\(dP k=4->k=45)/\(dP k=6->k=67\/k=46)/\(dP k=8->k=99)/\(dP k=12->k=60):=by
 unfold dP;cases h1:k==44<;>cases h2:k==45<;>cases h3:(k==67||k==46)<;>cases h4:(k==63||(k==48||(k==47||(k==50||(k==62||k==49)))))<;>cases h5:k==99<;>cases h6:(k==55||k==56)<;>cases h7:(k==57||(k==58||k==59))<;>cases h8:k==60<;>
  simp_all only[aJ,aW,beq_iff_eq,Bool.or_eq_true]<;>(refine⟨λh=> ?_,λh=> ?_,λh=> ?_,λh=> ?_,λh=> ?_⟩<;>first|omega|assumption|(cases h)|rfl)
def aEC{lv:Nat}{b:Bool}{k:Int}(h8:lv≠8)(h:oN lv b k=true):dP k=(lv:Int)/\(b=true->k≠62):=by unfold oN at h;rw[show Nat.beq lv 8=false from by cases hq:Nat.beq lv 8 with|false=>rfl|true=>rw[Nat.beq_eq] at hq;exact absurd hq h8,aW,wo,beq_iff_eq] at h;refine⟨h.1,λhb e=> ?_⟩;have h2:=h.2;rw[hb,e] at h2;cases h2
def UF{op:Int}:(dP op=3->sides op=(3,4))/\(dP op=4->sides op=(4,5))/\(dP op=6->sides op=(7,7))/\(dP op=7->sides op=(8,8))/\(dP op=9->sides op=(9,10))/\(dP op=10->sides op=(10,11))/\(dP op=12->sides op=(13,11)):=by unfold sides;refine⟨?_, ?_, ?_, ?_, ?_, ?_, ?_⟩<;>(intro h;rw[h];rfl)
def aED{lv:Nat}{i:Nat}(h:dP (aO l i)=(lv:Int))(h8:lv≠8):aO l i≠99:=λe=>by rw[e] at h;have:dP 99=8:=rfl;omega
section
variable {n:Nat} (H:Bk l n)
include H
theorem aT8{lv:Nat}{a b:Bool}{x:Xp}{i:Nat}{nt:kH}{y:Xp}{j:Nat}{m:kH}{i0:Nat}(hc:lv=3\/lv=4\/lv=8\/lv=9\/lv=10)(hi:i<=l.length)(h0:i0<=i)(h:UK l (n+1) lv a b x i nt=.ok y j m)(hn:NC l i0 j)(d:Dv l x lv a b i0 i):Dv l y lv a b i0 j:=by
 rw[UK] at h;have h7:Nat.beq lv 7=false:=by rcases hc with rfl|rfl|rfl|rfl|rfl<;>rfl
 rw[h7,Bool.and_false] at h;cases ho:oN lv false (aO l i) with
 |false=>rw[ho,aW] at h;cases h;exact d
 |true=>
 rw[ho,aJ] at h;simp only at h;obtain⟨y1,i2,m2,e2,h⟩:=jf h;have hlt:i<l.length:=eF (GR ak ho);have hge:∀{q:Nat},q<=l.length->∀{nt},ex l n (lv+1) a b q nt=.ok y1 i2 m2->q<i2/\i2<=l.length:=λhq nt e=>by have:=lK ((sats l n).ex (lv+1) a b _ nt ak ak hq) e;exact⟨this.1,this.2.1⟩
 have hj2:i2<=l.length->i2<=j:=λhi2=>by have:=lK ((sats l n).ch lv a b _ i2 m2 ak ak hi2) h;exact this.1.1
 by_cases h8:lv=8
 ·subst h8;rw[show Nat.beq 8 8=true from rfl] at e2 h;simp only[aJ] at e2 h;have g:=hge hi e2;have hb:O9 (aO l i)=true:=ho;have hjj:=hj2 g.2;exact H.ch hc g.2 ak h hn (d.cat hb (H.ex ak ak hi e2 (hn.sub h0 hjj)))
 ·have hq8:Nat.beq lv 8=false:=by
   cases hq:Nat.beq lv 8 with
   |false=>rfl
   |true=>rw[Nat.beq_eq] at hq;exact absurd hq h8
  rw[hq8] at e2 h;simp only[aW] at e2 h;have hop:=(aEC h8 ho).1;have ZO:=aED hop h8;cases h4:Nat.ble lv 4 with
  |true=>
   rw[h4,aJ] at e2;rw[Nat.ble_eq] at h4;have g:=hge (ayi _ ak) e2;have hjj:=hj2 g.2;have hps:=asQ (nt:=nt) (hn.sub (show i0<=i+1 by omega) (zba j)) ak;have hnl:=apL (l:=l) (i+1) nt;have de:=H.ex ak ak (ayi _ ak) e2 (hn.sub ak hjj);have hk:aO l i=44\/aO l i=45:=by rcases hc with rfl|rfl|rfl|rfl|rfl<;>first|exact .inl (aT7.1 hop)|exact .inr (aT7.2.1 hop)|omega
   have hs:sides (aO l i)=((lv:Int),((lv+1:Nat):Int)):=by rcases hc with rfl|rfl|rfl|rfl|rfl<;>first|exact UF.1 hop|exact UF.2.1 hop|omega
   exact H.ch hc g.2 ak h hn (d.bin hop ak ak hs (λ_=>by omega) ZO (by rw[if_pos hk];exact hps) de ak)
  |false=>
   rw[h4,aW] at e2;have h4':¬lv<=4:=λe=>by rw[<-Nat.ble_eq,h4] at e;cases e
   have g:=hge (show i+1<=l.length by omega) e2;have hjj:=hj2 g.2;have de:=H.ex ak ak ak e2 (hn.sub ak hjj);have hk:¬(aO l i=44\/aO l i=45):=by rintro(e|e)<;>(rw[e] at hop;have h44:dP 44=3:=rfl;have h45:dP 45=4:=rfl;omega)
   have h62:aO l i≠62:=λe=>by rw[e] at hop;have:dP 62=7:=rfl;omega
   have hs:sides (aO l i)=((lv:Int),((lv+1:Nat):Int)):=by rcases hc with rfl|rfl|rfl|rfl|rfl<;>first|exact UF.2.2.2.2.1 hop|exact UF.2.2.2.2.2.1 hop|omega
   exact H.ch hc g.2 ak h hn (d.bin hop ak ak hs (λ_=>h62) ZO (by rw[if_neg hk]) de ak)
theorem aG7{a b:Bool}{x:Xp}{i:Nat}{nt:kH}{y:Xp}{j:Nat}{m:kH}{i0:Nat}(hi:i<=l.length)(h0:i0<=i)(h:TQ l (n+1) a x i nt=.ok y j m)(hn:NC l i0 j)(d:Dv l x 5 a b i0 i):Dv l y 5 a b i0 j:=by
 rw[TQ] at h;cases hc:aO l i==24 && !a with
 |false=>rw[hc,aW] at h;cases h;exact d
 |true=>
  rw[hc,aJ] at h;rw[wo,beq_iff_eq] at hc;obtain⟨s1,i2,m2,e2,h⟩:=jf h;obtain⟨k6,rfl,rfl⟩:=apW e2;have ha:a=false:=by cases a<;>first|rfl|cases hc.2
  subst ha;have hlt:=eF (l:=l) (i:=i+1) ak;refine H.inp (show i+1+1<=l.length by omega) ak h hn λs hs=> ?_
  have hp:=UC (lv:=5) ak ak false b s;refine .node (Bh hp (show lvl 13 0≠0 by decide) ⟨λe=>(by cases e),λ_ c=>(by have:=c.1;cases this),λ_=>by show(13:Int)≠4/\(13:Int)≠9/\(13:Int)≠11;decide⟩ (.inl (show((5:Nat):Int)<=5 by omega))) ?_;refine .in1 (h:=x.2) ?_ hc.1 k6;rw[FB hp ak (by decide) (by decide) (λ_=>zba 1)];have:=d s hs;cases s<;>exact this
theorem aG8{i:Nat}{nt:kH}{x:Xp}{j:Nat}{m:kH}(hi:i<l.length)(hst:isStep (aO l i)=true)(h:I8 l (n+1) i nt=.ok x j m)(hn:NC l i j)(hlv:∀{y:Xp} {j m},ex l n 14 false false (i+1) nt=.ok y j m->(aO l (i+1)=6\/aO l (i+1)=68)->y.2=false/\Ee y.1.kind=true):x.2=false/\x.1.kind=9/\∀p,gY p=true->Dx l (.nv x.1 p) i j:=by
 rw[I8] at h;cases hc:(aO l (i+1)==68||aO l (i+1)==6) with
 |false=>rw[hc] at h;cases h
 |true=>
  rw[hc,aJ] at h;obtain⟨y,j2,m2,e2,h⟩:=jf h;cases h;rw[Bool.or_eq_true,beq_iff_eq,beq_iff_eq] at hc;obtain⟨g1,g2⟩:=hlv e2 hc.symm;have d:=H.ex ak ak ak e2 (hn.sub ak (zba _));refine⟨rfl,rfl,λp hp=> .pre hst g2 ?_⟩;have:=d false (λe=>by cases e);rw[g1] at this;have q:=agb this;have ho:isStep (aO l i)=true:=hst;refine asR (p:=⟨(14:Nat),false,p.nN,p.oC,false⟩) ?_ (UC ak ak _ _ _) ?_ ?_ ?_ ?_
  ·
   have e':ex l n 14 p.nN p.oC (i+1) nt=.ok y j m:=by rw[<-ayB false false p.nN p.oC];exact e2
   have d':=H.ex ak ak ak e' (hn.sub ak (zba _));have:=d' false (λe=>by cases e);rw[g1] at this;exact(agb this).2
  ·rw[FB hp ak (by show(13:Int)≠0;decide) (by show(13:Int)≠15;decide) (λe=>by cases e)];rfl
  all_goals rw[FB hp ak (by show(13:Int)≠0;decide) (by show(13:Int)≠15;decide) (λe=>by cases e)]
  rfl
theorem aT9{L:List Tn}{i:Nat}{nt:kH}{L':List Tn}{j:Nat}{m:kH}(hi:i<=l.length)(h:Po l (n+1) false false L i nt=.ok L' j m)(hn:NC l i j)(h6:L.length<6):∃K,L'=L++K/\Dx l (.ls K) i j/\L'.length<=6:=by
 rw[Po] at h;obtain⟨x,i2,m2,e2,h⟩:=jf h;have g:=lK ((sats l n).ex 1 false false i nt ak ak hi) e2;cases hc:aO l i2==36 with
 |false=>rw[hc,aW] at h;cases h;have d:=H.ex ak ak hi e2 hn false (λe=>by cases e);exact⟨[x.1],rfl,.one d,by simp;omega⟩
 |true=>
  rw[hc,aJ] at h;rw[beq_iff_eq] at hc;cases h5:Nat.beq (L.length+1) 6 with
  |true=>rw[h5] at h;cases h
  |false=>
   rw[h5,aW] at h;have hl:L.length+1≠6:=λe=>by rw[e] at h5;cases h5
   have hlt:=eF (l:=l) (i:=i2) ak;have hnl:=ayi (l:=l) (i:=i2+1) m2 ak;have hge:=apL (l:=l) (i2+1) m2;have g2:=lK ((sats l n).it false false (L++[x.1]) _ _ hnl) h;obtain⟨K,k1,k2,k3⟩:=H.it hnl h (hn.sub ak (zba _)) (by rw[PD,TG];omega);have d:=H.ex ak ak hi e2 (hn.sub (zba _) ak) false (λe=>by cases e);refine⟨x.1::K,by rw[k1,VN];rfl, ?_,k3⟩;exact .cons d hc (asQ (hn.sub (show i<=i2+1 by omega) (zba _)) ak) k2
theorem aG9{i:Nat}{nt:kH}{L:List Tn}{j:Nat}{m:kH}(hi:i<=l.length)(h:Bv l (n+1) 33 i nt=.ok L j m)(hn:NC l i j):∃j',j=j'+1/\aO l j'=33/\((L=[]/\j'=i)\/(Dx l (.ls L) i j'/\L.length<=6)):=by
 rw[Bv] at h;cases hc:aO l i==33 with
 |true=>rw[hc,aJ] at h;cases h;rw[beq_iff_eq] at hc;exact⟨i,rfl,hc,.inl ⟨rfl,rfl⟩⟩
 |false=>rw[hc,aW] at h;obtain⟨L1,i2,m2,e2,h⟩:=jf h;obtain⟨u,i3,m3,e3,h⟩:=jf h;obtain⟨k33,rfl⟩:=WJ e3;cases h;obtain⟨K,k1,k2,k3⟩:=H.it hi e2 (hn.sub (zba _) ak) (by decide);rw[List.nil_append] at k1;subst k1;exact⟨i2,rfl,k33,.inr ⟨k2,k3⟩⟩
end
end Go.Proofs.YthmchnpcplgciaaGreatDoor
namespace Go.Proofs.YthmchnpcplgciaaGreatDoor
open Go Go.Vm
variable {l:List Tk}
def aDk(A:List Nd):aF [[D.sl false 5 (aP false A)]]=JG [A]:=Pj [A]
def aDl(A B:List Nd):aF [[D.sl false 5 (aP false A)],[D.sl false 5 (aP false B)]]=JG [A,B]:=Pj [A,B]
def aUa(A B C:List Nd):aF [[D.sl false 5 (aP false A)],[D.sl false 5 (aP false B)],[D.sl false 5 (aP false C)]]=JG [A,B,C]:=Pj [A,B,C]
def arO:aF ([]:au)=aP false []:=rfl
def KG(hl:l.length<=3000){i q n0:Nat}{k op:Int}(ts:List Tn){o:Option TX}{p:PR Xp}(h:AX l q o p)(hq:i<=q)(hs:sizes ts+3 * i+1<=3 * q)(abO:p.sat λx j m=>FE l q n0 x.1.size j m.length):
  AX l i (o.bind λr=>(M.bW k op [] [] [] (aF (parts ts++[[D.sl false 5 (aF r.2.1)]]))).bind λr'=>
   bif aj r.2.2.2.2.2.2 then some (false,aF r'.2.1,r'.2.2,r.2.2.2.1,r.2.2.2.2.1,r.2.2.2.2.2.1,r.2.2.2.2.2.2) else none)
   (p.bind λy j nt=> .ok (.mk k op [] [] (ts++[y.1]),false) j nt):=by
 have hlen:(ts.map λt=>t.flat 0).length<=sizes ts:=by rw[zbb];exact zW ts
 cases p with
 |out=>trivial
 |bad j=>obtain⟨fl,rows,hd,ns,R,g1,g2,g3,g4,g5,rfl⟩:=h;have hK:=KB.trees ts ak (KB.cons g5.2 KB.nil);obtain⟨R',e1,e2⟩:=aes k op [] [] [] (P:=(ts.map λt=>t.flat 0)++[R]) (b:=sizes ts+3 * (j - q)) (by rw[UD,Ns,lens,lens];have:=g5.1;omega) ak (by rw[PD,TG];omega) hK;simp only[ah,alj g4,Pj,e1,dn,aJ,bV];exact AX.sU ak g2 g3 (bV _ _) (e2.mono ak)
 |ok y j m=>obtain⟨fl,rows,ns,h1,rfl,rfl⟩:=h;have hs':FE l q n0 y.1.size j (txt ns).length:=abO;have ho:=aer k op [] [] [] (ts++[y.1]) (by rw[sizes1];omega);simp only[ah,ai3 h1];simp only[Nq,Pj,ho,ah,dn,aJ,bV];exact AX.mk (bV _ _) rfl
structure RX(l:List Tk)(n m:Nat):Prop where
 a1:∀{p1 p4:Bool} a b (i:Nat) ns,i<=l.length->ns.length<=i->AX l i (M.aY m 1 p1 a b p4 (aA l) (i:Int) false (aA ns)) (ex l n 1 a b i (txt ns))
 a2:∀{p1 p4:Bool} a b (i:Nat) ns,i<=l.length->ns.length<=i->AX l i (M.aY m 2 p1 a b p4 (aA l) (i:Int) false (aA ns)) (ex l n 2 a b i (txt ns))
 a3:∀{p1 p4:Bool} a b (i:Nat) ns,i<=l.length->ns.length<=i->AX l i (M.aY m 3 p1 a b p4 (aA l) (i:Int) false (aA ns)) (ex l n 3 a b i (txt ns))
 a4:∀{p1 p4:Bool} a b (i:Nat) ns,i<=l.length->ns.length<=i->AX l i (M.aY m 4 p1 a b p4 (aA l) (i:Int) false (aA ns)) (ex l n 4 a b i (txt ns))
 a5:∀{p1 p4:Bool} a b (i:Nat) ns,i<=l.length->ns.length<=i->AX l i (M.aY m 5 p1 a b p4 (aA l) (i:Int) false (aA ns)) (ex l n 5 a b i (txt ns))
 a6:∀{p1 p4:Bool} a b (i:Nat) ns,i<=l.length->ns.length<=i->AX l i (M.aY m 6 p1 a b p4 (aA l) (i:Int) false (aA ns)) (ex l n 6 a b i (txt ns))
 a7:∀{p1 p4:Bool} a b (i:Nat) ns,i<=l.length->ns.length<=i->AX l i (M.aY m 7 p1 a b p4 (aA l) (i:Int) false (aA ns)) (ex l n 7 a b i (txt ns))
 a8:∀{p1 p4:Bool} a b (i:Nat) ns,i<=l.length->ns.length<=i->AX l i (M.aY m 8 p1 a b p4 (aA l) (i:Int) false (aA ns)) (ex l n 8 a b i (txt ns))
 a9:∀{p1 p4:Bool} a b (i:Nat) ns,i<=l.length->ns.length<=i->AX l i (M.aY m 9 p1 a b p4 (aA l) (i:Int) false (aA ns)) (ex l n 9 a b i (txt ns))
 a10:∀{p1 p4:Bool} a b (i:Nat) ns,i<=l.length->ns.length<=i->AX l i (M.aY m 10 p1 a b p4 (aA l) (i:Int) false (aA ns)) (ex l n 10 a b i (txt ns))
 a11:∀{p1 p4:Bool} a b (i:Nat) ns,i<=l.length->ns.length<=i->AX l i (M.aY m 11 p1 a b p4 (aA l) (i:Int) false (aA ns)) (ex l n 11 a b i (txt ns))
 a12:∀{p1 p4:Bool} a b (i:Nat) ns,i<=l.length->ns.length<=i->AX l i (M.aY m 12 p1 a b p4 (aA l) (i:Int) false (aA ns)) (ex l n 12 a b i (txt ns))
 a13:∀{p1 p4:Bool} a b (i:Nat) ns,i<=l.length->ns.length<=i->AX l i (M.aY m 13 p1 a b p4 (aA l) (i:Int) false (aA ns)) (ex l n 13 a b i (txt ns))
 a14:∀{p1 p4:Bool} a b (i:Nat) ns,i<=l.length->ns.length<=i->AX l i (M.aY m 14 p1 a b p4 (aA l) (i:Int) false (aA ns)) (ex l n 14 a b i (txt ns))
 a15:∀{p1 p4:Bool} a b (i:Nat) ns,i<=l.length->ns.length<=i->AX l i (M.aY m 15 p1 a b p4 (aA l) (i:Int) false (aA ns)) (ex l n 15 a b i (txt ns))
 pow:∀p p1 a b p4 (i:Nat) ns,i<=l.length->ns.length<=i->AX l i (M.H8 m p p1 a b p4 (aA l) (i:Int) false (aA ns)) (ex l n 12 a b i (txt ns))
 pri:∀a b (i:Nat) ns,i<=l.length->ns.length<=i->AX l i (M.yD m (aA l) (i:Int) false (aA ns)) (ex l n 15 a b i (txt ns))
 pre:∀p p1 a b p4 (i:Nat) ns,i<l.length->ns.length<=i->isStep (aO l i)=true->AX l i (M.zJ m p p1 a b p4 (aA l) (i:Int) false (aA ns)) (I8 l n i (txt ns))
def I4{n lv i:Nat}{a b:Bool}{ns:List Tk}(h1:1<=lv)(h2:lv<=15)(hi:i<=l.length):(ex l n lv a b i (txt ns)).sat λx j m=>FE l i ns.length x.1.size j m.length:=by have:=(sats l n).ex lv a b i (txt ns) h1 h2 hi;simpa only[zbb] using this
section
variable {n m:Nat} (hl:l.length<=3000)
include hl
theorem auW(h:RX l n m)(p:Int)(p1 a b p4:Bool)(i:Nat)(ns:List Tk)(hi:i<=l.length)(hn:ns.length<=i):AX l i (M.Ky (m+1) p p1 a b p4 (aA l) (i:Int) false (aA ns)) (ex l (n+1) 1 a b i (txt ns)):=by
 rw[M.ad7];simp only[M.zO,M.bF,M.dY,ah,dn,aJ,ex];refine AX.elim (Q:=AX l i) (h.a2 a b i ns hi hn) (λ_=>trivial) (λfl rows hd j ns R g1 g2 g3 g4 g5=> ?_) (λx fl rows j ns h1 he=> ?_)
 ·simp only[aJ,dn];exact AX.sU g1 g2 g3 (fzN g4) g5
 ·have hs:=lK (I4 ak ak hi) he;simp only[zbb] at hs;simp only[aW,h1,ayA x.1 x.2 ak,ah,dn,aJ,pJ,(Ry _).1];rw[show(!x.2 && Ee x.1.kind)=tgt x from rfl];cases ht:tgt x with
  |false=>simp only[Bool.not_false,aJ,Bool.false_and,aW];exact AX.mk (bV _ _) rfl
  |true=>
   simp only[zaZ,aW,Bool.true_and];cases hc:F7 (aO l j) with
   |false=>simp only[Bool.not_false,aJ,aW];exact AX.mk (bV _ _) rfl
   |true=>have hlt:=eF (aeg hc);simp only[zaZ,aW,aJ,qQ hl rfl (aeg hc),ah,dn];exact KG hl [x.1] (h.a1 a b (j+1) ns ak ak) ak (by simp only[sizes];omega) (I4 ak ak ak)
theorem aDm(h:RX l n m)(hm:1<=m)(p:Int)(p1 a b p4:Bool)(i:Nat)(ns:List Tk)(hi:i<=l.length)(hn:ns.length<=i):AX l i (M.OH (m+1) p p1 a b p4 (aA l) (i:Int) false (aA ns)) (ex l (n+1) 2 a b i (txt ns)):=by
 obtain⟨m1,rfl⟩:∃m1,m=m1+1:=⟨m - 1,ak⟩
 rw[M.aio];simp only[M.EY,M.bF,M.dY,ah,dn,aJ,ex];refine AX.elim (Q:=AX l i) (h.a3 a b i ns hi hn) (λ_=>trivial) (λfl rows hd j ns R g1 g2 g3 g4 g5=> ?_) (λx fl rows j ns h1 he=> ?_)
 ·simp only[aJ,dn];exact AX.sU g1 g2 g3 (fzN g4) g5
 ·have hs:=lK (I4 ak ak hi) he;simp only[zbb] at hs;simp only[aW,h1,ah,dn,aJ,pJ,bne];cases hc:aO l j==65 with
  |false=>simp only[Bool.not_false,aJ,aW];exact AX.mk (bV _ _) rfl
  |true=>
   have hlt:=jZ hc (by decide);have e65:aO l j=65:=by rwa [beq_iff_eq] at hc
   simp only[zaZ,aW,aJ,qQ hl e65 (by decide),ah,dn];refine AX.elim (Q:=AX l i) (h.a2 a b (j+1) ns ak ak) (λ_=>trivial) (λfl rows hd j2 ns2 R g1 g2 g3 g4 g5=> ?_) (λy fl' rows' j2 ns2 h2 he2=> ?_)
   ·obtain⟨R',e1,e2⟩:=aes 14 0 [] [] [] (P:=[x.1.flat 0,R,[]]) (b:=x.1.size+3 * (j2 - (j+1))) (by simp only[lens,Tn.flat_length,zln];have:=g5.1;omega) ak (by simp) (KB.tree ak (KB.cons g5.2 (KB.none KB.nil)));simp only[aJ,dn,Ph,ah,aDg,g4,arO,aUa,e1,bV];exact AX.sU ak g2 g3 (bV _ _) (e2.mono ak)
   ·have hs2:=lK (I4 ak ak ak) he2;simp only[zbb] at hs2;simp only[aJ,dn,h2,qH];cases hc2:aO l j2==66 with
    |false=>obtain⟨R',e1,e2⟩:=aes 14 0 [] [] [] (P:=[x.1.flat 0,y.1.flat 0,[]]) (b:=x.1.size+y.1.size) (by simp only[lens,Tn.flat_length,zln];omega) ak (by simp) (KB.tree ak (KB.tree ak (KB.none KB.nil)));simp only[Vf hc2,ah,dn,aJ,aW,aDg,arO,aUa,e1,bV];exact AX.sU ak ak ak (bV _ _) (e2.mono ak)
    |true=>
     have hlt2:=jZ hc2 (by decide);have e66:aO l j2=66:=by rwa [beq_iff_eq] at hc2
     simp only[qQ hl e66 (by decide),ah,dn,aJ];exact KG hl [x.1,y.1] (h.a2 a b (j2+1) ns2 ak ak) ak (by simp only[sizes];omega) (I4 ak ak ak)
theorem ayG(h:RX l n m)(p:Int)(p1 a b p4:Bool)(i:Nat)(ns:List Tk)(hi:i<=l.length)(hn:ns.length<=i):AX l i (M.H8 (m+1) p p1 a b p4 (aA l) (i:Int) false (aA ns)) (ex l (n+1) 12 a b i (txt ns)):=by
 rw[M.ajO];simp only[M.H6,M.bF,M.dY,ah,dn,aJ,ex];refine AX.elim (Q:=AX l i) (h.a13 a b i ns hi hn) (λ_=>trivial) (λfl rows hd j ns R g1 g2 g3 g4 g5=> ?_) (λx fl rows j ns h1 he=> ?_)
 ·simp only[aJ,dn];exact AX.sU g1 g2 g3 (fzN g4) g5
 ·have hs:=lK (I4 ak ak hi) he;simp only[zbb] at hs;simp only[aW,h1,ah,dn,aJ,pJ,bne];cases hc:aO l j==60 with
  |false=>simp only[Bool.not_false,aJ,aW];exact AX.mk (bV _ _) rfl
  |true=>
   have hlt:=jZ hc (by decide);have e60:aO l j=60:=by rwa [beq_iff_eq] at hc
   simp only[zaZ,aW,aJ,qQ hl e60 (by decide),ah,dn];exact KG hl [x.1] (h.a11 a b (j+1) ns ak ak) ak (by simp only[sizes];omega) (I4 ak ak ak)
theorem ayH(h:RX l n m)(p:Int)(p1 a b p4:Bool)(i:Nat)(ns:List Tk)(hi:i<=l.length)(hn:ns.length<=i):AX l i (M.Md (m+1) p p1 a b p4 (aA l) (i:Int) false (aA ns)) (ex l (n+1) 11 a b i (txt ns)):=by
 rw[M.afI];simp only[M.BG,M.EZ,M.bF,M.dY,ah,dn,aJ,ex,pJ];cases h6:aO l i==56 with
 |true=>
  have hlt:=jZ h6 (by decide);have e:aO l i=56:=by rwa [beq_iff_eq] at h6
  simp only[aJ,Bool.true_or,Bool.or_true,qQ hl rfl (show aO l i≠0 by rw[e];decide),ah,dn];exact KG hl [] (h.a11 a b (i+1) ns ak ak) ak (by simp only[sizes];omega) (I4 ak ak ak)
 |false=>
  cases h5:aO l i==55 with
  |true=>
   have hlt:=jZ h5 (by decide);have e:aO l i=55:=by rwa [beq_iff_eq] at h5
   simp only[aJ,aW,Bool.true_or,qQ hl rfl (show aO l i≠0 by rw[e];decide),ah,dn];exact KG hl [] (h.a11 a b (i+1) ns ak ak) ak (by simp only[sizes];omega) (I4 ak ak ak)
  |false=>
   cases h1:aO l i==61 with
   |true=>
    have hlt:=jZ h1 (by decide);have e:aO l i=61:=by rwa [beq_iff_eq] at h1
    simp only[aJ,aW,Bool.or_true,qQ hl rfl (show aO l i≠0 by rw[e];decide),ah,dn];exact KG hl [] (h.a11 a b (i+1) ns ak ak) ak (by simp only[sizes];omega) (I4 ak ak ak)
   |false=>simp only[aW,Bool.or_self];exact AX.pass (h.pow p p1 a b p4 i ns hi hn) (zba i) (by intros;simp only[dn,aJ])
theorem aHa(h:RX l n m)(hm:1<=m)(p:Int)(p1 a b p4:Bool)(i:Nat)(ns:List Tk)(hi:i<l.length)(hn:ns.length<=i)(hst:isStep (aO l i)=true):AX l i (M.zJ (m+1) p p1 a b p4 (aA l) (i:Int) false (aA ns)) (I8 l (n+1) i (txt ns)):=by
 obtain⟨m1,rfl⟩:∃m1,m=m1+1:=⟨m - 1,ak⟩
 have hgo:=KG hl (k:=9) (op:=aO l i) [] (h.a14 (p1:=false) (p4:=false) a b (i+1) ns ak ak) (i:=i) (n0:=ns.length) ak (by simp only[sizes];omega) (I4 ak ak ak);rw[ayB a b false false] at hgo;rw[M.ajN,I8];simp only[M.H7,M.OG,M.bF,M.dY,ah,dn,aJ,pJ,qQ hl rfl (xC hst),bne];cases h6:aO l (i+1)==6 with
 |true=>simp only[zaZ,aW,Bool.or_true,aJ];exact hgo
 |false=>
  cases h8:aO l (i+1)==68 with
  |true=>simp only[zaZ,Bool.not_false,aW,Bool.true_or,aJ,dn];exact hgo
  |false=>obtain⟨R',e1,e2⟩:=aes 9 (aO l i) [] [] [] (P:=[[]]) (b:=0) (by simp[lens]) ak (by simp) (KB.none KB.nil);simp only[Bool.not_false,aJ,Bool.or_self,aW,dn,aDg,ah,arO,aDk,e1,bV];exact AX.sU ak ak ak (bV _ _) (e2.mono ak)
theorem aDn(h:RX l n m)(p:Int)(p1 a b p4:Bool)(i:Nat)(ns:List Tk)(hi:i<=l.length)(hn:ns.length<=i):AX l i (M.OI (m+1) p p1 a b p4 (aA l) (i:Int) false (aA ns)) (ex l (n+1) 13 a b i (txt ns)):=by
 rw[M.aip];simp only[M.E5,M.bF,M.dY,ah,dn,aJ,ex,pJ,agc];cases hst:isStep (aO l i) with
 |true=>have hlt:=eF (xC hst);simp only[aJ];exact AX.pass (h.pre p p1 a b p4 i ns hlt hn hst) (zba i) (by intros;simp only[dn,aJ])
 |false=>
  simp only[aW];refine AX.elim (Q:=AX l i) (h.a14 a b i ns hi hn) (λ_=>trivial) (λfl rows hd j ns R g1 g2 g3 g4 g5=> ?_) (λx fl rows j ns h1 he=> ?_)
  ·simp only[aJ,dn,pJ,ah];exact AX.sU g1 g2 g3 (fzN g4) g5
  ·have hs:=lK (I4 ak ak hi) he;simp only[zbb] at hs;simp only[aW,h1,ayA x.1 x.2 ak,ah,dn,aJ,pJ,agc];rw[show(!x.2 && Ee x.1.kind)=tgt x from rfl];cases hc:isStep (aO l j) with
   |false=>simp only[Bool.not_false,aJ,Bool.and_false,aW];exact AX.mk (bV _ _) rfl
   |true=>
    have hlt:=eF (xC hc);simp only[zaZ,aW,Bool.and_true];cases ht:tgt x with
    |false=>simp only[Bool.not_false,aJ,aW];exact AX.mk (bV _ _) rfl
    |true=>have ho:=aer 10 (aO l j) [] [] [] [x.1] (by simp only[sizes];omega);have ho':M.bW 10 (aO l j) [] [] [] (JG [x.1.flat 0])=some (false,aP false ((Tn.mk 10 (aO l j) [] [] [x.1]).flat 0),false):=ho;simp only[zaZ,aW,aJ,qQ hl rfl (xC hc),ah,dn,aDk,ho',bV];exact AX.mk (bV _ _) rfl
theorem ayI(h:RX l n m)(p:Int)(p1 a b p4:Bool)(i:Nat)(ns:List Tk)(hi:i<=l.length)(hn:ns.length<=i):AX l i (M.Me (m+1) p p1 a b p4 (aA l) (i:Int) false (aA ns)) (ex l (n+1) 14 a b i (txt ns)):=by
 rw[M.afJ];simp only[M.BI,M.bF,M.dY,ah,dn,aJ,ex,pJ,bne];cases hc:aO l i==68 with
 |false=>simp only[Bool.not_false,aJ,aW];exact AX.pass (h.pri a b i ns hi hn) (zba i) (by intros;simp only[dn,aJ])
 |true=>
  have hlt:=jZ hc (by decide);have e68:aO l i=68:=by rwa [beq_iff_eq] at hc
  simp only[zaZ,aW,aJ,qQ hl e68 (by decide),ah,dn,pJ,agc];cases hs:isStep (aO l (i+1)) with
  |true=>have hlt':=eF (xC hs);simp only[aJ,dn];have abO:=(sats l n).pre (i+1) (txt ns) hlt';exact KG hl [] (h.pre p p1 a b p4 (i+1) ns hlt' ak hs) ak (by simp only[sizes];omega) abO
  |false=>simp only[aW,dn,aJ];exact KG hl [] (h.a14 a b (i+1) ns ak ak) ak (by simp only[sizes];omega) (I4 ak ak ak)
end
variable {l:List Tk}
def ai4(L:List Tn):aF (parts L)=parts L:=by rw[Nq];exact Pj _
def ac9(k:Int)(x:aI):aF [[D.int .i64 k,D.int .i64 0,D.str x,D.str [],D.sl true 1 []]]=aP false ((Tn.mk k 0 x [] []).flat 0):=rfl
def arP(hl:l.length<=3000)(k:Int){i:Nat}{ns:List Tk}(h:aO l i≠0):M.xq k (aA l) (i:Int) false (aA ns)=some (true,[[D.int .i64 k,D.int .i64 0,D.str (xB l i),D.str [],D.sl true 1 []]],false,aA l,((i+1:Nat):Int),false,aA ns):=by
 have hlt:=eF h;obtain⟨t,ht⟩:∃t,l[i]? =some t:=⟨l[i],by simp[hlt]⟩
 have e:aO l i=t.kind:=by rw[aO,ht]
 simp only[M.xq,M.OD,bK,dZ,ht,Ht,ah,Qr,dn,aJ,qQ hl e (by rw[<-e];exact h)]
section
variable {n m:Nat} (hl:l.length<=3000)
include hl
theorem aHb(h:∀n',n'<n->∀i ns,i<=l.length->ns.length<=i->AX l i (M.aY m 1 false false false false (aA l) (i:Int) false (aA ns)) (ex l n' 1 false false i (txt ns))){i:Nat}{ns:List Tk}(h6:aO l i=6)(hn:ns.length<=i):
  AX l i (M.OJ (m+2) (aA l) (i:Int) false (aA ns)) (auM l n i (txt ns)):=by
 have hlt:i<l.length:=eF (by rw[h6];decide);rw[M.aiq,auM];simp only[M.E8,dn,aJ,qQ hl h6 (by decide),ah,pJ,bne];cases hc:aO l (i+1)==34 with
 |false=>simp only[Bool.not_false,aJ,aW];exact AX.mk (ac9 _ _) rfl
 |true=>
  have hlt':=jZ hc (by decide);have e34:aO l (i+1)=34:=by rwa [beq_iff_eq] at hc
  simp only[zaZ,aW,aJ,qQ hl e34 (by decide),ah,dn];have e:(Po l n false false [] (i+2) (txt ns)).bind (λL j nt=>(qH l 35 j nt).bind λ_ j nt=>PR.ok ((Tn.mk 5 0 (xB l i) [] L,false):Xp) j nt)=
    (arN l n 35 (i+2) (txt ns)).bind λL j nt=> .ok ((Tn.mk 5 0 (xB l i) [] L,false):Xp) j nt:=by
   rw[arN];cases Po l n false false [] (i+2) (txt ns) with
   |ok L j m=>simp only[PR.bind];cases qH l 35 j m<;>rfl
   |bad j=>rfl
   |out=>rfl
  rw[e];refine AY.elim (Q:=AX l i) (ayF hl (e:=35) (by decide) h (i:=i+1+1) (ns:=ns) ak ak) (λ_=>trivial) (λfl j ns' P g1 g2 g3 g4 g5 g6=> ?_) (λL fl j ns' he=> ?_)
  ·obtain⟨R',e1,e2⟩:=aeu 5 0 (xB l i) [] [] (b:=3 * (j - (i+1+1))) g4 ak ak g6;simp only[Pj,e1,ah,dn,aJ,bV];exact AX.sU ak g2 g3 (bV _ _) (e2.mono ak)
  ·have hs:sizes L<=9000:=by
    rw[arN] at he;have:=lK (P:=λL _ _=>sizes L<=9000) (by
     rw[nM];refine dR (asT (l:=l) ak) λL j m hL=> ?_
     rw[nM,RF];intro _;show sizes L<=9000;omega) he
    exact this
   have hmk:=acU 5 0 (xB l i) [] [] L ak;simp only[ai4,hmk,ah,dn,aJ,bV];exact AX.mk (bV _ _) rfl
theorem aDo{e:Int}(he:e≠0){i:Nat}{nt:kH}(hi:i<=l.length):(Bv l n e i nt).sat λL _ _=>sizes L<=9000:=
 dR ((sats l n).lst e i nt he hi) λL j m h=>by omega
theorem aHc(h:∀n',n'<n->∀i ns,i<=l.length->ns.length<=i->AX l i (M.aY m 1 false false false false (aA l) (i:Int) false (aA ns)) (ex l n' 1 false false i (txt ns))){i:Nat}{ns:List Tk}(hi:i<=l.length)(hn:ns.length<=i):
  AY l i (M.qx (m+1) 33 0 (aA l) (i:Int) false (aA ns)) (Bv l n 33 i (txt ns)):=by
 cases n with
 |zero=>rw[Bv];trivial
 |succ n=>exact aG6 hl (λn' hn'=>h n' ak) hi hn
theorem ayJ(kd:Int)(h:∀n',n'<n->∀i ns,i<=l.length->ns.length<=i->AX l i (M.aY m 1 false false false false (aA l) (i:Int) false (aA ns)) (ex l n' 1 false false i (txt ns))){i:Nat}{ns:List Tk}(hi:i<l.length)(hn:ns.length<=i):
  AX l i ((M.bf 32 (aA l) ((i+1:Nat):Int) false (aA ns)).bind λal8=>bif aj al8.2.2.2.2.2.2 then
     (M.qx (m+1) 33 0 al8.2.2.2.1 al8.2.2.2.2.1 al8.2.2.2.2.2.1 al8.2.2.2.2.2.2).bind λal9=>
        (M.dW kd 0 (xB l i) [] [] (aF al9.2.1)).bind λaAr=>
        (bif aj al9.2.2.2.2.2 then
         some (false,aF aAr,false,al9.2.2.1,al9.2.2.2.1,al9.2.2.2.2.1,al9.2.2.2.2.2) else none) else none)
   ((qH l 32 (i+1) (txt ns)).bind λ_ j nt=>(Bv l n 33 j nt).bind λL j nt=> .ok (.mk kd 0 (xB l i) [] L,false) j nt):=by
 rw[qH];cases hc:aO l (i+1)==32 with
 |false=>obtain⟨R',e1,e2⟩:=aeu kd 0 (xB l i) [] [] (P:=[]) (b:=0) (by simp[lens]) ak (by simp) KB.nil;have e1':M.dW kd 0 (xB l i) [] [] (aF [])=some (aP true R'):=e1;simp only[Vf hc,ah,dn,aJ,aW,aDj,e1',bV];exact AX.sU ak ak ak (bV _ _) (e2.mono ak)
 |true=>
  have hlt:=jZ hc (by decide);have e32:aO l (i+1)=32:=by rwa [beq_iff_eq] at hc
  simp only[qQ hl e32 (by decide),ah,dn,aJ];refine AY.elim (Q:=AX l i) (aHc hl h (i:=i+1+1) (ns:=ns) ak ak) (λ_=>trivial) (λfl j ns' P g1 g2 g3 g4 g5 g6=> ?_) (λL fl j ns' he=> ?_)
  ·obtain⟨R',e1,e2⟩:=aeu kd 0 (xB l i) [] [] (b:=3 * (j - (i+1+1))) g4 ak ak g6;simp only[Pj,e1,ah,dn,aJ,bV];exact AX.sU ak g2 g3 (bV _ _) (e2.mono ak)
  ·have hs:sizes L<=9000:=lK (aDo hl (by decide) ak) he;have hmk:=acU kd 0 (xB l i) [] [] L ak;simp only[ai4,hmk,ah,dn,aJ,bV];exact AX.mk (bV _ _) rfl
theorem ayK(H:∀n',n'<=n->∀m',4 * n'+20<=m'->RX l n' m')(hm:4 * n+22<=m)(a b:Bool)(i:Nat)(ns:List Tk)(hi:i<=l.length)(hn:ns.length<=i):AX l i (M.yD (m+1) (aA l) (i:Int) false (aA ns)) (ex l (n+1) 15 a b i (txt ns)):=by
 have h:=H n (zba _) m ak;obtain⟨m2,rfl⟩:∃m2,m=m2+2:=⟨m - 2,ak⟩
 have arQ:∀n',n'<n->∀i ns,i<=l.length->ns.length<=i->AX l i (M.aY m2 1 false false false false (aA l) (i:Int) false (aA ns)) (ex l n' 1 false false i (txt ns)):=λn' hn' i ns hi hn=>(H n' ak m2 ak).a1 false false i ns hi hn
 rw[M.acK];simp only[M.yC,dn,aJ,aW,ex,pJ,ah];cases h3:aO l i==3 with
 |true=>
  have e:aO l i=3:=by rwa [beq_iff_eq] at h3
  simp only[aJ,arP hl 2 (show aO l i≠0 by rw[e];decide),ah,dn,ac9];exact AX.mk (bV _ _) rfl
 |false=>
 cases h4:aO l i==4 with
 |true=>
  have e:aO l i=4:=by rwa [beq_iff_eq] at h4
  simp only[aJ,aW,arP hl 3 (show aO l i≠0 by rw[e];decide),ah,dn,ac9];exact AX.mk (bV _ _) rfl
 |false=>
 cases h5:aO l i==5 with
 |true=>
  have e:aO l i=5:=by rwa [beq_iff_eq] at h5
  simp only[aJ,aW,arP hl 4 (show aO l i≠0 by rw[e];decide),ah,dn,ac9];exact AX.mk (bV _ _) rfl
 |false=>
 cases h6:aO l i==6 with
 |true=>
  have e:aO l i=6:=by rwa [beq_iff_eq] at h6
  simp only[aJ,aW];exact AX.pass (aHb hl arQ e hn) (zba i) (by intros;simp only[dn,aJ])
 |false=>
 cases h7:aO l i==7 with
 |true=>
  have e:aO l i=7:=by rwa [beq_iff_eq] at h7
  have hlt:=jZ h7 (by decide);have h8:(aO l i==8)=false:=by rw[e];rfl
  have w:((7:Int)==8)=false:=rfl;simp only[aJ,aW,Bool.true_or,h8,Bool.false_and];refine AX.pass (i:=i) ?_ (zba i) (by intros;simp only[dn,aJ]);rw[M.Zh];simp only[M.AO,M.BH,dn,aJ,pJ,ah,qQ hl rfl (show aO l i≠0 by rw[e];decide),w,aW];rw[e];exact ayJ hl 7 arQ hlt hn
 |false=>
 cases h8:aO l i==8 with
 |true=>
  have e:aO l i=8:=by rwa [beq_iff_eq] at h8
  have hlt:=jZ h8 (by decide);have hcall:=ayJ hl 8 arQ hlt hn;simp only[aJ,aW,Bool.or_true,Bool.true_and];refine AX.pass (i:=i) ?_ (zba i) (by intros;simp only[dn,aJ]);rw[M.Zh];simp only[M.AO,M.BH,dn,aJ,pJ,ah,qQ hl rfl (show aO l i≠0 by rw[e];decide),BEq.rfl,bne];rw[e];cases h32:aO l (i+1)==32 with
  |true=>simp only[zaZ,aW,Bool.and_false];exact hcall
  |false=>
   simp only[Bool.not_false,aJ,Bool.and_true];cases hx:xB l i==[108,101,110,103,116,104] with
   |true=>simp only[aJ];exact AX.mk (ac9 _ _) rfl
   |false=>simp only[aW];exact hcall
 |false=>
 simp only[aW,Bool.or_self];cases h32:aO l i==32 with
 |false=>simp only[Vf h32,M.fO,M.MX,ah,dn,aJ,aW,aDg,Ph];exact AX.sU (R:=[]) (zba i) hi ak rfl ⟨by simp,λn h=>by cases h⟩
 |true=>
  have e:aO l i=32:=by rwa [beq_iff_eq] at h32
  have hlt:=jZ h32 (by decide);simp only[qQ hl e (by decide),M.fO,M.MX,ah,dn,aJ];refine AX.elim (Q:=AX l i) (h.a1 false false (i+1) ns ak ak) (λ_=>trivial) (λfl rows hd j ns R g1 g2 g3 g4 g5=> ?_) (λx fl rows j ns h1 he=> ?_)
  ·simp only[dn,aJ,Ph,ah];exact AX.sU ak g2 g3 (fzN g4) (g5.mono ak)
  ·have hs:=lK (I4 ak ak ak) he;simp only[zbb] at hs;simp only[dn,aJ,qH];cases hc:aO l j==33 with
   |true=>
    have e33:aO l j=33:=by rwa [beq_iff_eq] at hc
    simp only[qQ hl e33 (by decide),ah,dn,aJ];exact AX.mk (by rw[h1,bV]) rfl
   |false=>simp only[Vf hc,ah,dn,aJ,aW];exact AX.sU ak ak ak (fzN h1) ((RB.tree x.1 ak).mono ak)
theorem aDp(i:Nat)(ns:List Tk)(hi:i<=l.length):M.zG (aA l) (i:Int) false (aA ns)=some (aO l i==32 && ahead (l.drop i) 0,aA l,(i:Int),false,aA ns):=by
 simp only[M.zG,M.Mc,aW,dn,aJ,pJ,ah,bne];cases h32:aO l i==32 with
 |false=>rfl
 |true=>
  have hlt:=jZ h32 (by decide);have e32:aO l i=32:=by rwa [beq_iff_eq] at h32
  simp only[zaZ,aW,Bool.true_and];obtain⟨t,ht⟩:∃t,l[i]? =some t:=⟨l[i],by simp[hlt]⟩
  have ek:t.kind=32:=by rw[aO,ht] at e32;exact e32
  have hloop:∀(k j d:Nat),l.length - j<=k->1<=d->d<=j->j<=l.length->(∃u,M.oQ (aA l) (i:Int) false (aA ns) ((d:Int),(j:Int))=some u/\(u=.inl (ahead (l.drop j) d)\/(∃p,u=.inr p)/\ahead (l.drop j) d=false)):=by
   intro k;induction k with
   |zero=>
    intro j d hk hd hdj hj;have:M.fA (aA l) (i:Int) false (aA ns) ((d:Int),(j:Int))=some (.inr (.inr ((d:Int),(j:Int)))):=by simp only[M.fA,M.jY,aX];rw[rF ak,aW]
    exact⟨_,aQ this,.inr ⟨⟨_,rfl⟩,by rw[List.drop_eq_nil_of_le ak,ahead]⟩⟩
   |succ k ih=>
    intro j d hk hd hdj hj
    by_cases hj':j<l.length
    ·obtain⟨u,hu⟩:∃u,l[j]? =some u:=⟨l[j],by simp[hj']⟩
     have hdec:decide ((j:Int)<(l.length:Int))=true:=by rw[zdt];omega
     have w1:i64.wrap ((j:Int)+1)=((j+1:Nat):Int):=by rw[aK ak ak];omega
     have w2:i64.wrap ((d:Int)+1)=((d+1:Nat):Int):=by rw[aK ak ak];omega
     have w3:i64.wrap ((d:Int) - 1)=((d - 1:Nat):Int):=by rw[aK ak ak];omega
     have z1:(((d+1:Nat):Int)==0)=false:=by rw[nY];omega
     have z2:(((d+1:Nat):Int)==1)=false:=by rw[nY];omega
     have z3:((d:Int)==0)=false:=by rw[nY];omega
     rw[Zy hu,ahead];cases ho:JE u.kind with
     |true=>
      have hs:KR u.kind=false:=by
       have:u.kind=32\/u.kind=34\/u.kind=30:=by simpa[JE,Bool.or_eq_true] using ho
       rcases this with e|e|e<;>rw[e]<;>rfl
      have hb:M.fA (aA l) (i:Int) false (aA ns) ((d:Int),(j:Int))=some (.inl (((d+1:Nat):Int),((j+1:Nat):Int))):=by simp only[M.fA,M.jY,aX,hdec,aJ,bK,dZ,hu,Ht,ah,Qr,XE,ho,XF,hs,aW,w1,w2,z1,z2]
      rw[M.oQ,bI hb,aJ];have:=ih (j+1) (d+1) ak ak ak ak;rw[show(((d+1:Nat):Int))=(d:Int)+1 by omega] at this|-;exact this
     |false=>
      rw[aW];cases hs:KR u.kind with
      |true=>
       have h36:(u.kind==36)=false:=by
        have:u.kind=33\/u.kind=35\/u.kind=31:=by simpa[KR,Bool.or_eq_true] using hs
        rcases this with e|e|e<;>rw[e]<;>rfl
       rw[aJ]
       by_cases hd1:d=1
       ·subst hd1;have hb:M.fA (aA l) (i:Int) false (aA ns) (((1:Nat):Int),(j:Int))=some (.inr (.inl false)):=by have z0:(((1 - 1:Nat):Int)==0)=true:=rfl;simp only[M.fA,M.jY,aX,hdec,aJ,bK,dZ,hu,Ht,ah,Qr,XE,ho,XF,hs,aW,w3,z0]
        exact⟨_,aQ hb,.inl rfl⟩
       ·have z0:(((d - 1:Nat):Int)==0)=false:=by rw[nY];omega
        have hb:M.fA (aA l) (i:Int) false (aA ns) ((d:Int),(j:Int))=some (.inl (((d - 1:Nat):Int),((j+1:Nat):Int))):=by simp only[M.fA,M.jY,aX,hdec,aJ,bK,dZ,hu,Ht,ah,Qr,XE,ho,XF,hs,aW,w1,w3,z0,h36,Bool.cond_self]
        rw[M.oQ,bI hb,rF ak,aW];have:=ih (j+1) (d - 1) ak ak ak ak;rw[show(((d - 1:Nat):Int))=(d:Int) - 1 by omega] at this|-;exact this
      |false=>
       rw[aW,rF ak,aW];have hdd:(ahead (l.drop (j+1)) d)=ahead (l.drop (j+1)) d:=rfl;cases hd1:(d:Int)==1 with
       |false=>
        have hb:M.fA (aA l) (i:Int) false (aA ns) ((d:Int),(j:Int))=some (.inl ((d:Int),((j+1:Nat):Int))):=by simp only[M.fA,M.jY,aX,hdec,aJ,bK,dZ,hu,Ht,ah,Qr,XE,ho,XF,hs,aW,w1,z3,hd1]
        rw[M.oQ,bI hb,Bool.and_false,aW];exact ih (j+1) d ak ak ak ak
       |true=>
        rw[Bool.and_true];cases h36:u.kind==36 with
        |false=>
         have hb:M.fA (aA l) (i:Int) false (aA ns) ((d:Int),(j:Int))=some (.inl ((d:Int),((j+1:Nat):Int))):=by simp only[M.fA,M.jY,aX,hdec,aJ,bK,dZ,hu,Ht,ah,Qr,XE,ho,XF,hs,aW,w1,z3,hd1,h36]
         rw[M.oQ,bI hb,aW];exact ih (j+1) d ak ak ak ak
        |true=>
         have hb:M.fA (aA l) (i:Int) false (aA ns) ((d:Int),(j:Int))=some (.inr (.inl true)):=by simp only[M.fA,M.jY,aX,hdec,aJ,bK,dZ,hu,Ht,ah,Qr,XE,ho,XF,hs,aW,z3,hd1,h36]
         exact⟨_,aQ hb,.inl rfl⟩
    ·exact ih j d ak hd hdj hj
  have w1:i64.wrap ((i:Int)+1)=((i+1:Nat):Int):=by rw[aK ak ak];omega
  have hb0:M.fA (aA l) (i:Int) false (aA ns) (0,(i:Int))=some (.inl (((1:Nat):Int),((i+1:Nat):Int))):=by
   have o1:JE 32=true:=rfl;have s1:KR 32=false:=rfl;have z1:(i64.wrap (0+1)==0)=false:=rfl;have z2:(i64.wrap (0+1)==1)=true:=rfl;have z3:((32:Int)==36)=false:=rfl;have hdec:decide ((i:Int)<(l.length:Int))=true:=by rw[zdt];omega
   simp only[M.fA,M.jY,aX,hdec,aJ,bK,dZ,ht,Ht,ah,Qr,XE,ek,o1,XF,s1,aW,w1,z1,z2,z3];rfl
  obtain⟨u,hu1,hu2⟩:=hloop _ (i+1) 1 (zba _) (zba 1) ak ak;have hah:ahead (l.drop i) 0=ahead (l.drop (i+1)) 1:=by rw[Zy ht,ahead,ek];rfl
  rw[M.oQ] at hu1;rw[M.oQ,bI hb0,hu1,ah,hah];rcases hu2 with rfl|⟨⟨p,rfl⟩,e⟩
  ·simp only[kT,dn,aJ];rfl
  ·have e':ahead (l.drop (i+1)) 1=false:=e;rw[e'];simp only[kT,letE,dn,aJ]
end
variable {l:List Tk}
abbrev W6:=au×Int×Bool×au×Bool×au
def AW(l:List Tk)(i:Nat)(o:Option W6):PR Xp->Prop
 | .ok x j nt=>∃ns,txt ns=nt/\o=some (aA l,(j:Int),false,aP false (x.1.flat 0),x.2,aA ns)
 | .bad j=>∃hd ns R,i<=j/\j<=l.length/\ns.length<=l.length/\RB R (3 * (j - i))/\o=some (aA l,(j:Int),true,aP false R,hd,aA ns)
 | .out=>True
def AW.fin{i:Nat}{o:Option W6}{p:PR Xp}(h:AW l i o p):AX l i (o.bind λt=>bif aj t.2.2.2.2.2 then some (false,t.2.2.2.1,t.2.2.2.2.1,t.1,t.2.1,t.2.2.1,t.2.2.2.2.2) else none) p:=by
 cases p with
 |ok x j nt=>obtain⟨ns,rfl,rfl⟩:=h;simp only[ah,dn,aJ];exact AX.mk (bV _ _) rfl
 |bad j=>obtain⟨hd,ns,R,g1,g2,g3,g4,rfl⟩:=h;simp only[ah,dn,aJ];exact AX.sU g1 g2 g3 (bV _ _) g4
 |out=>trivial
def ayL(k op:Int)(x:aI)(t:Tn)(h:t.size<=90000):M.bW k op x [] [] (JG [t.flat 0])=some (false,aP false ((Tn.mk k op x [] [t]).flat 0),false):=aer k op x [] [] [t] (by simp only[sizes];omega)
def aHd(hl:l.length<=3000){f:Int->Int->au->Int->Bool->au->Option TY}{g:Int->Bool->Bool->Bool->Bool->au->Int->Bool->au->Option TX}{p:Int}{p1 a b p4:Bool}:
  ∀(n i0:Nat) (x:Xp) (i:Nat) (ns:List Tk),i0<i->i<=l.length->ns.length<=i->x.1.size+2 * i0+1<=2 * i->
   AW l i0 (M.qC f g p p1 a b p4 false (aA l,(i:Int),false,aP false (x.1.flat 0),x.2,aA ns)) (TQ l n a x i (txt ns))
 |0,_,_,_,_,_,_,_,_=>by rw[TQ];trivial
 |n+1,i0,x,i,ns,hi0,hi,hn,hx=>by
  rw[TQ,M.qC];cases a with
  |true=>
   have hb:M.rZ f g p p1 true b p4 false (aA l,(i:Int),false,aP false (x.1.flat 0),x.2,aA ns)=some (.inr (aA l,(i:Int),false,aP false (x.1.flat 0),x.2,aA ns)):=by simp only[M.rZ,M.yR,Bool.not_false,zaZ,aJ,aW]
   rw[aQ hb,zaZ,Bool.and_false,aW];exact⟨ns,rfl,rfl⟩
  |false=>
   rw[Bool.not_false,Bool.and_true];cases hc:aO l i==24 with
   |false=>
    have hb:M.rZ f g p p1 false b p4 false (aA l,(i:Int),false,aP false (x.1.flat 0),x.2,aA ns)=some (.inr (aA l,(i:Int),false,aP false (x.1.flat 0),x.2,aA ns)):=by simp only[M.rZ,M.yR,Bool.not_false,aJ,aW,dn,pJ,ah,hc]
    rw[aQ hb,aW];exact⟨ns,rfl,rfl⟩
   |true=>
    have hlt:=jZ hc (by decide);have e24:aO l i=24:=by rwa [beq_iff_eq] at hc
    rw[aJ,nameP];cases h6:aO l (i+1)==6 with
    |false=>
     have hb:M.rZ f g p p1 false b p4 false (aA l,(i:Int),false,aP false (x.1.flat 0),x.2,aA ns)=some (.inl (aA l,((i+1:Nat):Int),true,aP false ((Tn.mk 13 0 [] [] [x.1]).flat 0),false,aA ns)):=by simp only[M.rZ,M.yR,Bool.not_false,aJ,dn,pJ,ah,hc,qQ hl e24 (by decide),Vf h6,aDk,ayL 13 0 [] x.1 ak,bV]
     rw[bI hb];refine⟨_,ns,_,ak,ak,ak,(RB.tree (Tn.mk 13 0 [] [] [x.1]) (by rw[ac0];omega)).mono (by rw[ac0];omega),aQ rfl⟩
    |true=>
     have hlt':=jZ h6 (by decide);have e6:aO l (i+1)=6:=by rwa [beq_iff_eq] at h6
     have hb:M.rZ f g p p1 false b p4 false (aA l,(i:Int),false,aP false (x.1.flat 0),x.2,aA ns)=some (.inl (aA l,((i+1+1:Nat):Int),false,aP false ((Tn.mk 13 0 (xB l (i+1)) [] [x.1]).flat 0),false,aA ns)):=by simp only[M.rZ,M.yR,Bool.not_false,aJ,dn,pJ,ah,hc,qQ hl e24 (by decide),qQ hl e6 (by decide),aDk,ayL 13 0 (xB l (i+1)) x.1 ak,bV]
     rw[bI hb];exact aHd hl n i0 (.mk 13 0 (xB l (i+1)) [] [x.1],false) (i+1+1) ns ak ak ak (by rw[ac0];omega)
section
variable {n m:Nat} (hl:l.length<=3000)
include hl
theorem auX(h:RX l n m)(p:Int)(p1 a b p4:Bool)(i:Nat)(ns:List Tk)(hi:i<=l.length)(hn:ns.length<=i):
  AX l i ((M.aY m 6 false a b false (aA l) (i:Int) false (aA ns)).bind λr=>(M.qC (M.qx m) (M.aY m) p p1 a b p4 false (r.2.2.2.1,r.2.2.2.2.1,r.2.2.2.2.2.1,aF r.2.1,r.2.2.1,r.2.2.2.2.2.2)).bind λt=>bif aj t.2.2.2.2.2 then some (false,t.2.2.2.1,t.2.2.2.2.1,t.1,t.2.1,t.2.2.1,t.2.2.2.2.2) else none)
   ((ex l n 6 a b i (txt ns)).bind λx i nt=>TQ l n a x i nt):=by
 refine AX.elim (Q:=AX l i) (h.a6 a b i ns hi hn) (λ_=>trivial) (λfl rows hd j ns R g1 g2 g3 g4 g5=> ?_) (λx fl rows j ns h1 he=> ?_)
 ·rw[show M.qC _ _ _ _ _ _ _ _ _=_ from aQ rfl];simp only[ah,dn,aJ];exact AX.sU g1 g2 g3 (fzN g4) g5
 ·have hs:=lK (I4 ak ak hi) he;simp only[zbb] at hs;simp only[h1];exact(aHd hl n i x j ns ak ak ak ak).fin
theorem aUb(H:∀n',n'<=n->∀m',4 * n'+20<=m'->RX l n' m')(hm:4 * n+22<=m)(p:Int)(p1 a b p4:Bool)(i:Nat)(ns:List Tk)(hi:i<=l.length)(hn:ns.length<=i):AX l i (M.Tz (m+1) p p1 a b p4 (aA l) (i:Int) false (aA ns)) (ex l (n+1) 5 a b i (txt ns)):=by
 have h:=H n (zba _) m ak;have hbare:=auX hl h p p1 a b p4 i ns hi hn;rw[M.amo];simp only[M.Kw,M.bF,M.dY,dn,aJ,ex,ah];cases a with
 |true=>simp only[zaZ,aW,Bool.and_false,Bool.false_and];exact hbare
 |false=>
  simp only[Bool.not_false,aJ,Bool.and_true,aDp hl i ns hi,ah,dn];cases hc:(aO l i==32 && ahead (l.drop i) 0) with
  |false=>simp only[aW];exact hbare
  |true=>
   have hc':=hc;rw[wo] at hc';have hlt:=jZ hc'.1 (by decide);have e32:aO l i=32:=by have:=hc'.1;rwa [beq_iff_eq] at this
   have hne:=apY e32 hc'.2;simp only[aJ,qQ hl e32 (by decide),ah,dn];obtain⟨m1,rfl⟩:∃m1,m=m1+1:=⟨m - 1,ak⟩
   cases n with
   |zero=>rw[Bv];trivial
   |succ n1=>
    have hll:Bv l (n1+1) 33 (i+1) (txt ns)=arN l n1 33 (i+1) (txt ns):=by rw[Bv,hne];rfl
    rw[hll];have hli:=ayF hl (e:=33) (by decide) (n:=n1) (m:=m1) (i:=i+1) (ns:=ns) (λn' hn' i ns hi hn=>(H n' ak m1 ak).a1 false false i ns hi hn) ak ak;refine AY.elim (Q:=AX l i) hli (λ_=>trivial) (λfl j ns' P g1 g2 g3 g4 g5 g6=> ?_) (λL fl j ns' he=> ?_)
    ·obtain⟨R',e1,e2⟩:=aeu 13 0 [] [] [] (b:=3 * (j - (i+1))) g4 ak ak g6;simp only[dn,aJ,Ph,ah,Pj,e1,bV];rw[show M.qC _ _ _ _ _ _ _ _ _=_ from aQ rfl];simp only[ah,dn,aJ];exact AX.sU ak g2 g3 (bV _ _) (e2.mono ak)
    ·have hs:i+1<j/\j<=l.length/\ns'.length+(i+1)<=ns.length+j/\sizes L+2 * (i+1)+1<=2 * j:=by rw[<-hll] at he;have:=lK ((sats l (n1+1)).lst 33 (i+1) (txt ns) (by decide) ak) he;simpa only[zbb] using this
     simp only[dn,aJ];rw[qH];cases Zv:aO l j==24 with
     |false=>obtain⟨R',e1,e2⟩:=aeu 13 0 [] [] [] (P:=L.map λt=>t.flat 0) (b:=sizes L) (by rw[Ns];omega) ak (by rw[zbb];have:=zW L;omega) (by have:=KB.trees (P:=[]) L ak KB.nil;rwa [List.append_nil] at this);rw[<-Nq] at e1;simp only[Vf Zv,ah,dn,aJ,Ph,ai4,e1,bV];rw[show M.qC _ _ _ _ _ _ _ _ _=_ from aQ rfl];simp only[ah,dn,aJ];exact AX.sU ak ak ak (bV _ _) (e2.mono ak)
     |true=>
      have a2N:=jZ Zv (by decide);have e24:aO l j=24:=by rwa [beq_iff_eq] at Zv
      simp only[qQ hl e24 (by decide),ah,dn,aJ,PR.bind];rw[nameP];cases h6:aO l (j+1)==6 with
      |false=>obtain⟨R',e1,e2⟩:=aeu 13 0 [] [] [] (P:=L.map λt=>t.flat 0) (b:=sizes L) (by rw[Ns];omega) ak (by rw[zbb];have:=zW L;omega) (by have:=KB.trees (P:=[]) L ak KB.nil;rwa [List.append_nil] at this);rw[<-Nq] at e1;simp only[Vf h6,ah,ai4,e1,bV,aW];rw[show M.qC _ _ _ _ _ _ _ _ _=_ from aQ rfl];simp only[ah,dn,aJ];exact AX.sU ak ak ak (bV _ _) (e2.mono ak)
      |true=>
       have a2h:=jZ h6 (by decide);have e6:aO l (j+1)=6:=by rwa [beq_iff_eq] at h6
       simp only[qQ hl e6 (by decide),ah,ai4,acU 13 0 (xB l (j+1)) [] [] L ak,bV,aJ];exact(aHd hl (n1+1) i (.mk 13 0 (xB l (j+1)) [] L,false) (j+1+1) ns' ak ak ak (by rw[asP];omega)).fin
omit hl in
theorem lv6(k:Int):(k==67||k==46)=(dP k==((6:Nat):Int)):=by
 cases h4:k==44 with
 |true=>
  have e:k=44:=by rwa [beq_iff_eq] at h4
  rw[e];rfl
 |false=>
 cases h5:k==45 with
 |true=>
  have e:k=45:=by rwa [beq_iff_eq] at h5
  rw[e];rfl
 |false=>
 cases h6:(k==67||k==46) with
 |true=>rw[dP,h4,h5,h6];rfl
 |false=>rw[dP,h4,h5,h6,aW,aW,aW];cases(k==63||(k==48||(k==47||(k==50||(k==62||k==49)))))<;>cases k==99<;>cases(k==55||k==56)<;>cases(k==57||(k==58||k==59))<;>cases k==60<;>rfl
omit hl in
theorem afS(lv:Int)(p:Int)(p1 a b p4:Bool)(i:Nat)(ns:List Tk):M.kV lv p p1 a b p4 (aA l) (i:Int) true (aA ns)=some (false,aA l,(i:Int),true,aA ns):=by simp only[M.kV,M.OB,dn,aJ,pJ,ah,zaZ,aW]
omit hl in
theorem AZ.fin{i:Nat}{o:Option T7}{p:PR Xp}(h:AZ l i o p):AX l i (o.bind λt=>bif aj t.2.2.2.2.2.2 then some (false,t.2.2.2.2.1,t.2.2.2.2.2.1,t.2.1,t.2.2.1,t.2.2.2.1,t.2.2.2.2.2.2) else none) p:=by
 cases p with
 |ok x j nt=>obtain⟨cnt,ns,rfl,rfl⟩:=h;simp only[ah,dn,aJ];exact AX.mk (bV _ _) rfl
 |bad j=>obtain⟨cnt,hd,ns,R,g1,g2,g3,g4,rfl⟩:=h;simp only[ah,dn,aJ];exact AX.sU g1 g2 g3 (bV _ _) g4
 |out=>trivial
theorem aHe(H:∀n',n'<=n->∀m',4 * n'+20<=m'->RX l n' m')(hm:4 * n+22<=m)(p:Int)(p1 a b p4:Bool)(i:Nat)(ns:List Tk)(hi:i<=l.length)(hn:ns.length<=i):AX l i (M.qE (m+1) p p1 a b p4 3 3000 (aA l) (i:Int) false (aA ns)) (ex l (n+1) 3 a b i (txt ns)):=by
 have h:=H n (zba _) m ak;have e1:M.sZ 3=some 44:=rfl;have e2:M.kG 44=some (3,4):=rfl;have e3:i64.wrap ((3:Int)+1)=4:=rfl;have e4:decide ((3000:Int)>1)=true:=rfl;rw[M.yS];simp only[M.nC,M.oU,M.bF,M.dY,e1,e2,e3,e4,ah,dn,aJ,ex];have hlt:∀cnt:Nat,cnt<3000->decide ((cnt:Int)<3000)=true:=λcnt h=>by rw[zdt];omega
 refine AX.elim (Q:=AX l i) (h.a4 a b i ns hi hn) (λ_=>trivial) (λfl rows hd j ns R g1 g2 g3 g4 g5=> ?_) (λx fl rows j ns h1 he=> ?_)
 ·have hb:M.aS (M.aY m) 3 3000 4 p p1 a b p4 false (0,aA l,(j:Int),true,aF rows,hd,aA ns)=some (.inr (0,aA l,(j:Int),true,aF rows,hd,aA ns)):=by have e0:decide ((0:Int)<3000)=true:=rfl;simp only[M.aS,M.bG,M.bC,M.bD,e0,aJ,dn,afS,ah,aW]
  rw[M.jo,aQ hb];simp only[ah,dn,aJ];exact AX.sU g1 g2 g3 (fzN g4) g5
 ·have hs:=lK (I4 ak ak hi) he;simp only[zbb] at hs;simp only[h1];refine AZ.fin (ZR hl (lv:=3) (a:=a) (b:=b) (f:=λc c1 c2 c3=>M.aY m 4 false a b false c c1 c2 c3) ak ak ?_ ?_ ?_ n (λn' hn' i ns hi hn=>(H n' hn' m ak).a4 a b i ns hi hn) i 0 x j ns ak ak ak ak ak)
  ·intro cnt i rows hd ns hc;simp only[M.aS,M.bG,M.bC,M.bD,hlt cnt hc,aJ,dn,afS,ah,aW]
  ·intro cnt i rows hd ns hc hop;rw[<-UE rfl] at hop;have his:=afR (l:=l) 3 p p1 a b p4 i ns ak ak;rw[hop] at his;have Sl:M.kV 3 p p1 a b p4 (aA l) (i:Int) false (aA ns)=some (false,aA l,(i:Int),false,aA ns):=his;simp only[M.aS,M.bG,M.bC,M.bD,hlt cnt hc,aJ,dn,Sl,ah,aW]
  ·intro cnt i rows hd ns hc hop afT hni;have hk0:=GR ak hop;rw[<-UE rfl] at hop;have his:=afR (l:=l) 3 p p1 a b p4 i ns ak ak;rw[hop] at his;have Sl:M.kV 3 p p1 a b p4 (aA l) (i:Int) false (aA ns)=some (true,aA l,(i:Int),false,aA ns):=his;have w1:i64.wrap ((cnt:Int)+1)=((cnt+1:Nat):Int):=by rw[aK ak ak];omega
   obtain⟨ns1,t1,hln⟩:=am4 hl (i+1) ns ak ak;refine⟨ns1,t1, ?_⟩;simp only[M.aS,M.bG,M.bC,M.bD,hlt cnt hc,aJ,dn,Sl,ah,bne,show((3:Int)==8)=false from rfl,show((3:Int)==3)=true from rfl,show((3:Int)==4)=false from rfl,Bool.not_false,aW,pJ,am3 hl afT,hln,M.bF,M.dY,w1];rfl
theorem aHf(H:∀n',n'<=n->∀m',4 * n'+20<=m'->RX l n' m')(hm:4 * n+22<=m)(p:Int)(p1 a b p4:Bool)(i:Nat)(ns:List Tk)(hi:i<=l.length)(hn:ns.length<=i):AX l i (M.qE (m+1) p p1 a b p4 4 3000 (aA l) (i:Int) false (aA ns)) (ex l (n+1) 4 a b i (txt ns)):=by
 have h:=H n (zba _) m ak;have e1:M.sZ 4=some 45:=rfl;have e2:M.kG 45=some (4,5):=rfl;have e3:i64.wrap ((4:Int)+1)=5:=rfl;have e4:decide ((3000:Int)>1)=true:=rfl;rw[M.yS];simp only[M.nC,M.oU,M.bF,M.dY,e1,e2,e3,e4,ah,dn,aJ,ex];have hlt:∀cnt:Nat,cnt<3000->decide ((cnt:Int)<3000)=true:=λcnt h=>by rw[zdt];omega
 refine AX.elim (Q:=AX l i) (h.a5 a b i ns hi hn) (λ_=>trivial) (λfl rows hd j ns R g1 g2 g3 g4 g5=> ?_) (λx fl rows j ns h1 he=> ?_)
 ·have hb:M.aS (M.aY m) 4 3000 5 p p1 a b p4 false (0,aA l,(j:Int),true,aF rows,hd,aA ns)=some (.inr (0,aA l,(j:Int),true,aF rows,hd,aA ns)):=by have e0:decide ((0:Int)<3000)=true:=rfl;simp only[M.aS,M.bG,M.bC,M.bD,e0,aJ,dn,afS,ah,aW]
  rw[M.jo,aQ hb];simp only[ah,dn,aJ];exact AX.sU g1 g2 g3 (fzN g4) g5
 ·have hs:=lK (I4 ak ak hi) he;simp only[zbb] at hs;simp only[h1];refine AZ.fin (ZR hl (lv:=4) (a:=a) (b:=b) (f:=λc c1 c2 c3=>M.aY m 5 false a b false c c1 c2 c3) ak ak ?_ ?_ ?_ n (λn' hn' i ns hi hn=>(H n' hn' m ak).a5 a b i ns hi hn) i 0 x j ns ak ak ak ak ak)
  ·intro cnt i rows hd ns hc;simp only[M.aS,M.bG,M.bC,M.bD,hlt cnt hc,aJ,dn,afS,ah,aW]
  ·intro cnt i rows hd ns hc hop;rw[<-UE rfl] at hop;have his:=afR (l:=l) 4 p p1 a b p4 i ns ak ak;rw[hop] at his;have Sl:M.kV 4 p p1 a b p4 (aA l) (i:Int) false (aA ns)=some (false,aA l,(i:Int),false,aA ns):=his;simp only[M.aS,M.bG,M.bC,M.bD,hlt cnt hc,aJ,dn,Sl,ah,aW]
  ·intro cnt i rows hd ns hc hop afT hni;have hk0:=GR ak hop;rw[<-UE rfl] at hop;have his:=afR (l:=l) 4 p p1 a b p4 i ns ak ak;rw[hop] at his;have Sl:M.kV 4 p p1 a b p4 (aA l) (i:Int) false (aA ns)=some (true,aA l,(i:Int),false,aA ns):=his;have w1:i64.wrap ((cnt:Int)+1)=((cnt+1:Nat):Int):=by rw[aK ak ak];omega
   obtain⟨ns1,t1,hln⟩:=am4 hl (i+1) ns ak ak;refine⟨ns1,t1, ?_⟩;simp only[M.aS,M.bG,M.bC,M.bD,hlt cnt hc,aJ,dn,Sl,ah,bne,show((4:Int)==8)=false from rfl,show((4:Int)==3)=false from rfl,show((4:Int)==4)=true from rfl,Bool.not_false,aW,pJ,am3 hl afT,hln,M.bF,M.dY,w1];rfl
theorem aHg(H:∀n',n'<=n->∀m',4 * n'+20<=m'->RX l n' m')(hm:4 * n+22<=m)(p:Int)(p1 a b p4:Bool)(i:Nat)(ns:List Tk)(hi:i<=l.length)(hn:ns.length<=i):AX l i (M.qE (m+1) p p1 a b p4 8 3000 (aA l) (i:Int) false (aA ns)) (ex l (n+1) 8 a b i (txt ns)):=by
 have h:=H n (zba _) m ak;have e1:M.sZ 8=some 99:=rfl;have e2:M.kG 99=some (8,9):=rfl;have e3:i64.wrap ((8:Int)+1)=9:=rfl;have e4:decide ((3000:Int)>1)=true:=rfl;rw[M.yS];simp only[M.nC,M.oU,M.bF,M.dY,e1,e2,e3,e4,ah,dn,aJ,ex];have hlt:∀cnt:Nat,cnt<3000->decide ((cnt:Int)<3000)=true:=λcnt h=>by rw[zdt];omega
 refine AX.elim (Q:=AX l i) (h.a9 a b i ns hi hn) (λ_=>trivial) (λfl rows hd j ns R g1 g2 g3 g4 g5=> ?_) (λx fl rows j ns h1 he=> ?_)
 ·have hb:M.aS (M.aY m) 8 3000 9 p p1 a b p4 false (0,aA l,(j:Int),true,aF rows,hd,aA ns)=some (.inr (0,aA l,(j:Int),true,aF rows,hd,aA ns)):=by have e0:decide ((0:Int)<3000)=true:=rfl;simp only[M.aS,M.bG,M.bC,M.bD,e0,aJ,dn,afS,ah,aW]
  rw[M.jo,aQ hb];simp only[ah,dn,aJ];exact AX.sU g1 g2 g3 (fzN g4) g5
 ·have hs:=lK (I4 ak ak hi) he;simp only[zbb] at hs;simp only[h1];refine AZ.fin (ZR hl (lv:=8) (a:=a) (b:=b) (f:=λc c1 c2 c3=>M.aY m 9 false a b false c c1 c2 c3) ak ak ?_ ?_ ?_ n (λn' hn' i ns hi hn=>(H n' hn' m ak).a9 a b i ns hi hn) i 0 x j ns ak ak ak ak ak)
  ·intro cnt i rows hd ns hc;simp only[M.aS,M.bG,M.bC,M.bD,hlt cnt hc,aJ,dn,afS,ah,aW]
  ·intro cnt i rows hd ns hc hop;rw[<-UE rfl] at hop;have his:=afR (l:=l) 8 p p1 a b p4 i ns ak ak;rw[hop] at his;have Sl:M.kV 8 p p1 a b p4 (aA l) (i:Int) false (aA ns)=some (false,aA l,(i:Int),false,aA ns):=his;simp only[M.aS,M.bG,M.bC,M.bD,hlt cnt hc,aJ,dn,Sl,ah,aW]
  ·intro cnt i rows hd ns hc hop afT hni;have hk0:=GR ak hop;rw[<-UE rfl] at hop;have his:=afR (l:=l) 8 p p1 a b p4 i ns ak ak;rw[hop] at his;have Sl:M.kV 8 p p1 a b p4 (aA l) (i:Int) false (aA ns)=some (true,aA l,(i:Int),false,aA ns):=his;have w1:i64.wrap ((cnt:Int)+1)=((cnt+1:Nat):Int):=by rw[aK ak ak];omega
   refine⟨ns,rfl, ?_⟩;simp only[M.aS,M.bG,M.bC,M.bD,hlt cnt hc,aJ,dn,Sl,ah,bne,show((8:Int)==8)=true from rfl,show((8:Int)==3)=false from rfl,show((8:Int)==4)=false from rfl,zaZ,aW,pJ,M.bF,M.dY,w1];rfl
theorem aHh(H:∀n',n'<=n->∀m',4 * n'+20<=m'->RX l n' m')(hm:4 * n+22<=m)(p:Int)(p1 a b p4:Bool)(i:Nat)(ns:List Tk)(hi:i<=l.length)(hn:ns.length<=i):AX l i (M.qE (m+1) p p1 a b p4 9 3000 (aA l) (i:Int) false (aA ns)) (ex l (n+1) 9 a b i (txt ns)):=by
 have h:=H n (zba _) m ak;have e1:M.sZ 9=some 55:=rfl;have e2:M.kG 55=some (9,10):=rfl;have e3:i64.wrap ((9:Int)+1)=10:=rfl;have e4:decide ((3000:Int)>1)=true:=rfl;rw[M.yS];simp only[M.nC,M.oU,M.bF,M.dY,e1,e2,e3,e4,ah,dn,aJ,ex];have hlt:∀cnt:Nat,cnt<3000->decide ((cnt:Int)<3000)=true:=λcnt h=>by rw[zdt];omega
 refine AX.elim (Q:=AX l i) (h.a10 a b i ns hi hn) (λ_=>trivial) (λfl rows hd j ns R g1 g2 g3 g4 g5=> ?_) (λx fl rows j ns h1 he=> ?_)
 ·have hb:M.aS (M.aY m) 9 3000 10 p p1 a b p4 false (0,aA l,(j:Int),true,aF rows,hd,aA ns)=some (.inr (0,aA l,(j:Int),true,aF rows,hd,aA ns)):=by have e0:decide ((0:Int)<3000)=true:=rfl;simp only[M.aS,M.bG,M.bC,M.bD,e0,aJ,dn,afS,ah,aW]
  rw[M.jo,aQ hb];simp only[ah,dn,aJ];exact AX.sU g1 g2 g3 (fzN g4) g5
 ·have hs:=lK (I4 ak ak hi) he;simp only[zbb] at hs;simp only[h1];refine AZ.fin (ZR hl (lv:=9) (a:=a) (b:=b) (f:=λc c1 c2 c3=>M.aY m 10 false a b false c c1 c2 c3) ak ak ?_ ?_ ?_ n (λn' hn' i ns hi hn=>(H n' hn' m ak).a10 a b i ns hi hn) i 0 x j ns ak ak ak ak ak)
  ·intro cnt i rows hd ns hc;simp only[M.aS,M.bG,M.bC,M.bD,hlt cnt hc,aJ,dn,afS,ah,aW]
  ·intro cnt i rows hd ns hc hop;rw[<-UE rfl] at hop;have his:=afR (l:=l) 9 p p1 a b p4 i ns ak ak;rw[hop] at his;have Sl:M.kV 9 p p1 a b p4 (aA l) (i:Int) false (aA ns)=some (false,aA l,(i:Int),false,aA ns):=his;simp only[M.aS,M.bG,M.bC,M.bD,hlt cnt hc,aJ,dn,Sl,ah,aW]
  ·intro cnt i rows hd ns hc hop afT hni;have hk0:=GR ak hop;rw[<-UE rfl] at hop;have his:=afR (l:=l) 9 p p1 a b p4 i ns ak ak;rw[hop] at his;have Sl:M.kV 9 p p1 a b p4 (aA l) (i:Int) false (aA ns)=some (true,aA l,(i:Int),false,aA ns):=his;have w1:i64.wrap ((cnt:Int)+1)=((cnt+1:Nat):Int):=by rw[aK ak ak];omega
   refine⟨ns,rfl, ?_⟩;simp only[M.aS,M.bG,M.bC,M.bD,hlt cnt hc,aJ,dn,Sl,ah,bne,show((9:Int)==8)=false from rfl,show((9:Int)==3)=false from rfl,show((9:Int)==4)=false from rfl,Bool.not_false,aW,pJ,am3 hl afT,M.bF,M.dY,w1];rfl
theorem aDq(H:∀n',n'<=n->∀m',4 * n'+20<=m'->RX l n' m')(hm:4 * n+22<=m)(p:Int)(p1 a b p4:Bool)(i:Nat)(ns:List Tk)(hi:i<=l.length)(hn:ns.length<=i):AX l i (M.qE (m+1) p p1 a b p4 10 3000 (aA l) (i:Int) false (aA ns)) (ex l (n+1) 10 a b i (txt ns)):=by
 have h:=H n (zba _) m ak;have e1:M.sZ 10=some 57:=rfl;have e2:M.kG 57=some (10,11):=rfl;have e3:i64.wrap ((10:Int)+1)=11:=rfl;have e4:decide ((3000:Int)>1)=true:=rfl;rw[M.yS];simp only[M.nC,M.oU,M.bF,M.dY,e1,e2,e3,e4,ah,dn,aJ,ex];have hlt:∀cnt:Nat,cnt<3000->decide ((cnt:Int)<3000)=true:=λcnt h=>by rw[zdt];omega
 refine AX.elim (Q:=AX l i) (h.a11 a b i ns hi hn) (λ_=>trivial) (λfl rows hd j ns R g1 g2 g3 g4 g5=> ?_) (λx fl rows j ns h1 he=> ?_)
 ·have hb:M.aS (M.aY m) 10 3000 11 p p1 a b p4 false (0,aA l,(j:Int),true,aF rows,hd,aA ns)=some (.inr (0,aA l,(j:Int),true,aF rows,hd,aA ns)):=by have e0:decide ((0:Int)<3000)=true:=rfl;simp only[M.aS,M.bG,M.bC,M.bD,e0,aJ,dn,afS,ah,aW]
  rw[M.jo,aQ hb];simp only[ah,dn,aJ];exact AX.sU g1 g2 g3 (fzN g4) g5
 ·have hs:=lK (I4 ak ak hi) he;simp only[zbb] at hs;simp only[h1];refine AZ.fin (ZR hl (lv:=10) (a:=a) (b:=b) (f:=λc c1 c2 c3=>M.aY m 11 false a b false c c1 c2 c3) ak ak ?_ ?_ ?_ n (λn' hn' i ns hi hn=>(H n' hn' m ak).a11 a b i ns hi hn) i 0 x j ns ak ak ak ak ak)
  ·intro cnt i rows hd ns hc;simp only[M.aS,M.bG,M.bC,M.bD,hlt cnt hc,aJ,dn,afS,ah,aW]
  ·intro cnt i rows hd ns hc hop;rw[<-UE rfl] at hop;have his:=afR (l:=l) 10 p p1 a b p4 i ns ak ak;rw[hop] at his;have Sl:M.kV 10 p p1 a b p4 (aA l) (i:Int) false (aA ns)=some (false,aA l,(i:Int),false,aA ns):=his;simp only[M.aS,M.bG,M.bC,M.bD,hlt cnt hc,aJ,dn,Sl,ah,aW]
  ·intro cnt i rows hd ns hc hop afT hni;have hk0:=GR ak hop;rw[<-UE rfl] at hop;have his:=afR (l:=l) 10 p p1 a b p4 i ns ak ak;rw[hop] at his;have Sl:M.kV 10 p p1 a b p4 (aA l) (i:Int) false (aA ns)=some (true,aA l,(i:Int),false,aA ns):=his;have w1:i64.wrap ((cnt:Int)+1)=((cnt+1:Nat):Int):=by rw[aK ak ak];omega
   refine⟨ns,rfl, ?_⟩;simp only[M.aS,M.bG,M.bC,M.bD,hlt cnt hc,aJ,dn,Sl,ah,bne,show((10:Int)==8)=false from rfl,show((10:Int)==3)=false from rfl,show((10:Int)==4)=false from rfl,Bool.not_false,aW,pJ,am3 hl afT,M.bF,M.dY,w1];rfl
theorem aHi(h:RX l n m)(p:Int)(p1 a b p4:Bool)(i:Nat)(ns:List Tk)(hi:i<=l.length)(hn:ns.length<=i):AX l i (M.qE (m+1) p p1 a b p4 6 1 (aA l) (i:Int) false (aA ns)) (ex l (n+1) 6 a b i (txt ns)):=by
 have e1:M.sZ 6=some 67:=rfl;have e2:M.kG 67=some (7,7):=rfl;have e4:decide ((1:Int)>1)=false:=rfl;have e0:decide ((0:Int)<1)=true:=rfl;have e5:decide ((1:Int)<1)=false:=rfl;have e6:i64.wrap ((0:Int)+1)=1:=rfl;rw[M.yS];simp only[M.nC,M.oU,M.bF,M.dY,e1,e2,e4,ah,dn,aJ,aW,ex];refine AX.elim (Q:=AX l i) (h.a7 a b i ns hi hn) (λ_=>trivial) (λfl rows hd j ns R g1 g2 g3 g4 g5=> ?_) (λx fl rows j ns h1 he=> ?_)
 ·have hb:M.aS (M.aY m) 6 1 7 p p1 a b p4 false (0,aA l,(j:Int),true,aF rows,hd,aA ns)=some (.inr (0,aA l,(j:Int),true,aF rows,hd,aA ns)):=by simp only[M.aS,M.bG,M.bC,M.bD,e0,aJ,dn,afS,ah,aW]
  rw[M.jo,aQ hb];simp only[ah,dn,aJ];exact AX.sU g1 g2 g3 (fzN g4) g5
 ·have hs:=lK (I4 ak ak hi) he;simp only[zbb] at hs;simp only[h1];have his:=afR (l:=l) 6 p p1 a b p4 j ns ak ak;have Sl:M.kV 6 p p1 a b p4 (aA l) (j:Int) false (aA ns)=some (oN 6 b (aO l j),aA l,(j:Int),false,aA ns):=his;have hpl:(aO l j==67||aO l j==46)=oN 6 b (aO l j):=by rw[UE rfl,show(b && Nat.beq 6 7)=false from Bool.and_false b,ac2 rfl];exact lv6 _
  rw[hpl];cases hop:oN 6 b (aO l j) with
  |false=>
   have hb:M.aS (M.aY m) 6 1 7 p p1 a b p4 false (0,aA l,(j:Int),false,aP false (x.1.flat 0),x.2,aA ns)=some (.inr (0,aA l,(j:Int),false,aP false (x.1.flat 0),x.2,aA ns)):=by simp only[M.aS,M.bG,M.bC,M.bD,e0,aJ,dn,Sl,hop,ah,aW]
   rw[M.jo,aQ hb];simp only[ah,dn,aJ,aW];exact AX.mk (bV _ _) rfl
  |true=>
   have afT:=eF (GR (lv:=6) ak hop);have hb:M.aS (M.aY m) 6 1 7 p p1 a b p4 false (0,aA l,(j:Int),false,aP false (x.1.flat 0),x.2,aA ns)=(M.aY m 7 false a b false (aA l) ((j+1:Nat):Int) false (aA ns)).bind λr=>(M.bW 12 (aO l j) [] [] [] (aF [[D.sl false 5 (aP false (x.1.flat 0))],[D.sl false 5 (aF r.2.1)]])).bind λr'=>some (.inl (1,r.2.2.2.1,r.2.2.2.2.1,r.2.2.2.2.2.1,aF r'.2.1,r'.2.2,r.2.2.2.2.2.2)):=by simp only[M.aS,M.bG,M.bC,M.bD,e0,aJ,dn,Sl,hop,ah,bne,show((6:Int)==8)=false from rfl,show((6:Int)==3)=false from rfl,show((6:Int)==4)=false from rfl,Bool.not_false,aW,pJ,am3 hl afT,M.bF,M.dY,e6]
   have hr:=h.a7 (p1:=false) (p4:=false) a b (j+1) ns ak ak;have abO:=I4 (l:=l) (n:=n) (lv:=7) (a:=a) (b:=b) (i:=j+1) (ns:=ns) ak ak ak;simp only[aJ];rw[M.jo];generalize ex l n 7 a b (j+1) (txt ns)=q at hr abO|-;cases q with
   |out=>trivial
   |bad j2=>
    obtain⟨fl',rows',hd',ns',R,g1,g2,g3,g4,g5,h2⟩:=hr;obtain⟨R',e7,e8⟩:=aes 12 (aO l j) [] [] [] (P:=[x.1.flat 0,R]) (b:=x.1.size+3 * (j2 - (j+1))) (by simp only[lens,Tn.flat_length];have:=g5.1;omega) ak (by simp) (KB.tree ak (KB.cons g5.2 KB.nil));simp only[h2,ah,g4,aDl,e7,bV] at hb;have hb2:M.aS (M.aY m) 6 1 7 p p1 a b p4 false (1,aA l,(j2:Int),true,aP false R',false,aA ns')=some (.inr (1,aA l,(j2:Int),true,aP false R',false,aA ns')):=by simp only[M.aS,M.bG,M.bC,M.bD,e5,aW]
    rw[bI hb,aQ hb2];simp only[ah,dn,aJ];exact AX.sU ak g2 g3 (bV _ _) (e8.mono ak)
   |ok y j2 m2=>
    obtain⟨fl',rows',ns',h3,rfl,h2⟩:=hr;have hs2:FE l (j+1) ns.length y.1.size j2 (txt ns').length:=abO;have ho:=aer 12 (aO l j) [] [] [] [x.1,y.1] (by simp only[sizes];omega);have ho':M.bW 12 (aO l j) [] [] [] (JG [x.1.flat 0,y.1.flat 0])=some (false,aP false ((Tn.mk 12 (aO l j) [] [] [x.1,y.1]).flat 0),false):=ho;simp only[h2,ah,h3,aDl,ho',bV] at hb;have hb2:M.aS (M.aY m) 6 1 7 p p1 a b p4 false (1,aA l,(j2:Int),false,aP false ((Tn.mk 12 (aO l j) [] [] [x.1,y.1]).flat 0),false,aA ns')=some (.inr (1,aA l,(j2:Int),false,aP false ((Tn.mk 12 (aO l j) [] [] [x.1,y.1]).flat 0),false,aA ns')):=by simp only[M.aS,M.bG,M.bC,M.bD,e5,aW]
    rw[bI hb,aQ hb2];simp only[ah,dn,aJ];exact AX.mk (bV _ _) rfl
theorem aHj(h:RX l n m)(p:Int)(p1 a b p4:Bool)(i:Nat)(ns:List Tk)(hi:i<=l.length)(hn:ns.length<=i):AX l i (M.qE (m+1) p p1 a b p4 7 1 (aA l) (i:Int) false (aA ns)) (ex l (n+1) 7 a b i (txt ns)):=by
 have e1:M.sZ 7=some 63:=rfl;have e2:M.kG 63=some (8,8):=rfl;have e4:decide ((1:Int)>1)=false:=rfl;have e0:decide ((0:Int)<1)=true:=rfl;have e5:decide ((1:Int)<1)=false:=rfl;have e6:i64.wrap ((0:Int)+1)=1:=rfl;rw[M.yS];simp only[M.nC,M.oU,M.bF,M.dY,e1,e2,e4,ah,dn,aJ,aW,ex];refine AX.elim (Q:=AX l i) (h.a8 a b i ns hi hn) (λ_=>trivial) (λfl rows hd j ns R g1 g2 g3 g4 g5=> ?_) (λx fl rows j ns h1 he=> ?_)
 ·have hb:M.aS (M.aY m) 7 1 8 p p1 a b p4 false (0,aA l,(j:Int),true,aF rows,hd,aA ns)=some (.inr (0,aA l,(j:Int),true,aF rows,hd,aA ns)):=by simp only[M.aS,M.bG,M.bC,M.bD,e0,aJ,dn,afS,ah,aW]
  rw[M.jo,aQ hb];simp only[ah,dn,aJ];exact AX.sU g1 g2 g3 (fzN g4) g5
 ·have hs:=lK (I4 ak ak hi) he;simp only[zbb] at hs;simp only[h1];have his:=afR (l:=l) 7 p p1 a b p4 j ns ak ak;have Sl:M.kV 7 p p1 a b p4 (aA l) (j:Int) false (aA ns)=some (oN 7 b (aO l j),aA l,(j:Int),false,aA ns):=his;cases hop:oN 7 b (aO l j) with
  |false=>
   have hb:M.aS (M.aY m) 7 1 8 p p1 a b p4 false (0,aA l,(j:Int),false,aP false (x.1.flat 0),x.2,aA ns)=some (.inr (0,aA l,(j:Int),false,aP false (x.1.flat 0),x.2,aA ns)):=by simp only[M.aS,M.bG,M.bC,M.bD,e0,aJ,dn,Sl,hop,ah,aW]
   rw[M.jo,aQ hb];simp only[ah,dn,aJ,aW];exact AX.mk (bV _ _) rfl
  |true=>
   have afT:=eF (GR (lv:=7) ak hop);have hb:M.aS (M.aY m) 7 1 8 p p1 a b p4 false (0,aA l,(j:Int),false,aP false (x.1.flat 0),x.2,aA ns)=(M.aY m 8 false a b false (aA l) ((j+1:Nat):Int) false (aA ns)).bind λr=>(M.bW 12 (aO l j) [] [] [] (aF [[D.sl false 5 (aP false (x.1.flat 0))],[D.sl false 5 (aF r.2.1)]])).bind λr'=>some (.inl (1,r.2.2.2.1,r.2.2.2.2.1,r.2.2.2.2.2.1,aF r'.2.1,r'.2.2,r.2.2.2.2.2.2)):=by simp only[M.aS,M.bG,M.bC,M.bD,e0,aJ,dn,Sl,hop,ah,bne,show((7:Int)==8)=false from rfl,show((7:Int)==3)=false from rfl,show((7:Int)==4)=false from rfl,Bool.not_false,aW,pJ,am3 hl afT,M.bF,M.dY,e6]
   have hr:=h.a8 (p1:=false) (p4:=false) a b (j+1) ns ak ak;have abO:=I4 (l:=l) (n:=n) (lv:=8) (a:=a) (b:=b) (i:=j+1) (ns:=ns) ak ak ak;simp only[aJ];rw[M.jo];generalize ex l n 8 a b (j+1) (txt ns)=q at hr abO|-;cases q with
   |out=>trivial
   |bad j2=>
    obtain⟨fl',rows',hd',ns',R,g1,g2,g3,g4,g5,h2⟩:=hr;obtain⟨R',e7,e8⟩:=aes 12 (aO l j) [] [] [] (P:=[x.1.flat 0,R]) (b:=x.1.size+3 * (j2 - (j+1))) (by simp only[lens,Tn.flat_length];have:=g5.1;omega) ak (by simp) (KB.tree ak (KB.cons g5.2 KB.nil));simp only[h2,ah,g4,aDl,e7,bV] at hb;have hb2:M.aS (M.aY m) 7 1 8 p p1 a b p4 false (1,aA l,(j2:Int),true,aP false R',false,aA ns')=some (.inr (1,aA l,(j2:Int),true,aP false R',false,aA ns')):=by simp only[M.aS,M.bG,M.bC,M.bD,e5,aW]
    rw[bI hb,aQ hb2];simp only[ah,dn,aJ];exact AX.sU ak g2 g3 (bV _ _) (e8.mono ak)
   |ok y j2 m2=>
    obtain⟨fl',rows',ns',h3,rfl,h2⟩:=hr;have hs2:FE l (j+1) ns.length y.1.size j2 (txt ns').length:=abO;have ho:=aer 12 (aO l j) [] [] [] [x.1,y.1] (by simp only[sizes];omega);have ho':M.bW 12 (aO l j) [] [] [] (JG [x.1.flat 0,y.1.flat 0])=some (false,aP false ((Tn.mk 12 (aO l j) [] [] [x.1,y.1]).flat 0),false):=ho;simp only[h2,ah,h3,aDl,ho',bV] at hb;have hb2:M.aS (M.aY m) 7 1 8 p p1 a b p4 false (1,aA l,(j2:Int),false,aP false ((Tn.mk 12 (aO l j) [] [] [x.1,y.1]).flat 0),false,aA ns')=some (.inr (1,aA l,(j2:Int),false,aP false ((Tn.mk 12 (aO l j) [] [] [x.1,y.1]).flat 0),false,aA ns')):=by simp only[M.aS,M.bG,M.bC,M.bD,e5,aW]
    rw[bI hb,aQ hb2];simp only[ah,dn,aJ];exact AX.mk (bV _ _) rfl
end
def rx(hl:l.length<=3000):∀N n,n<=N->∀m,4 * n+20<=m->RX l n m:=by
 intro N;induction N with
 |zero=>intro n hn m hm;obtain rfl:n=0:=ak;exact⟨λ_ _ _ _ _ _=>by rw[ex];trivial,λ_ _ _ _ _ _=>by rw[ex];trivial,λ_ _ _ _ _ _=>by rw[ex];trivial,λ_ _ _ _ _ _=>by rw[ex];trivial,λ_ _ _ _ _ _=>by rw[ex];trivial,λ_ _ _ _ _ _=>by rw[ex];trivial,λ_ _ _ _ _ _=>by rw[ex];trivial,λ_ _ _ _ _ _=>by rw[ex];trivial,λ_ _ _ _ _ _=>by rw[ex];trivial,λ_ _ _ _ _ _=>by rw[ex];trivial,λ_ _ _ _ _ _=>by rw[ex];trivial,λ_ _ _ _ _ _=>by rw[ex];trivial,λ_ _ _ _ _ _=>by rw[ex];trivial,λ_ _ _ _ _ _=>by rw[ex];trivial,λ_ _ _ _ _ _=>by rw[ex];trivial,λ_ _ _ _ _ _ _ _ _=>by rw[ex];trivial,λ_ _ _ _ _ _=>by rw[ex];trivial,λ_ _ _ _ _ _ _ _ _ _=>by rw[I8];trivial⟩
 |succ N ih=>
  intro n hn m hm;cases n with
  |zero=>exact ih 0 ak m hm
  |succ n=>
   obtain⟨m,rfl⟩:∃m',m=m'+2:=⟨m - 2,ak⟩
   have H:∀n',n'<=n->∀m',4 * n'+20<=m'->RX l n' m':=λn' h=>ih n' ak
   have h:=H n (zba _) m ak;have h1:=H n (zba _) (m+1) ak;have hm1:1<=m:=ak;have hm2:4 * n+22<=m:=ak;refine⟨?_, ?_, ?_, ?_, ?_, ?_, ?_, ?_, ?_, ?_, ?_, ?_, ?_, ?_, ?_,λp p1 a b p4 i ns hi hn=>ayG hl h1 p p1 a b p4 i ns hi hn,λa b i ns hi hn=>ayK hl H ak a b i ns hi hn,λp p1 a b p4 i ns hi hn hst=>aHa hl h1 ak p p1 a b p4 i ns hi hn hst⟩
   ·intro p1 p4 a b i ns hi hn;rw[M.mY];simp only[M.je,M.gI,aW,dn,aJ,show((1:Int)==1)=true from rfl];exact AX.pass (auW hl h 1 p1 a b p4 i ns hi hn) (zba i) (by intros;simp only[dn,aJ])
   ·intro p1 p4 a b i ns hi hn;rw[M.mY];simp only[M.je,M.gI,aW,dn,aJ,show((2:Int)==1)=false from rfl,show((2:Int)==2)=true from rfl];exact AX.pass (aDm hl h hm1 2 p1 a b p4 i ns hi hn) (zba i) (by intros;simp only[dn,aJ])
   ·intro p1 p4 a b i ns hi hn;rw[M.mY];simp only[M.je,M.gI,aW,dn,aJ,show((3:Int)==1)=false from rfl,show((3:Int)==2)=false from rfl,show((3:Int)==5)=false from rfl,show((3:Int)==6)=false from rfl,show((3:Int)==7)=false from rfl,show((3:Int)==3)=true from rfl];exact AX.pass (aHe hl H hm2 3 p1 a b p4 i ns hi hn) (zba i) (by intros;simp only[dn,aJ])
   ·intro p1 p4 a b i ns hi hn;rw[M.mY];simp only[M.je,M.gI,aW,dn,aJ,show((4:Int)==1)=false from rfl,show((4:Int)==2)=false from rfl,show((4:Int)==5)=false from rfl,show((4:Int)==6)=false from rfl,show((4:Int)==7)=false from rfl,show((4:Int)==3)=false from rfl,show((4:Int)==4)=true from rfl];exact AX.pass (aHf hl H hm2 4 p1 a b p4 i ns hi hn) (zba i) (by intros;simp only[dn,aJ])
   ·intro p1 p4 a b i ns hi hn;rw[M.mY];simp only[M.je,M.gI,aW,dn,aJ,show((5:Int)==1)=false from rfl,show((5:Int)==2)=false from rfl,show((5:Int)==5)=true from rfl];exact AX.pass (aUb hl H hm2 5 p1 a b p4 i ns hi hn) (zba i) (by intros;simp only[dn,aJ])
   ·intro p1 p4 a b i ns hi hn;rw[M.mY];simp only[M.je,M.gI,aW,dn,aJ,show((6:Int)==1)=false from rfl,show((6:Int)==2)=false from rfl,show((6:Int)==5)=false from rfl,show((6:Int)==6)=true from rfl];exact AX.pass (aHi hl h 6 p1 a b p4 i ns hi hn) (zba i) (by intros;simp only[dn,aJ])
   ·intro p1 p4 a b i ns hi hn;rw[M.mY];simp only[M.je,M.gI,aW,dn,aJ,show((7:Int)==1)=false from rfl,show((7:Int)==2)=false from rfl,show((7:Int)==5)=false from rfl,show((7:Int)==6)=false from rfl,show((7:Int)==7)=true from rfl];exact AX.pass (aHj hl h 7 p1 a b p4 i ns hi hn) (zba i) (by intros;simp only[dn,aJ])
   ·intro p1 p4 a b i ns hi hn;rw[M.mY];simp only[M.je,M.gI,aW,dn,aJ,show((8:Int)==1)=false from rfl,show((8:Int)==2)=false from rfl,show((8:Int)==5)=false from rfl,show((8:Int)==6)=false from rfl,show((8:Int)==7)=false from rfl,show((8:Int)==3)=false from rfl,show((8:Int)==4)=false from rfl,show((8:Int)==8)=true from rfl];exact AX.pass (aHg hl H hm2 8 p1 a b p4 i ns hi hn) (zba i) (by intros;simp only[dn,aJ])
   ·intro p1 p4 a b i ns hi hn;rw[M.mY];simp only[M.je,M.gI,aW,dn,aJ,show((9:Int)==1)=false from rfl,show((9:Int)==2)=false from rfl,show((9:Int)==5)=false from rfl,show((9:Int)==6)=false from rfl,show((9:Int)==7)=false from rfl,show((9:Int)==3)=false from rfl,show((9:Int)==4)=false from rfl,show((9:Int)==8)=false from rfl,show((9:Int)==9)=true from rfl];exact AX.pass (aHh hl H hm2 9 p1 a b p4 i ns hi hn) (zba i) (by intros;simp only[dn,aJ])
   ·intro p1 p4 a b i ns hi hn;rw[M.mY];simp only[M.je,M.gI,aW,dn,aJ,show((10:Int)==1)=false from rfl,show((10:Int)==2)=false from rfl,show((10:Int)==5)=false from rfl,show((10:Int)==6)=false from rfl,show((10:Int)==7)=false from rfl,show((10:Int)==3)=false from rfl,show((10:Int)==4)=false from rfl,show((10:Int)==8)=false from rfl,show((10:Int)==9)=false from rfl,show((10:Int)==10)=true from rfl];exact AX.pass (aDq hl H hm2 10 p1 a b p4 i ns hi hn) (zba i) (by intros;simp only[dn,aJ])
   ·intro p1 p4 a b i ns hi hn;rw[M.mY];simp only[M.je,M.gI,aW,dn,aJ,show((11:Int)==1)=false from rfl,show((11:Int)==2)=false from rfl,show((11:Int)==5)=false from rfl,show((11:Int)==6)=false from rfl,show((11:Int)==7)=false from rfl,show((11:Int)==3)=false from rfl,show((11:Int)==4)=false from rfl,show((11:Int)==8)=false from rfl,show((11:Int)==9)=false from rfl,show((11:Int)==10)=false from rfl,show((11:Int)==11)=true from rfl];exact AX.pass (ayH hl h 11 p1 a b p4 i ns hi hn) (zba i) (by intros;simp only[dn,aJ])
   ·intro p1 p4 a b i ns hi hn;rw[M.mY];simp only[M.je,M.gI,aW,dn,aJ,show((12:Int)==1)=false from rfl,show((12:Int)==2)=false from rfl,show((12:Int)==5)=false from rfl,show((12:Int)==6)=false from rfl,show((12:Int)==7)=false from rfl,show((12:Int)==3)=false from rfl,show((12:Int)==4)=false from rfl,show((12:Int)==8)=false from rfl,show((12:Int)==9)=false from rfl,show((12:Int)==10)=false from rfl,show((12:Int)==11)=false from rfl,show((12:Int)==12)=true from rfl];exact AX.pass (ayG hl h 12 p1 a b p4 i ns hi hn) (zba i) (by intros;simp only[dn,aJ])
   ·intro p1 p4 a b i ns hi hn;rw[M.mY];simp only[M.je,M.gI,aW,dn,aJ,show((13:Int)==1)=false from rfl,show((13:Int)==2)=false from rfl,show((13:Int)==5)=false from rfl,show((13:Int)==6)=false from rfl,show((13:Int)==7)=false from rfl,show((13:Int)==3)=false from rfl,show((13:Int)==4)=false from rfl,show((13:Int)==8)=false from rfl,show((13:Int)==9)=false from rfl,show((13:Int)==10)=false from rfl,show((13:Int)==11)=false from rfl,show((13:Int)==12)=false from rfl,show((13:Int)==13)=true from rfl];exact AX.pass (aDn hl h 13 p1 a b p4 i ns hi hn) (zba i) (by intros;simp only[dn,aJ])
   ·intro p1 p4 a b i ns hi hn;rw[M.mY];simp only[M.je,M.gI,aW,dn,aJ,show((14:Int)==1)=false from rfl,show((14:Int)==2)=false from rfl,show((14:Int)==5)=false from rfl,show((14:Int)==6)=false from rfl,show((14:Int)==7)=false from rfl,show((14:Int)==3)=false from rfl,show((14:Int)==4)=false from rfl,show((14:Int)==8)=false from rfl,show((14:Int)==9)=false from rfl,show((14:Int)==10)=false from rfl,show((14:Int)==11)=false from rfl,show((14:Int)==12)=false from rfl,show((14:Int)==13)=false from rfl,show((14:Int)==14)=true from rfl];exact AX.pass (ayI hl h 14 p1 a b p4 i ns hi hn) (zba i) (by intros;simp only[dn,aJ])
   ·intro p1 p4 a b i ns hi hn;rw[M.mY];simp only[M.je,M.gI,aW,dn,aJ,show((15:Int)==1)=false from rfl,show((15:Int)==2)=false from rfl,show((15:Int)==5)=false from rfl,show((15:Int)==6)=false from rfl,show((15:Int)==7)=false from rfl,show((15:Int)==3)=false from rfl,show((15:Int)==4)=false from rfl,show((15:Int)==8)=false from rfl,show((15:Int)==9)=false from rfl,show((15:Int)==10)=false from rfl,show((15:Int)==11)=false from rfl,show((15:Int)==12)=false from rfl,show((15:Int)==13)=false from rfl,show((15:Int)==14)=false from rfl];exact AX.pass (ayK hl H hm2 a b i ns hi hn) (zba i) (by intros;simp only[dn,aJ])
def RX.of(hl:l.length<=3000)(n:Nat){m:Nat}(hm:4 * n+20<=m):RX l n m:=rx hl n n (zba _) m hm
def peP(l:List Tk)(n:Nat)(p:Ps):PR Xp:=
 bif p.fD && !(O9 (aO l 0)) then .bad 0 else bif p.gU && isStep (aO l 0) then I8 l n 0 [] else ex l n p.level.toNat p.nN p.oC 0 []
variable {l:List Tk}
def AP.pas{o:Option TP}{p:PR Xp}(h:AP l o p):AP l (o.bind λr=>bif aj r.2.2.2.2.2.2.2.2.2.2 then
  some (r.1,r.2.1,r.2.2.1,r.2.2.2.1,false,aF r.2.2.2.2.2.1,r.2.2.2.2.2.2.1,r.2.2.2.2.2.2.2.1,r.2.2.2.2.2.2.2.2.1,r.2.2.2.2.2.2.2.2.2.1,r.2.2.2.2.2.2.2.2.2.2) else none) p:=AP.pass h (by intros;simp only[pW,aJ])
def RG{p:Ps}(hp:gY p=true):∃lv:Nat,p.level=lv/\(lv=1\/lv=2\/lv=3\/lv=4\/lv=5\/lv=6\/lv=7\/lv=8\/lv=9\/lv=10\/lv=11\/lv=12\/lv=13\/lv=14\/lv=15)/\(p.gU=true->lv=14):=by unfold gY at hp;rw[wo,wo,decide_eq_true_eq,decide_eq_true_eq] at hp;refine⟨p.level.toNat,ak,ak,λh=> ?_⟩;rw[h,zaZ,Bool.false_or,beq_iff_eq] at hp;omega
def aqf(hl:l.length<=1048576)(n:Nat){p:Ps}(hp:gY p=true):AP l (M.jR p.level p.gU p.nN p.oC p.fD (aA l) 0 false []) (peP l n p):=by
 obtain⟨lv,hlv,hc,hd⟩:=RG hp;have R:=RI.of hl n (zba _);have k0:=jQ (l:=l) 0 false [];have f0:=amV (l:=l) 0 false [];rw[x9] at k0 f0;have hz:encS []=[]:=rfl;rw[hz] at k0 f0;have hfl:aj ([]:au)=true:=rfl;obtain⟨q,d,a,b,s⟩:=p;simp only at hlv hd;subst hlv;simp only[M.jR,M.qV,M.aU,hfl,aJ,k0,ah,ayk,abM,f0,peP];have body:∀(hs:(s && !(O9 (aO l 0)))=false),AP l (M.jR (lv:Int) d a b false (aA l) 0 false []) (bif d && isStep (aO l 0) then I8 l n 0 [] else ex l n (lv:Int).toNat a b 0 []):=by
  intro _;simp only[M.jR,M.qV,M.aU,hfl,aJ,aW,k0,ah,abM];rw[Yf]
  by_cases h14:lv=14
  ·subst h14;simp only[show(((14:Nat):Int)==1)=false from rfl,show(((14:Nat):Int)==2)=false from rfl,show(((14:Nat):Int)==3)=false from rfl,show(((14:Nat):Int)==4)=false from rfl,show(((14:Nat):Int)==5)=false from rfl,
    show(((14:Nat):Int)==6)=false from rfl,show(((14:Nat):Int)==7)=false from rfl,show(((14:Nat):Int)==8)=false from rfl,show(((14:Nat):Int)==9)=false from rfl,show(((14:Nat):Int)==10)=false from rfl,
    show(((14:Nat):Int)==11)=false from rfl,show(((14:Nat):Int)==12)=false from rfl,show(((14:Nat):Int)==13)=false from rfl,show(((14:Nat):Int)==14)=true from rfl,aW,aJ]
   have he:=(AP.lim (R.e14 a b 0 [] (Nat.zero_le _) (zba _)) λr h=>M.YW h).pas;rw[x9,hz] at he;cases d with
   |false=>exact he
   |true=>
    simp only[aJ,Bool.true_and];cases hst:isStep (aO l 0) with
    |false=>exact he
    |true=>have:=(AP.lim (R.pre 0 [] (eF (xC hst)) (zba _)) λr h=>M.Yd h).pas;rw[x9,hz] at this;exact this
  ·obtain rfl:d=false:=by cases d<;>first|rfl|exact absurd (hd rfl) h14
   rw[Bool.false_and,aW];rcases hc with rfl|rfl|rfl|rfl|rfl|rfl|rfl|rfl|rfl|rfl|rfl|rfl|rfl|rfl|rfl
   ·have:=(AP.lim (R.e1 a b 0 [] (Nat.zero_le _) (zba _)) λr h=>M.Yc h).pas;rw[x9,hz] at this;exact this
   ·have:=(AP.lim (R.e2 a b 0 [] (Nat.zero_le _) (zba _)) λr h=>M.aah h).pas;rw[x9,hz] at this;exact this
   ·have:=(AP.lim (R.e3 a b 0 [] (Nat.zero_le _) (zba _)) λr h=>M.acF h).pas;rw[x9,hz] at this;exact this
   ·have:=(AP.lim (R.e4 a b 0 [] (Nat.zero_le _) (zba _)) λr h=>M.abD h).pas;rw[x9,hz] at this;exact this
   ·have:=(AP.lim (R.e5 a b 0 [] (Nat.zero_le _) (zba _)) λr h=>M.acE h).pas;rw[x9,hz] at this;exact this
   ·have:=(AP.lim (R.e6 a b 0 [] (Nat.zero_le _) (zba _)) λr h=>M.YZ h).pas;rw[x9,hz] at this;exact this
   ·have:=(AP.lim (R.e7 a b 0 [] (Nat.zero_le _) (zba _)) λr h=>M.Xv h).pas;rw[x9,hz] at this;exact this
   ·have:=(AP.lim (R.e8 a b 0 [] (Nat.zero_le _) (zba _)) λr h=>M.abC h).pas;rw[x9,hz] at this;exact this
   ·have:=(AP.lim (R.e9 a b 0 [] (Nat.zero_le _) (zba _)) λr h=>M.abB h).pas;rw[x9,hz] at this;exact this
   ·have:=(AP.lim (R.e10 a b 0 [] (Nat.zero_le _) (zba _)) λr h=>M.abA h).pas;rw[x9,hz] at this;exact this
   ·have:=(AP.lim (R.e11 a b 0 [] (Nat.zero_le _) (zba _)) λr h=>M.YX h).pas;rw[x9,hz] at this;exact this
   ·have:=(AP.lim (R.e12 a b 0 [] (Nat.zero_le _) (zba _)) λr h=>M.abz h).pas;rw[x9,hz] at this;exact this
   ·have:=(AP.lim (R.e13 a b 0 [] (Nat.zero_le _) (zba _)) λr h=>M.aag h).pas;rw[x9,hz] at this;exact this
   ·exact absurd rfl h14
   ·have:=(AP.lim (R.e15 a b 0 [] (Nat.zero_le _) (zba _)) λr h=>M.Xu h).pas;rw[x9,hz] at this;exact this
 cases s with
 |false=>have:=body rfl;simp only[M.jR,M.qV,M.aU,hfl,aJ,aW,k0,ah,abM] at this;simp only[aW,Bool.false_and];exact this
 |true=>
  simp only[aJ,Bool.true_and];cases hb:O9 (aO l 0) with
  |false=>simp only[Bool.not_false,aJ];exact⟨_,_,_,_,_,_,_,[],Nat.zero_le _,rfl⟩
  |true=>have:=body (by rw[hb];rfl);simp only[M.jR,M.qV,M.aU,hfl,aJ,aW,k0,ah,abM] at this;simp only[zaZ,aW];exact this
end Go.Proofs.YthmchnpcplgciaaGreatDoor
namespace Go.Proofs.YthmchnpcplgciaaGreatDoor
open Go Go.Vm
variable {l:List Tk}
def a1t{n:Nat}{a b:Bool}{i:Nat}{nt:kH}{y:Xp}{j:Nat}{m:kH}(h:ex l n 14 a b i nt=.ok y j m)(hk:aO l i=6\/aO l i=68):y.2=false/\Ee y.1.kind=true:=by
 cases n with
 |zero=>rw[ex] at h;cases h
 |succ n=>
  rw[ex] at h;rcases hk with hk|hk
  ·rw[hk] at h;simp only[Int.reduceBEq,aW] at h;cases n with
   |zero=>rw[ex] at h;cases h
   |succ n=>
    rw[amT,hk] at h;simp only[Int.reduceBEq,aW,aJ] at h;cases hc:aO l (i+1)==34 with
    |true=>rw[hc,aJ] at h;obtain⟨L,i2,m2,e2,h⟩:=jf h;obtain⟨u,i3,m3,e3,h⟩:=jf h;cases h;exact⟨rfl,rfl⟩
    |false=>rw[hc,aW] at h;cases h;exact⟨rfl,rfl⟩
  ·rw[hk] at h;simp only[Int.reduceBEq,aJ] at h;obtain⟨x,i2,m2,e2,h⟩:=jf h;cases h;exact⟨rfl,rfl⟩
def aqg{k:Int}(h:isStep k=true):O9 k=false:=by unfold isStep at h;rw[Bool.or_eq_true,beq_iff_eq,beq_iff_eq] at h;rcases h with h|h<;>subst h<;>rfl
def Dv.leaf{k:Int}{a b:Bool}{i:Nat}(h3:k=2\/k=3\/k=4)(hk:aO l i=k+1):Dv l (.mk k 0 (xB l i) [] [],false) 15 a b i (i+1):=λs hs=>by
 have hp:=UC (lv:=15) ak ak a b s;have hl:lvl k 0=15:=by rcases h3 with h|h|h<;>subst h<;>rfl
 refine .node (Bh hp (by show lvl k 0≠0;rw[hl];decide) ⟨λ_=>by show k≠13;omega,λ_ c=>(by have:k=12:=c.1;omega),λe=> ?_⟩ (.inl (by show((15:Nat):Int)<=lvl k 0;rw[hl];omega))) (.leaf h3 hk);have:=hs e;show k≠4/\k≠9/\k≠11;refine⟨λe4=> ?_,ak,ak⟩;rw[hk,e4] at this;cases this
def Dv.VO{k:Int}{x:aI}{ks:List Tn}{a b:Bool}{i j:Nat}(hk:k=1\/k=5\/k=7\/k=8)(h:∀p,Dx l (.nv (.mk k 0 x [] ks) p) i j):Dv l (.mk k 0 x [] ks,false) 15 a b i j:=λs hs=>by
 have hp:=UC (lv:=15) ak ak a b s;have hl:lvl k 0=15:=by rcases hk with h|h|h|h<;>subst h<;>rfl
 exact .node (Bh hp (by show lvl k 0≠0;rw[hl];decide) ⟨λ_=>by show k≠13;omega,λ_ c=>(by have:k=12:=c.1;omega),λ_=>by show k≠4/\k≠9/\k≠11;omega⟩ (.inl (by show((15:Nat):Int)<=lvl k 0;rw[hl];omega))) (h _)
def Dv.nine{x:Xp}{a b:Bool}{lv:Nat}{i j:Nat}(h1:1<=lv)(h13:lv<=13)(hst:isStep (aO l i)=true)(h:x.2=false/\x.1.kind=9/\∀p,gY p=true->Dx l (.nv x.1 p) i j):Dv l x lv a b i j:=λs hs=>by
 obtain⟨g1,g2,g3⟩:=h;have hp:=UC h1 (show lv<=15 by omega) a b s;have hl:lvl x.1.kind x.1.op=13:=by rw[g2];rfl
 rw[g1];refine .node (Bh hp (by rw[hl];decide) ⟨λ_=>by rw[g2];decide,λ_ c=>(by rw[g2] at c;cases c.1),λe=> ?_⟩ (.inl (by show(lv:Int)<=lvl x.1.kind x.1.op;rw[hl];omega))) (g3 _ hp);have:=hs e;rw[aqg hst] at this;cases this
section
variable {n:Nat} (H:Bk l n)
include H
theorem aUc{a b:Bool}{i:Nat}{nt:kH}{x:Xp}{j:Nat}{m:kH}(hi:i<=l.length)(h:ex l (n+1) 15 a b i nt=.ok x j m)(hn:NC l i j):Dv l x 15 a b i j:=by
 rw[amT] at h;cases c3:aO l i==3 with
 |true=>rw[c3,aJ] at h;cases h;exact .leaf ak (by rw[beq_iff_eq] at c3;omega)
 |false=>
 cases c4:aO l i==4 with
 |true=>rw[c3,c4,aW,aJ] at h;cases h;exact .leaf ak (by rw[beq_iff_eq] at c4;omega)
 |false=>
 cases c5:aO l i==5 with
 |true=>rw[c3,c4,c5,aW,aW,aJ] at h;cases h;exact .leaf ak (by rw[beq_iff_eq] at c5;omega)
 |false=>
 rw[c3,c4,c5,aW,aW,aW] at h;cases c6:aO l i==6 with
 |true=>
  rw[c6,aJ] at h;have k6:aO l i=6:=by rwa [beq_iff_eq] at c6
  cases c34:aO l (i+1)==34 with
  |true=>
   rw[c34,aJ] at h;have k34:aO l (i+1)=34:=by rwa [beq_iff_eq] at c34
   obtain⟨L,i2,m2,e2,h⟩:=jf h;obtain⟨u,i3,m3,e3,h⟩:=jf h;obtain⟨k35,rfl⟩:=WJ e3;cases h;have hlt:=eF (l:=l) (i:=i+1) ak;obtain⟨K,q1,q2,q3⟩:=H.it ak e2 (hn.sub ak ak) (by decide);rw[List.nil_append] at q1;subst q1;exact .VO ak λp=> .index k6 k34 q2 q3 k35
  |false=>rw[c34,aW] at h;cases h;exact .VO ak λp=> .name k6
 |false=>
 rw[c6,aW] at h;cases c78:(aO l i==7||aO l i==8) with
 |true=>
  rw[c78,aJ] at h;rw[Bool.or_eq_true,beq_iff_eq,beq_iff_eq] at c78;cases cl:(aO l i==8 &&(xB l i==[108,101,110,103,116,104] && !(aO l (i+1)==32))) with
  |true=>rw[cl,aJ] at h;cases h;rw[wo,wo,beq_iff_eq,beq_iff_eq,Bool.not_eq_true',nY] at cl;exact .VO ak λp=> .len cl.1 cl.2.1 cl.2.2
  |false=>
   rw[cl,aW] at h;obtain⟨u,i2,m2,e2,h⟩:=jf h;obtain⟨k32,rfl⟩:=WJ e2;obtain⟨L,i3,m3,e3,h⟩:=jf h;cases h;have hlt:=eF (l:=l) (i:=i+1) ak;obtain⟨j',rfl,k33,hL⟩:=H.lst ak e3 (hn.sub ak (zba _));rcases hL with⟨rfl,rfl⟩|⟨hL,h6⟩
   ·exact .VO ak λp=> .Lm c78 rfl k32 k33
   ·exact .VO ak λp=> .call c78 rfl k32 hL h6 k33
 |false=>
 rw[c78,aW] at h;cases c32:aO l i==32 with
 |false=>rw[c32] at h;cases h
 |true=>
  rw[c32,aJ] at h;have k32:aO l i=32:=by rwa [beq_iff_eq] at c32
  obtain⟨y,i2,m2,e2,h⟩:=jf h;obtain⟨u,i3,m3,e3,h⟩:=jf h;obtain⟨k33,rfl⟩:=WJ e3;cases h;have hlt:=eF (l:=l) (i:=i) ak;have d:=H.ex ak ak ak e2 (hn.sub ak ak) false (λe=>by cases e);exact λs hs=> .par k32 d k33
theorem aUd{lv:Nat}{a b:Bool}{i:Nat}{nt:kH}{x:Xp}{j:Nat}{m:kH}(h1:1<=lv)(h15:lv<=15)(hi:i<=l.length)(h:ex l (n+1) lv a b i nt=.ok x j m)(hn:NC l i j):Dv l x lv a b i j:=by
 have FEx:∀{lv:Nat} {a b:Bool} {i:Nat} {nt:kH} {x:Xp} {j:Nat} {m:kH},1<=lv->lv<=15->i<=l.length->ex l n lv a b i nt=.ok x j m->i<j/\j<=l.length:=λh1 h2 h3 e=>by have:=lK ((sats l n).ex _ _ _ _ _ h1 h2 h3) e;exact⟨this.1,this.2.1⟩
 have chain:∀{lv:Nat},(lv=3\/lv=4\/lv=8\/lv=9\/lv=10)->((ex l n (lv+1) a b i nt).bind λx i nt=>UK l n lv a b x i nt)=.ok x j m->Dv l x lv a b i j:=by intro lv hc h;obtain⟨x0,i1,m1,e1,h⟩:=jf h;have g:=FEx ak ak hi e1;have g2:=lK ((sats l n).ch lv a b _ i1 m1 ak ak g.2) h;have hj:i1<=j:=g2.1.1;exact H.ch hc g.2 ak h hn ((H.ex ak ak hi e1 (hn.sub (zba _) hj)).mono ak ak ak)
 have hc:lv=1\/lv=2\/lv=3\/lv=4\/lv=5\/lv=6\/lv=7\/lv=8\/lv=9\/lv=10\/lv=11\/lv=12\/lv=13\/lv=14\/lv=15:=ak;rcases hc with rfl|rfl|rfl|rfl|rfl|rfl|rfl|rfl|rfl|rfl|rfl|rfl|rfl|rfl|rfl
 ·
  rw[ex] at h;obtain⟨x0,i1,m1,e1,h⟩:=jf h;have g:=FEx ak ak hi e1;cases hc:tgt x0 && F7 (aO l i1) with
  |false=>rw[hc,aW] at h;cases h;exact(H.ex ak ak hi e1 hn).mono ak ak ak
  |true=>
   rw[hc,aJ] at h;obtain⟨y,i2,m2,e2,h⟩:=jf h;cases h;rw[wo] at hc;have ht:=hc.1;unfold tgt at ht;rw[wo,Bool.not_eq_true'] at ht;have hlt:=eF (aeg hc.2);have g2:=FEx ak ak ak e2;have d1:=H.ex ak ak hi e1 (hn.sub (zba _) ak);have d2:=H.ex ak ak ak e2 (hn.sub ak (zba _));intro s hs;have hp:=UC (lv:=1) ak ak a b s;have hl:lvl 15 (aO l i1)=1:=rfl;refine .node (Bh hp (by show lvl 15 (aO l i1)≠0;rw[hl];decide) ⟨λ_=>by show(15:Int)≠13;decide,λ_ c=>(by have:=c.1;cases this),λ_=>by show(15:Int)≠4/\(15:Int)≠9/\(15:Int)≠11;decide⟩ (.inl (by show((1:Nat):Int)<=lvl 15 (aO l i1);rw[hl];omega))) (.asg (hv:=y.2) ht.2 ?_ hc.2 ?_)
   ·have:=d1 s hs;rw[ht.1] at this;have q:=agb this;rw[FB hp ak (by rw[hl];decide) (by rw[hl];decide) (λe=>by cases e)];refine asR q.2 (ac1 q.1).1 ?_ rfl rfl ?_
    ·exact UC (lv:=14) ak ak a b _
    ·cases s<;>rfl
   ·have:=d2 false (λe=>by cases e);rw[FB hp ak (by rw[hl];decide) (by rw[hl];decide) (λe=>by cases e)];cases s<;>exact this
 ·
  rw[ex] at h;obtain⟨x0,i1,m1,e1,h⟩:=jf h;have g:=FEx ak ak hi e1;cases hc:aO l i1==65 with
  |false=>rw[hc,aW] at h;cases h;exact(H.ex ak ak hi e1 hn).mono ak ak ak
  |true=>
   rw[hc,aJ] at h;rw[beq_iff_eq] at hc;obtain⟨y,i2,m2,e2,h⟩:=jf h;obtain⟨u,i3,m3,e3,h⟩:=jf h;obtain⟨k66,rfl⟩:=WJ e3;obtain⟨z,i4,m4,e4,h⟩:=jf h;cases h;have hlt:=eF (l:=l) (i:=i1) ak;have g2:=FEx ak ak ak e2;have hlt2:=eF (l:=l) (i:=i2) ak;have g4:=FEx ak ak ak e4;have d1:=H.ex ak ak hi e1 (hn.sub (zba _) ak);have d2:=H.ex ak ak ak e2 (hn.sub ak ak);have d4:=H.ex ak ak ak e4 (hn.sub ak (zba _));intro s hs;have hp:=UC (lv:=2) ak ak a b s;have hl:lvl 14 0=2:=rfl;refine .node (Bh hp (by show lvl 14 0≠0;decide) ⟨λ_=>by show(14:Int)≠13;decide,λ_ c=>(by have:=c.1;cases this),λ_=>by show(14:Int)≠4/\(14:Int)≠9/\(14:Int)≠11;decide⟩ (.inl (by show((2:Nat):Int)<=2;omega))) (.cond (hu:=x0.2) (hv:=y.2) (hw:=z.2) ?_ hc ?_ k66 ?_)
   ·have:=d1 s hs;rw[FB hp ak (by decide) (by decide) (λe=>by cases e)];cases s<;>exact this
   ·have:=d2 false (λe=>by cases e);rw[FB hp ak (by decide) (by decide) (λe=>by cases e)];cases s<;>exact this
   ·have:=d4 false (λe=>by cases e);rw[FB hp ak (by decide) (by decide) (λe=>by cases e)];cases s<;>exact this
 ·rw[ex] at h;exact chain ak h
 ·rw[ex] at h;exact chain ak h
 ·
  rw[ex] at h;cases hc:(aO l i==32 && !a) && ahead (l.drop i) 0 with
  |false=>rw[hc,aW] at h;obtain⟨x0,i1,m1,e1,h⟩:=jf h;have g:=FEx ak ak hi e1;have g2:=lK ((sats l n).inp a _ i1 m1 g.2) h;have hj:i1<=j:=g2.1.1;exact H.inp g.2 ak h hn ((H.ex ak ak hi e1 (hn.sub (zba _) hj)).mono ak ak ak)
  |true=>
   rw[hc,aJ] at h;rw[wo,wo,beq_iff_eq] at hc;obtain⟨⟨k32,ha⟩,hah⟩:=hc;obtain rfl:a=false:=by cases a<;>first|rfl|cases ha
   obtain⟨L,i1,m1,e1,h⟩:=jf h;obtain⟨u,i2,m2,e2,h⟩:=jf h;obtain⟨k24,rfl⟩:=WJ e2;obtain⟨s1,i3,m3,e3,h⟩:=jf h;obtain⟨k6,rfl,rfl⟩:=apW e3;have hlt:=eF (l:=l) (i:=i) ak;have hlt2:=eF (l:=l) (i:=i1+1) ak;have g2:=lK ((sats l n).inp false _ (i1+1+1) m3 ak) h;have hj:i1+1+1<=j:=g2.1.1;have g1:=lK ((sats l n).lst 33 (i+1) nt (by decide) ak) e1;have hij:i+1<i1:=g1.1;obtain⟨j',rfl,k33,hL⟩:=H.lst ak e1 (hn.sub ak ak);rw[JF (.inl k32)] at hah;rcases hL with⟨rfl,rfl⟩|⟨hL,h6⟩
   ·rw[show(0:Int)+1=1 from rfl,Zx k33] at hah;cases hah
   have h2:2<=L.length:=by
    match L,hL with
    |[],hL=>cases hL
    |[t],hL=>
     have one:∀{hh:Bool},Dx l (.dv hh t .top) (i+1) j'->False:=fun{hh} hd=>by have hr:=(asO hd rfl).1;rw[show(0:Int)+1=1 from rfl,hr.scan 1 ak,Zx k33] at hah;cases hah
     cases hL with
     |one hd=>exact(one hd).elim
     |cons hd _ _ h4=>cases h4
    |_::_::_,_=>simp
   refine H.inp ak ak h hn λs hs=> ?_
   have hp:=UC (lv:=5) ak ak false b s;exact .node (Bh hp (show lvl 13 0≠0 by decide) ⟨λe=>(by cases e),λ_ c=>(by have:=c.1;cases this),λ_=>by show(13:Int)≠4/\(13:Int)≠9/\(13:Int)≠11;decide⟩ (.inl (show((5:Nat):Int)<=5 by omega))) (.inN k32 hL h2 h6 k33 k24 k6)
 ·
  rw[ex] at h;obtain⟨x0,i1,m1,e1,h⟩:=jf h;have g:=FEx ak ak hi e1;cases hc:(aO l i1==67||aO l i1==46) with
  |false=>rw[hc,aW] at h;cases h;exact(H.ex ak ak hi e1 hn).mono ak ak ak
  |true=>
   rw[hc,aJ] at h;rw[Bool.or_eq_true,beq_iff_eq,beq_iff_eq] at hc;obtain⟨y,i2,m2,e2,h⟩:=jf h;cases h;have hlt:=eF (l:=l) (i:=i1) ak;have g2:=FEx ak ak ak e2;have d1:=H.ex ak ak hi e1 (hn.sub (zba _) ak);have d2:=H.ex ak ak ak e2 (hn.sub ak (zba _));have ho:dP (aO l i1)=6:=by rcases hc with e|e<;>rw[e]<;>rfl
   exact d1.bin (lv:=6) ho ak ak (UF.2.2.1 ho) (λ_=>by omega) ak (by rw[if_neg ak]) d2 ak
 ·
  rw[ex] at h;obtain⟨x0,i1,m1,e1,h⟩:=jf h;have g:=FEx ak ak hi e1;cases hc:oN 7 b (aO l i1) with
  |false=>rw[hc,aW] at h;cases h;exact(H.ex ak ak hi e1 hn).mono ak ak ak
  |true=>
   rw[hc,aJ] at h;obtain⟨y,i2,m2,e2,h⟩:=jf h;cases h;have hlt:=eF (GR ak hc);have ho:=aEC ak hc;have g2:=FEx ak ak ak e2;have d1:=H.ex ak ak hi e1 (hn.sub (zba _) ak);have d2:=H.ex ak ak ak e2 (hn.sub ak (zba _));have hk:¬(aO l i1=44\/aO l i1=45):=by have ho:=ho.1;rintro(e|e)<;>(rw[e] at ho;have h44:dP 44=3:=rfl;have h45:dP 45=4:=rfl;omega)
   exact d1.bin (lv:=7) ho.1 ak ak (UF.2.2.2.1 ho.1) ho.2 (aED ho.1 ak) (by rw[if_neg hk]) d2 ak
 ·rw[ex] at h;exact chain ak h
 ·rw[ex] at h;exact chain ak h
 ·rw[ex] at h;exact chain ak h
 ·
  rw[ex] at h;cases hc:(aO l i==55||(aO l i==56||aO l i==61)) with
  |false=>rw[hc,aW] at h;exact(H.ex ak ak hi h hn).mono ak ak ak
  |true=>
   rw[hc,aJ] at h;rw[Bool.or_eq_true,Bool.or_eq_true,beq_iff_eq,beq_iff_eq,beq_iff_eq] at hc;obtain⟨y,i2,m2,e2,h⟩:=jf h;cases h;have hlt:=eF (l:=l) (i:=i) ak;have d2:=H.ex ak ak ak e2 (hn.sub ak (zba _));intro s hs;have hp:=UC (lv:=11) ak ak a b s;have hl:lvl 11 (aO l i)=11:=rfl;refine .node (Bh hp (by show lvl 11 (aO l i)≠0;rw[hl];decide) ⟨λ_=>by show(11:Int)≠13;decide,λ_ c=>(by have:=c.1;cases this),λe=> ?_⟩ (.inl (by show((11:Nat):Int)<=lvl 11 (aO l i);rw[hl];omega))) (.una (h:=y.2) hc ?_)
   ·have:=hs e;rcases hc with e|e|e<;>(rw[e] at this;cases this)
   ·have:=d2 false (λe=>by cases e);rw[FB hp ak (by rw[hl];decide) (by rw[hl];decide) (λe=>by cases e)];exact this
 ·
  rw[ex] at h;obtain⟨x0,i1,m1,e1,h⟩:=jf h;have g:=FEx ak ak hi e1;cases hc:aO l i1==60 with
  |false=>rw[hc,aW] at h;cases h;exact(H.ex ak ak hi e1 hn).mono ak ak ak
  |true=>
   rw[hc,aJ] at h;rw[beq_iff_eq] at hc;obtain⟨y,i2,m2,e2,h⟩:=jf h;cases h;have hlt:=eF (l:=l) (i:=i1) ak;have g2:=FEx ak ak ak e2;have d1:=H.ex ak ak hi e1 (hn.sub (zba _) ak);have d2:=H.ex ak ak ak e2 (hn.sub ak (zba _));have ho:dP (aO l i1)=12:=by rw[hc];rfl
   have:=d1.bin (lv:=12) ho ak ak (UF.2.2.2.2.2.2 ho) (λ_=>by omega) ak (by rw[if_neg ak]) d2 ak;rw[hc] at this;exact this
 ·
  rw[ex] at h;cases hst:isStep (aO l i) with
  |true=>rw[hst,aJ] at h;exact .nine ak ak hst (H.pre (eF (xC hst)) hst h hn)
  |false=>
   rw[hst,aW] at h;obtain⟨x0,i1,m1,e1,h⟩:=jf h;have g:=FEx ak ak hi e1;cases hc:tgt x0 && isStep (aO l i1) with
   |false=>rw[hc,aW] at h;cases h;exact(H.ex ak ak hi e1 hn).mono ak ak ak
   |true=>rw[hc,aJ] at h;cases h;rw[wo] at hc;have ht:=hc.1;unfold tgt at ht;rw[wo,Bool.not_eq_true'] at ht;have d1:=H.ex ak ak hi e1 (hn.sub (zba _) ak);intro s hs;have hp:=UC (lv:=13) ak ak a b s;have hl:lvl 10 (aO l i1)=13:=rfl;refine .node (Bh hp (by show lvl 10 (aO l i1)≠0;rw[hl];decide) ⟨λ_=>by show(10:Int)≠13;decide,λ_ c=>(by have:=c.1;cases this),λ_=>by show(10:Int)≠4/\(10:Int)≠9/\(10:Int)≠11;decide⟩ (.inl (by show((13:Nat):Int)<=lvl 10 (aO l i1);rw[hl];omega))) (.post hc.2 ht.2 ?_);have:=d1 false (λe=>by cases e);rw[ht.1] at this;rw[FB hp ak (by rw[hl];decide) (by rw[hl];decide) (λe=>by cases e)];exact(agb this).2
 ·
  rw[ex] at h;cases hc:aO l i==68 with
  |false=>rw[hc,aW] at h;exact(H.ex ak ak hi h hn).mono ak ak ak
  |true=>
   rw[hc,aJ] at h;rw[beq_iff_eq] at hc;obtain⟨y,i2,m2,e2,h⟩:=jf h;cases h;have hlt:=eF (l:=l) (i:=i) ak;intro s hs;have hp:=UC (lv:=14) ak ak a b s;have hl:lvl 6 0=14:=rfl;refine .node (Bh hp (by show lvl 6 0≠0;decide) ⟨λ_=>by show(6:Int)≠13;decide,λ_ c=>(by have:=c.1;cases this),λ_=>by show(6:Int)≠4/\(6:Int)≠9/\(6:Int)≠11;decide⟩ (.inl (by show((14:Nat):Int)<=14;omega))) (.field (h:=y.2) hc ?_);rw[FB hp ak (by decide) (by decide) (λe=>by cases e)];cases hst:isStep (aO l (i+1)) with
   |true=>
    rw[hst,aJ] at e2;obtain⟨g1,g2,g3⟩:=H.pre (eF (xC hst)) hst e2 (hn.sub ak (zba _));rw[g1];have hl9:lvl y.1.kind y.1.op=13:=by rw[g2];rfl
    exact .node (Bh rfl (by rw[hl9];decide) ⟨λ_=>by rw[g2];decide,λ_ c=>(by rw[g2] at c;cases c.1),λe=>by cases e⟩ (.inr ⟨rfl,g2⟩)) (g3 _ rfl)
   |false=>rw[hst,aW] at e2;have d2:=H.ex ak ak ak e2 (hn.sub ak (zba _)) false (λe=>by cases e);exact ayj d2 rfl rfl rfl rfl (Int.le_refl _) (λe=>by cases e)
 ·exact aUc H hi h hn
end
def bks:∀n,Bk l n
 |0=>⟨λ_ _ _ h _=>(by rw[ex] at h;cases h),λ_ _ _ h _ _=>(by rw[UK] at h;cases h),λ_ _ h _ _=>(by rw[TQ] at h;cases h),λ_ _ h _=>(by rw[I8] at h;cases h),λ_ h _=>(by rw[Bv] at h;cases h),λ_ h _ _=>(by rw[Po] at h;cases h)⟩
 |n+1=>⟨λh1 h2 hi h hn=>aUd (bks n) h1 h2 hi h hn,λhc hi h0 h hn d=>aT8 (bks n) hc hi h0 h hn d,λhi h0 h hn d=>aG7 (bks n) hi h0 h hn d,λhi hst h hn=>aG8 (bks n) hi hst h hn λe hk=>a1t e hk,λhi h hn=>aG9 (bks n) hi h hn,λhi h hn h6=>aT9 (bks n) hi h hn h6⟩
def aUe{n:Nat}{p:Ps}{x:Xp}{j:Nat}{m:kH}(hp:gY p=true)(h:peP l n p=.ok x j m)(hn:NC l 0 j):Dx l (.dv x.2 x.1 p) 0 j:=by
 obtain⟨lv,hlv,hc,hd⟩:=RG hp;obtain⟨q,d,a,b,s⟩:=p;simp only at hlv hd;subst hlv;unfold peP at h;simp only[Yf] at h;cases c1:s && !(O9 (aO l 0)) with
 |true=>rw[c1] at h;cases h
 |false=>
  rw[c1,aW] at h;have hs:s=true->O9 (aO l 0)=true:=λe=>by rw[e,Bool.true_and,Bool.not_eq_false'] at c1;exact c1
  cases c2:d && isStep (aO l 0) with
  |true=>
   rw[c2,aJ] at h;rw[wo] at c2;obtain⟨g1,g2,g3⟩:=(bks n).pre (eF (xC c2.2)) c2.2 h hn;have hl9:lvl x.1.kind x.1.op=13:=by rw[g2];rfl
   rw[g1];refine .node (Bh hp (by rw[hl9];decide) ⟨λ_=>by rw[g2];decide,λ_ c=>(by rw[g2] at c;cases c.1),λe=> ?_⟩ (.inr ⟨c2.1,g2⟩)) (g3 _ hp);have:=hs e;rw[aqg c2.2] at this;cases this
  |false=>rw[c2,aW] at h;exact ayj ((bks n).ex ak ak (Nat.zero_le _) h hn s hs) hp rfl rfl rfl (Int.le_refl _) (λe=>by cases e)
end Go.Proofs.YthmchnpcplgciaaGreatDoor
namespace Go.Proofs.YthmchnpcplgciaaGreatDoor
open Go Go.Vm
abbrev FAt:=au->au->au->Int->Int->Int->Int->Bool->Bool->Bool->Bool->Option Bool
def AtY(l:List Tk)(L:List Nd)(D2:au)(f:FAt)(t:Tn)(b w:Nat):Prop:=∀a c:Nat,a<=c->c<=l.length->c - a<=w->∀p:Ps,
 Y (gY p=true/\∃h,Dx l (.dv h t p) a c) (f (aA l) (aP false L) D2 ((b+sizes t.kids:Nat):Int) a c p.level p.gU p.nN p.oC p.fD)
def NdY(l:List Tk)(L:List Nd)(D2:au)(g:FAt)(t:Tn)(b w:Nat):Prop:=∀a c:Nat,a<c->c<=l.length->c - a<=w->∀p:Ps,
 Y (gY p=true/\Dx l (.nv t p) a c) (g (aA l) (aP false L) D2 ((b+sizes t.kids:Nat):Int) a c p.level p.gU p.nN p.oC p.fD)
variable {l:List Tk} {L:List Nd} {D2:au}
def ada{u:Tn}{b:Nat}(h:Lies L b u):idx (aP false L) ((b+sizes u.kids:Nat):Int)=some (Xe false ⟨u.kind,u.op,u.text,u.other,ends u.kids b⟩):=by rw[bK,nH,Lies.root' h];rfl
def auY{k op:Int}{p:Ps}(h:fits k op p=true):fits k op ⟨p.level,p.gU,false,false,false⟩=true:=by have f1:=acX h;have f2:=ac1 h;exact Bh f2.1 f2.2 ⟨λe=>(by cases e),λe=>(by cases e),λe=>(by cases e)⟩ f1.2
def a1u(hl:l.length<=400){f g:FAt}{t:Tn}{b w:Nat}(hf:∀w',w'+2<=w->AtY l L D2 f t b w')(hg:NdY l L D2 g t b w)(hD:D2[b+sizes t.kids]? =some [D.int .i64 (zT t)])(hL:Lies L b t):
  AtY l L D2 (λd d1 d2 i a c p p1 p2 p3 p4=>M.Dy f g d d1 d2 i a c p p1 p2 p3 p4 some) t b w:=by
 intro a c h1 h2 hw p;have hs:(seg l a c).length<=3000:=by rw[Pg h2];omega
 have hd:idx D2 ((b+sizes t.kids:Nat):Int)=some [D.int .i64 (zT t)]:=by rw[bK,hD]
 have hrow:=ada hL;have wa:i64.wrap ((a:Int)+1)=((a+1:Nat):Int):=by rw[aK ak ak];omega
 have n0:(((c - a:Nat):Int)==0)=true->¬(gY p=true/\∃h,Dx l (.dv h t p) a c):=λh=>by rintro⟨_,_,hd⟩;have:=zi hd;rw[beq_iff_eq] at h;omega
 have n1:(((arK (seg l a c):Nat):Int) !=(zT t:Int))=true->¬(gY p=true/\∃h,Dx l (.dv h t p) a c):=λh=>by rintro⟨_,_,hd⟩;have e1:=asZ _ a c rfl h1 h2;have e2:Oc l c=Oc l a+zT t:=aGW hd;rw[bne_iff_ne] at h;omega
 have n2:(!(afi 0 (seg l a c)))=true->¬(gY p=true/\∃h,Dx l (.dv h t p) a c):=λh=>by rintro⟨_,_,hd⟩;have e1:=ap5 (FC hd) _ a rfl (zba _) h1 h2;rw[Int.sub_self] at e1;rw[e1] at h;cases h
 have n3:p.nN=true->afj 24 0 (seg l a c)=true->¬(gY p=true/\∃h,Dx l (.dv h t p) a c):=λhp h=>by rintro⟨hq,_,hd⟩;have e1:=ai0 ((aEz hd hq).1 hp) _ a rfl (zba _) h1 h2;rw[Int.sub_self,h] at e1;cases e1
 have n4:p.oC=true->afj 62 0 (seg l a c)=true->¬(gY p=true/\∃h,Dx l (.dv h t p) a c):=λhp h=>by rintro⟨hq,_,hd⟩;have e1:=ai0 ((aEz hd hq).2 hp) _ a rfl (zba _) h1 h2;rw[Int.sub_self,h] at e1;cases e1
 have n5:p.fD=true->(!(O9 (aO l a)))=true->¬(gY p=true/\∃h,Dx l (.dv h t p) a c):=λhp h=>by rintro⟨hq,_,hd⟩;rw[(asO hd hq).1.sign hp] at h;cases h
 have nd:∀{P:Prop},a<c->(P->gY p=true/\∃h,Dx l (.dv h t p) a c)->(P->∀(k1:aO l a=32) (c':Nat) (h:Bool),c=c'+1->Dx l (.dv h t .top) (a+1) c'->aO l c'=33->False)->
   Y P (bif fits t.kind t.op ⟨p.level,p.gU,false,false,false⟩ then(g (aA l) (aP false L) D2 ((b+sizes t.kids:Nat):Int) a c p.level p.gU p.nN p.oC p.fD).bind λr=>some r else some false):=fun{P} hac hP hno=>by
  have cs:P->fits t.kind t.op p=true/\gY p=true/\Dx l (.nv t p) a c:=λq=>by
   obtain⟨hq,h,hd⟩:=hP q;generalize ec:c=c0 at hd;cases hd with
   |par k1 hd k2=>exact(hno q k1 _ _ ec hd k2).elim
   |node hf hn=>subst ec;exact⟨hf,hq,hn⟩
  refine Y.bif (λ_=> ?_) (λhf=>Y.no λq=> ?_)
  ·obtain⟨r,e,k⟩:=hg a c hac h2 hw p;rw[e];exact⟨r,rfl,λq=>k ⟨(cs q).2.1,(cs q).2.2⟩⟩
  ·rw[auY (cs q).1] at hf;cases hf
 have tail:a<c->Y (gY p=true/\∃h,Dx l (.dv h t p) a c) (bif ac5 (seg l a c) then((f (aA l) (aP false L) D2 ((b+sizes t.kids:Nat):Int) ((a+1:Nat):Int) (i64.wrap ((c:Int) - 1)) 1 false false false false).bind λr=>bif r then some true else
   (bif fits t.kind t.op ⟨p.level,p.gU,false,false,false⟩ then(g (aA l) (aP false L) D2 ((b+sizes t.kids:Nat):Int) a c p.level p.gU p.nN p.oC p.fD).bind λr=>some r else some false)) else
   (bif fits t.kind t.op ⟨p.level,p.gU,false,false,false⟩ then(g (aA l) (aP false L) D2 ((b+sizes t.kids:Nat):Int) a c p.level p.gU p.nN p.oC p.fD).bind λr=>some r else some false)):=by
  intro hac;refine Y.bif (λhh=> ?_) (λhh=> ?_)
  ·have h2':2<=c - a:=by unfold ac5 at hh;rw[wo,decide_eq_true_eq,Pg h2] at hh;exact hh.1
   have wc:i64.wrap ((c:Int) - 1)=((c - 1:Nat):Int):=by rw[aK ak ak];omega
   rw[wc];obtain⟨r,e,k⟩:=hf (c - a - 2) ak (a+1) (c - 1) ak ak ak .top;rw[show f (aA l) (aP false L) D2 ((b+sizes t.kids:Nat):Int) ((a+1:Nat):Int) ((c - 1:Nat):Int) 1 false false false false=some r from e,ah];cases r with
   |true=>exact Y.yes
   |false=>
    refine nd ak id λ_ k1 c' h ec hd k2=> ?_
    have:=k ⟨rfl,h,by rw[show c - 1=c' by omega];exact hd⟩;cases this
  ·refine nd hac id λ_ k1 c' h ec hd k2=> ?_
   have:=ap7 k1 (FC hd) k2 ak;rw[<-ec,hh] at this;cases this
 by_cases hac:a<c
 ·have hsg:idx (aA (seg l a c)) 0=some (UG ((seg l a c)[0]'(by rw[Pg h2];omega)))/\(((seg l a c)[0]'(by rw[Pg h2];omega)).kind=aO l a):=by
   obtain⟨u,e,hk⟩:=ZB (l:=l) hac h2;have hi:=bK (aA (seg l a c)) 0;rw[x9] at hi;refine⟨?_, ?_⟩
   ·rw[hi,dZ,List.getElem?_eq_getElem];rfl
   ·simp only[e,List.getElem_cons_zero,hk]
  obtain⟨q,d,ni,ng,ns⟩:=p;simp only at n3 n4 n5 tail;have hF:∀(k op:Int) (x y:aI) (r:au),M.kM k op x y r q d false false false=some (fits k op ⟨q,d,false,false,false⟩):=λk op x y r=>axL k op x y r ⟨q,d,false,false,false⟩
  cases ns<;>cases ni<;>cases ng<;>
   simp only[I7,M.Dy,Ve h1 h2,ah,aX,Pg h2,ap4 hs,aDd hs,asY hs (show SH 24=0 from rfl),asY hs (show SH 62=0 from rfl),am1 hs,hd,cI0,ayz,aaL,hrow,cN0,cN1,cN2,cN3,cN4,hF,wa,hsg.1,Qr,hsg.2,aJ,aW]<;>
   repeat' first
    |exact tail hac
    |refine Y.bif (λh=>Y.no (n0 h)) (λ_=> ?_)
    |refine Y.bif (λh=>Y.no (n1 h)) (λ_=> ?_)
    |refine Y.bif (λh=>Y.no (n2 h)) (λ_=> ?_)
    |refine Y.bif (λh=>Y.no (n5 rfl h)) (λ_=> ?_)
    |refine Y.bif (λh=>Y.no (n3 rfl h)) (λ_=> ?_)
    |refine Y.bif (λh=>Y.no (n4 rfl h)) (λ_=> ?_)
 ·simp only[I7,M.Dy,Ve h1 h2,ah,aX,Pg h2];rw[show(((c - a:Nat):Int)==0)=true by rw[beq_iff_eq];omega,aJ];exact Y.no (n0 (by rw[beq_iff_eq];omega))
end Go.Proofs.YthmchnpcplgciaaGreatDoor
namespace Go.Proofs.YthmchnpcplgciaaGreatDoor
open Go Go.Vm
abbrev aHk:=au->au->au->Int->Int->Int->Option Bool
abbrev FLs:=au->au->au->au->Int->Int->Option Bool
def aHl(l:List Tk)(L:List Nd)(D2:au)(f:aHk)(t:Tn)(b w:Nat):Prop:=∀a c:Nat,a<=c->c<=l.length->c - a<=w->
 Y (Ee t.kind=true/\∃p,gY p=true/\Dx l (.nv t p) a c) (f (aA l) (aP false L) D2 ((b+sizes t.kids:Nat):Int) a c)
inductive Rts(L:List Nd):List Int->List Tn->Prop where
 |nil:Rts L [] []
 |cons {b:Nat} {t:Tn} {rs:List Int} {ts:List Tn}:Lies L b t->Rts L rs ts->Rts L (((b+sizes t.kids:Nat):Int)::rs) (t::ts)
def LsY(l:List Tk)(L:List Nd)(D2:au)(f:FLs)(ks:List Tn)(w:Nat):Prop:=∀rs,Rts L rs ks->∀a c:Nat,a<=c->c<=l.length->c - a<=w->
 Y (Dx l (.ls ks) a c\/(ks=[]/\a=c)) (f (aA l) (aP false L) D2 (encI rs) a c)
variable {l:List Tk} {L:List Nd} {D2:au}
def Ep{m:Nat}(h:m<l.length):∃t,idx (aA l) (m:Int)=some (UG t)/\aO l m=t.kind/\xB l m=t.text:=
 ⟨l[m],by rw[bK,dZ,List.getElem?_eq_getElem h];rfl,by unfold aO;rw[List.getElem?_eq_getElem h],by unfold xB;rw[List.getElem?_eq_getElem h]⟩
def as1(hl:l.length<=400)(d1 d2:au):∀(n i:Nat),l.length - i=n->i<=l.length->∃j:Nat,M.rX (aA l) d1 d2 (i:Int)=some (j:Int)/\i<=j/\j<=l.length/\pst l i j/\aO l j≠1:=by
 intro n;induction n with
 |zero=>
  intro i hn hi;refine⟨i, ?_,zba _,hi,⟨zba _,λk a b=>by omega⟩, ?_⟩
  ·simp only[M.rX,M.Fe,M.BJ];rw[aQ (t:=(i:Int)) ?_]
   ·rfl
   ·simp only[M.IV,M.yE,aX];rw[rF ak,aW]
  ·intro h;have:=eF (l:=l) (i:=i) ak;omega
 |succ n ih=>
  intro i hn hi;obtain⟨t,e1,e2,e3⟩:=Ep (l:=l) (m:=i) ak;cases hk:aO l i==1 with
  |true=>
   obtain⟨j,h1,h2,h3,h4,h5⟩:=ih (i+1) ak ak;rw[beq_iff_eq] at hk;refine⟨j, ?_,ak,h3,⟨ak,λk a b=> ?_⟩,h5⟩
   ·simp only[M.rX,M.Fe,M.BJ] at h1|-;rw[bI (s':=((i+1:Nat):Int)) ?_]
    ·exact h1
    ·simp only[M.IV,M.yE,aX,e1,ah,Qr,<-e2,hk];rw[zdt ak,aJ,aK ak ak];rfl
   ·by_cases e:k=i
    ·rw[e];exact hk
    ·exact h4.2 k ak b
  |false=>
   refine⟨i, ?_,zba _,hi,⟨zba _,λk a b=>by omega⟩,by rwa [nY] at hk⟩;simp only[M.rX,M.Fe,M.BJ];rw[aQ (t:=(i:Int)) ?_]
   ·rfl
   ·simp only[M.IV,M.yE,aX,e1,ah,Qr,<-e2,hk];rw[zdt ak,aJ,aW]
def as2{i j j':Nat}(h:pst l i j)(h1:aO l j≠1)(h':pst l i j')(h2:aO l j'≠1):j=j':=by
 have a:=h.1;have b:=h'.1;rcases Nat.lt_trichotomy j j' with h3|h3|h3
 ·exact absurd (h'.2 j a h3) h1
 ·exact h3
 ·exact absurd (h.2 j' b h3) h2
def aEE{g:Tg}{i j:Nat}(h:Dx l g i j):aO l i≠1:=by
 induction h with
 |par h _ _ _=>omega
 |node _ _ ih=>exact ih
 |one _ ih=>exact ih
 |cons _ _ _ _ ih _=>exact ih
 |name h=>omega
 |leaf h h'=>omega
 |index h _ _ _ _ _=>omega
 |call h h' _ _ _ _ _=>omega
 |Lm h h' _ _=>omega
 |len h _ _=>omega
 |field h _ _=>omega
 |pre h _ _ _=>have:=Vd h;omega
 |post _ _ _ ih=>exact ih
 |una h _ _=>omega
 |in1 _ _ _ ih=>exact ih
 |inN h _ _ _ _ _ _ _=>omega
 |cond _ _ _ _ _ ih _ _=>exact ih
 |asg _ _ _ _ ih _=>exact ih
 |bin _ _ _ _ _ ih _=>exact ih
 |cat _ _ ih _=>exact ih
def aUf(hl:l.length<=400){f:FAt}{t:Tn}{b w:Nat}(hf:AtY l L D2 f t b w):aHl l L D2 (λd d1 d2 i a c=>M.D9 f d d1 d2 i a c some) t b w:=by
 intro a c h1 h2 hw;have hs:(seg l a c).length<=3000:=by rw[Pg h2];omega
 simp only[M.D9,Ve h1 h2,ah,am1 hs];refine Y.bif (λ_=> ?_) (λh=>Y.no ?_)
 ·refine Y.bif (λ_=> ?_) (λh=>Y.no ?_)
  ·obtain⟨r,e,k⟩:=hf a c h1 h2 hw ⟨14,false,false,false,false⟩;rw[show f (aA l) (aP false L) D2 ((b+sizes t.kids:Nat):Int) a c 14 false false false false=some r from e];refine⟨r,rfl, ?_⟩;rintro⟨hl,p,hp,hd⟩;exact k ⟨rfl,false,aGY hl hp hd⟩
  ·rintro⟨hl,p,hp,hd⟩;have hr:=asO hd hp (ale hl);have:=hr.lv rfl hl;rw[aDe ak h2] at h;cases h
 ·rintro⟨hl,p,hp,hd⟩;have:=zi hd;rw[decide_eq_false_iff_not] at h;omega
def ayM(hl:l.length<=400){f:FAt}{g:FLs}{ks:List Tn}{w:Nat}(hf:∀t,t∈ks->∀b,Lies L b t->AtY l L D2 f t b w)(hg:∀t ts,ks=t::ts->LsY l L D2 g ts w):
  LsY l L D2 (λd d1 d2 kd a c=>M.uV f g d d1 d2 kd a c some) ks w:=by
 intro rs hr a c h1 h2 hw;cases hr with
 |nil=>
  simp only[M.uV,dV,zln];refine⟨(a:Int)==(c:Int),rfl, ?_⟩;rintro(h|⟨_,h⟩)
  ·cases h
  ·rw[h,beq_iff_eq]
 |@cons b t rs ts hL hr=>
  have e0:idx (encI (((b+sizes t.kids:Nat):Int)::rs)) 0=some [D.int .i64 ((b+sizes t.kids:Nat):Int)]:=rfl;cases hr with
  |nil=>
   simp only[M.uV,dV,ZE,zln,e0,ah,cI0,aaL];obtain⟨r,e,k⟩:=hf t (by simp) b hL a c h1 h2 hw .top;have e':f (aA l) (aP false L) D2 ((b+sizes t.kids:Nat):Int) a c 1 false false false false=some r:=e;rw[e'];refine⟨r,rfl, ?_⟩;rintro(h|⟨h,_⟩)
   ·cases h with
    |one h=>exact k ⟨rfl,_,h⟩
    |cons _ _ _ h=>cases h
   ·cases h
  |@cons b' t' rs' ts' hL' hr'=>
   have hr2:Rts L (((b'+sizes t'.kids:Nat):Int)::rs') (t'::ts'):=.cons hL' hr';have n0:(((((b+sizes t.kids:Nat):Int)::((b'+sizes t'.kids:Nat):Int)::rs').length:Nat):Int)=(rs'.length:Int)+2:=by simp only[ZE];omega
   simp only[M.uV,dV,n0];rw[nY.2 (show(rs'.length:Int)+2≠0 by omega),nY.2 (show(rs'.length:Int)+2≠1 by omega),aW,aW];have a1v:cut (encI (((b+sizes t.kids:Nat):Int)::((b'+sizes t'.kids:Nat):Int)::rs')) 1 ((rs'.length:Int)+2)=some (encI (((b'+sizes t'.kids:Nat):Int)::rs')):=by unfold cut;rw[dV,n0,zdt ak,zdt ak,zdt (Int.le_refl _)];show some _=some _;congr 1;rw[show(1:Int).toNat=1 from rfl,show((rs'.length:Int)+2).toNat - 1=rs'.length+1 by omega];show List.take _ (encI (((b'+sizes t'.kids:Nat):Int)::rs'))=_;rw[List.take_of_length_le (by rw[dV,ZE];omega)]
   refine Y.loop (c:=c) h1 (λm=>aO l m=36/\(∃h,Dx l (.dv h t .top) a m)/\∃j,pst l (m+1) j/\Dx l (.ls (t'::ts')) j c) ?_ (λm hm1 hm2=> ?_) ?_
   ·rintro(h|⟨h,_⟩)
    ·cases h with
     |cons hd hk hp hls=>have i1:=zi hd;have i2:=zi hls;have i3:=hp.1;exact⟨_,ak,ak,hk,⟨_,hd⟩,_,hp,hls⟩
    ·cases h
   ·obtain⟨u,u1,u2,u3⟩:=Ep (l:=l) (m:=m) ak;obtain⟨r,e,k⟩:=hf t (by simp) b hL a m hm1 ak ak .top;have e':f (aA l) (aP false L) D2 ((b+sizes t.kids:Nat):Int) a m 1 false false false false=some r:=e;obtain⟨j,p1,p2,p3,p4,p5⟩:=as1 hl (aP false L) D2 _ (m+1) rfl ak;have wm:i64.wrap ((m:Int)+1)=((m+1:Nat):Int):=by rw[aK ak ak];omega
    have aDr:(bif decide ((j:Int)<(c:Int)) then(j:Int) else(c:Int))=((min j c:Nat):Int):=by
     by_cases h:j<c
     ·rw[zdt ak,aJ];omega
     ·rw[rF ak,aW];omega
    obtain⟨r2,g2,k2⟩:=hg t (t'::ts') rfl _ hr2 (min j c) c ak h2 ak;simp only[M.OU,M.Dt,u1,ah,Qr,<-u2,e0,cI0,aaL,e',wm,dV,n0,a1v,p1,aDr,g2];rw[zdt (show(m:Int)<(c:Int) by omega),aJ];cases h36:aO l m==36 with
    |false=>rw[nY] at h36;exact .inr ⟨rfl,λq=>h36 q.1⟩
    |true=>
     cases r with
     |false=>exact .inr ⟨rfl,λq=>by have:=k ⟨rfl,q.2.1⟩;cases this⟩
     |true=>
      cases r2 with
      |true=>exact .inl rfl
      |false=>refine .inr ⟨rfl,λq=> ?_⟩;obtain⟨_,_,j',q1,q2⟩:=q;have ej:=as2 p4 p5 q1 (aEE q2);have i2:=zi q2;have:=k2 (.inl (by rw[show min j c=j' by omega];exact q2));cases this
   ·simp only[M.OU,M.Dt];rw[rF ak,aW]
end Go.Proofs.YthmchnpcplgciaaGreatDoor
namespace Go.Proofs.YthmchnpcplgciaaGreatDoor
open Go Go.Vm
variable {l:List Tk} {L:List Nd} {D2:au}
def Nm(l:List Tk)(kd op:Int)(x:aI)(ks:List Tn)(a c:Nat):Prop:=
 aO l a=kd/\xB l a=x/\aO l (a+1)=op/\aO l (c - 1)=op+1/\a+3<=c/\(Dx l (.ls ks) (a+2) (c - 1)\/(ks=[]/\a+2=c - 1))
def a1w(hl:l.length<=400){g:FLs}{kd op:Int}{x:aI}{ks:List Tn}{rs:List Int}{w:Nat}(h9: -1000<=op/\op<=1000)(hg:LsY l L D2 g ks w)(hr:Rts L rs ks){a c:Nat}(hac:a<c)(h2:c<=l.length)(hw:c - a<=w):
  Y (Nm l kd op x ks a c) (bif decide (i64.wrap ((c:Int) - (a:Int))>=3) then
  ((idx (aA l) (a:Int)).bind λaDs=>
   ((dG IntKind.i64 aDs 0).bind λaUg=>
   (bif aUg==kd then
    ((idx (aA l) (a:Int)).bind λaDt=>
    ((cStr aDt 1).bind λaUh=>
     (bif aUh==x then
     ((idx (aA l) (i64.wrap ((a:Int)+1))).bind λaDu=>
      ((dG IntKind.i64 aDu 0).bind λaUi=>
      (bif aUi==op then
       ((idx (aA l) (i64.wrap ((c:Int) - 1))).bind λaDv=>
       ((dG IntKind.i64 aDv 0).bind λaUj=>
        (bif aUj==i64.wrap (op+1) then
        ((g (aA l) (aP false L) D2 (encI rs) (i64.wrap ((a:Int)+2)) (i64.wrap ((c:Int) - 1))).bind λaUk=>some aUk) else some false))) else some false))) else some false))) else some false))) else some false):=by
 have w1:i64.wrap ((c:Int) - (a:Int))=((c - a:Nat):Int):=by rw[aK ak ak];omega
 have w2:i64.wrap ((a:Int)+1)=((a+1:Nat):Int):=by rw[aK ak ak];omega
 have w3:i64.wrap ((c:Int) - 1)=((c - 1:Nat):Int):=by rw[aK ak ak];omega
 have w4:i64.wrap ((a:Int)+2)=((a+2:Nat):Int):=by rw[aK ak ak];omega
 have w5:i64.wrap (op+1)=op+1:=aK ak ak;rw[w1,w2,w3,w4,w5];refine Y.bif (λh3=> ?_) (λh=>Y.no λq=> ?_)
 ·rw[decide_eq_true_eq] at h3;obtain⟨t,e1,e2,e3⟩:=Ep (l:=l) (m:=a) ak;obtain⟨u,f1,f2,f3⟩:=Ep (l:=l) (m:=a+1) ak;obtain⟨v,g1,g2,g3⟩:=Ep (l:=l) (m:=c - 1) ak;simp only[e1,f1,g1,ah,Qr,cT1,<-e2,<-e3,<-f2,<-g2];refine Y.bif (λ_=> ?_) (λh=>Y.no λq=>by rw[q.1,nY] at h;exact h rfl);refine Y.bif (λ_=> ?_) (λh=>Y.no λq=>by rw[q.2.1,nY] at h;exact h rfl);refine Y.bif (λ_=> ?_) (λh=>Y.no λq=>by rw[q.2.2.1,nY] at h;exact h rfl);refine Y.bif (λ_=> ?_) (λh=>Y.no λq=>by rw[q.2.2.2.1,nY] at h;exact h rfl);obtain⟨r,e,k⟩:=hg rs hr (a+2) (c - 1) ak ak ak;rw[e];exact⟨r,rfl,λq=>k q.2.2.2.2.2⟩
 ·have:=q.2.2.2.2.1;rw[decide_eq_false_iff_not] at h;omega
def adb{k kd op:Int}{x:aI}{ks:List Tn}{p:Ps}{a c:Nat}(hk:(k=5/\kd=6/\op=34)\/(k=7/\kd=7/\op=32)\/(k=8/\kd=8/\op=32))(h:Dx l (.nv (.mk k 0 x [] ks) p) a c):
  Nm l kd op x ks a c\/(k=8/\c=a+1/\aO l a=8/\xB l a=x/\x=[108,101,110,103,116,104]/\ks=[]/\aO l (a+1)≠32):=by
 generalize ht:Tn.mk k 0 x [] ks=t at h;cases h with
 |index h1 h2 h3 h4 h5=>simp only[Tn.mk.injEq] at ht;obtain⟨e1,_,rfl,_,rfl⟩:=ht;obtain⟨rfl,rfl⟩:kd=6/\op=34:=ak;have:=zi h3;exact .inl ⟨h1,rfl,h2,by rw[Nat.add_sub_cancel];exact h5,ak,.inl (by rw[Nat.add_sub_cancel];exact h3)⟩
 |call h7 h1 h2 h3 h4 h5=>simp only[Tn.mk.injEq] at ht;obtain⟨rfl,_,rfl,_,rfl⟩:=ht;obtain⟨rfl,rfl⟩:kd=k/\op=32:=ak;have:=zi h3;exact .inl ⟨h1,rfl,h2,by rw[Nat.add_sub_cancel];exact h5,ak,.inl (by rw[Nat.add_sub_cancel];exact h3)⟩
 |Lm h7 h1 h2 h3=>simp only[Tn.mk.injEq] at ht;obtain⟨rfl,_,rfl,_,rfl⟩:=ht;obtain⟨rfl,rfl⟩:kd=k/\op=32:=ak;exact .inl ⟨h1,rfl,h2,h3,zba _,.inr ⟨rfl,rfl⟩⟩
 |len h1 h2 h3=>simp only[Tn.mk.injEq] at ht;obtain⟨rfl,_,rfl,_,rfl⟩:=ht;exact .inr ⟨rfl,rfl,h1,rfl,h2,rfl,h3⟩
 |leaf h3 h1=>simp only[Tn.mk.injEq] at ht;omega
 |_=>simp only[Tn.mk.injEq] at ht;omega
def am5(hl:l.length<=400){g:FLs}{k kd op:Int}{x:aI}{ks:List Tn}{rs:List Int}{w:Nat}(hk:(k=5/\kd=6/\op=34)\/(k=7/\kd=7/\op=32)\/(k=8/\kd=8/\op=32))(hg:LsY l L D2 g ks w)(hr:Rts L rs ks)(hrl:rs.length=ks.length)(p:Ps){a c:Nat}(hac:a<c)(h2:c<=l.length)(hw:c - a<=w):
  Y (Dx l (.nv (.mk k 0 x [] ks) p) a c) (M.vP g (aA l) (aP false L) D2 k 0 x [] (encI rs) kd op a c some):=by
 have hn:=a1w (x:=x) (kd:=kd) hl (show -1000<=op/\op<=1000 by omega) hg hr hac h2 hw
 by_cases h8:kd=8
 ·have h8':kd==8:=by rw[beq_iff_eq];exact h8
  simp only[M.vP,M.Fg,h8',aJ,dV,aX];have w1:i64.wrap ((c:Int) - (a:Int))=((c - a:Nat):Int):=by rw[aK ak ak];omega
  refine Y.bif (λh1=> ?_) (λh1=> ?_)
  ·rw[w1,beq_iff_eq] at h1;obtain⟨t,e1,e2,e3⟩:=Ep (l:=l) (m:=a) ak;have no:∀{Q:Prop},(aO l (a+1)=32->Q->False)->(x≠[108,101,110,103,116,104]->Q->False)->True:=λ_ _=>trivial
   have aUl:Y (Dx l (.nv (.mk k 0 x [] ks) p) a c) (bif x==[108,101,110,103,116,104] then
   (bif(rs.length:Int)==0 then
    ((idx (aA l) a).bind λamr=>
    ((dG IntKind.i64 amr 0).bind λawZ=>(bif awZ==kd then((idx (aA l) a).bind λams=>((cStr ams 1).bind λaw0=>some (aw0==x))) else some false))) else some false) else some false):=by
    simp only[e1,ah,Qr,cT1,<-e2,<-e3];have inv:Dx l (.nv (.mk k 0 x [] ks) p) a c->aO l a=8/\xB l a=x/\x=[108,101,110,103,116,104]/\ks=[]:=λhd=>by
     rcases adb hk hd with h|h
     ·have:=h.2.2.2.2.1;omega
     ·exact⟨h.2.2.1,h.2.2.2.1,h.2.2.2.2.1,h.2.2.2.2.2.1⟩
    refine Y.bif (λ_=> ?_) (λh=>Y.no λq=>by rw[nY] at h;exact h (inv q).2.2.1);refine Y.bif (λ_=> ?_) (λh=>Y.no λq=>by rw[nY,hrl,(inv q).2.2.2] at h;exact h rfl);refine Y.bif (λ_=> ?_) (λh=>Y.no λq=>by rw[nY,(inv q).1,h8] at h;exact h rfl);exact⟨_,rfl,λq=>by rw[(inv q).2.1,beq_iff_eq]⟩
   refine Y.bif (λhb=>aUl) (λhb=> ?_);rw[nY] at hb;obtain⟨u,f1,f2,f3⟩:=Ep (l:=l) (m:=c) ak;rw[f1,ah,Qr,ah,<-f2];refine Y.bif (λ_=>aUl) (λh=>Y.no λq=> ?_);rw[bne_eq_false_iff_eq] at h;rcases adb hk q with h'|h'
   ·have:=h'.2.2.2.2.1;omega
   ·obtain⟨_,ec,_,_,_,_,h32⟩:=h';rw[<-ec] at h32;exact h32 h
  ·refine hn.mono λq=> ?_
   rcases adb hk q with h|h
   ·exact h
   ·rw[w1,nY] at h1;omega
 ·have h8':(kd==8)=false:=by rw[nY];exact h8
  simp only[M.vP,M.Fg,h8',aW];refine hn.mono λq=> ?_
  rcases adb hk q with h|h
  ·exact h
  ·omega
end Go.Proofs.YthmchnpcplgciaaGreatDoor
namespace Go.Proofs.YthmchnpcplgciaaGreatDoor
open Go Go.Vm
variable {l:List Tk} {L:List Nd} {D2:au}
def KdY(l:List Tk)(L:List Nd)(D2:au)(f:FAt)(ks:List Tn)(b w:Nat):Prop:=∀j u,ks[j]? =some u->AtY l L D2 f u (b+sizes (ks.take j)) w
def Rf{ks:List Tn}{b j:Nat}{u:Tn}(hj:ks[j]? =some u):idx (encI (ends ks b)) (j:Int)=some [D.int .i64 ((b+sizes (ks.take j)+sizes u.kids:Nat):Int)]:=ac7 hj
def aqh{k op:Int}{x y:aI}{ks:List Tn}{b j:Nat}(p:Ps)(he:1<=k/\k<=15)(hc:Cnt k op y ks.length)(hj:j<ks.length)(hn:ks.length<=1000):
  M.dw k op x y (encI (ends ks b)) (j:Int) p.level p.gU p.nN p.oC p.fD=some ((cO k op ks.length j p).level,(cO k op ks.length j p).gU,(cO k op ks.length j p).nN,(cO k op ks.length j p).oC,(cO k op ks.length j p).fD):=by
 have e:(encI (ends ks b)).length=ks.length:=by rw[dV,jM]
 have:=ZC (x:=x) (r:=encI (ends ks b)) (j:=j) (p:=p) he (by rw[e];exact hc) ak ak;rw[e] at this;exact this
def a1x(hl:l.length<=400){f:FAt}{g:FLs}{x:aI}{ks:List Tn}{b w:Nat}(h1k:1<=ks.length/\ks.length<=6)(hK:KdY l L D2 f ks b w)(hg:LsY l L D2 g ks w)(hr:Rts L ((ends ks b).map λn=>n) ks)(p:Ps){a c:Nat}(hac:a<c)(h2:c<=l.length)(hw:c - a<=w):
  Y (gY p=true/\Dx l (.nv (.mk 13 0 x [] ks) p) a c) (M.GI f g (aA l) (aP false L) D2 13 0 x [] (encI (ends ks b)) a c p.level p.gU p.nN p.oC p.fD some):=by
 have hr:Rts L (ends ks b) ks:=by rw[List.map_id'] at hr;exact hr
 have inv:Dx l (.nv (.mk 13 0 x [] ks) p) a c->a+3<=c/\aO l (c - 1)=6/\xB l (c - 1)=x/\aO l (c - 2)=24/\((∃u h,ks=[u]/\Dx l (.dv h u (cO 13 0 1 0 p)) a (c - 2))\/(2<=ks.length/\aO l a=32/\aO l (c - 3)=33/\a+4<=c/\Dx l (.ls ks) (a+1) (c - 3))):=by
  intro h;generalize ht:Tn.mk 13 0 x [] ks=t at h;cases h with
  |in1 h1 Zv h6=>simp only[Tn.mk.injEq] at ht;obtain⟨_,_,rfl,_,rfl⟩:=ht;have:=zi h1;exact⟨ak,h6,rfl,Zv,.inl ⟨_,_,rfl,h1⟩⟩
  |inN h32 h1 h2 h6 h33 Zv hn=>simp only[Tn.mk.injEq] at ht;obtain⟨_,_,rfl,_,rfl⟩:=ht;have:=zi h1;exact⟨ak,hn,rfl,Zv,.inr ⟨h2,h32,h33,ak,h1⟩⟩
  |leaf h3 h1=>simp only[Tn.mk.injEq] at ht;omega
  |call h7 _ _ _ _ _=>simp only[Tn.mk.injEq] at ht;omega
  |Lm h7 _ _ _=>simp only[Tn.mk.injEq] at ht;omega
  |_=>exact absurd ht (by simp)
 have w1:i64.wrap ((c:Int) - (a:Int))=((c - a:Nat):Int):=by rw[aK ak ak];omega
 simp only[M.GI,w1,dV,jM];refine Y.bif (λh=>Y.no λq=> ?_) (λh3=> ?_)
 ·have:=(inv q.2).1;rw[decide_eq_true_eq] at h;omega
 rw[decide_eq_false_iff_not] at h3;have w2:i64.wrap ((c:Int) - 1)=((c - 1:Nat):Int):=by rw[aK ak ak];omega
 have w3:i64.wrap ((c:Int) - 2)=((c - 2:Nat):Int):=by rw[aK ak ak];omega
 have w4:i64.wrap ((a:Int)+1)=((a+1:Nat):Int):=by rw[aK ak ak];omega
 have w5:i64.wrap ((c:Int) - 3)=((c - 3:Nat):Int):=by rw[aK ak ak];omega
 obtain⟨t,e1,e2,e3⟩:=Ep (l:=l) (m:=c - 1) ak;obtain⟨u,f1,f2,f3⟩:=Ep (l:=l) (m:=c - 2) ak;simp only[w2,w3,w4,w5,e1,f1,ah,Qr,cT1,<-e2,<-e3,<-f2];refine Y.bif (λh=>Y.no λq=>by rw[(inv q.2).2.1] at h;cases h) (λ_=> ?_);refine Y.bif (λh=>Y.no λq=>by rw[(inv q.2).2.2.1,Bool.not_eq_true',nY] at h;exact h rfl) (λ_=> ?_);refine Y.bif (λh=>Y.no λq=>by rw[(inv q.2).2.2.2.1] at h;cases h) (λ_=> ?_);refine Y.bif (λh1=> ?_) (λh1=> ?_)
 ·obtain⟨v,rfl⟩:∃v,ks=[v]:=by
   rw[beq_iff_eq] at h1
   match ks,h1 with
   |[v],_=>exact⟨v,rfl⟩
   |[],h1=>simp at h1
   |_::_::_,h1=>simp at h1;omega
  have e0:=Rf (ks:=[v]) (b:=b) (j:=0) rfl;have ek:=aqh (k:=13) (op:=0) (x:=x) (y:=[]) (ks:=[v]) (b:=b) (j:=0) p ak (by constructor<;>intros<;>first|omega|(simp;done)) (by simp) (by simp);rw[x9] at e0 ek;obtain⟨r,e,k⟩:=hK 0 v rfl a (c - 2) ak ak ak (cO 13 0 1 0 p);simp only[e0,ah,cI0,ek];rw[show([v]:List Tn).length=1 from rfl,e];refine⟨r,rfl,λq=> ?_⟩;rcases(inv q.2).2.2.2.2 with⟨u',h,hu,hd⟩|⟨h,_⟩
  ·cases hu;exact k ⟨jJ q.1 ak (by decide),h,hd⟩
  ·simp at h
 ·have hs:(seg l a (c - 2)).length<=3000:=by rw[Pg ak];omega
  rw[Ve ak ak,ah,am1 hs,ah];have inv2:Dx l (.nv (.mk 13 0 x [] ks) p) a c->aO l a=32/\aO l (c - 3)=33/\a+4<=c/\Dx l (.ls ks) (a+1) (c - 3):=λhd=>by
   rcases(inv hd).2.2.2.2 with⟨u',h,hu,_⟩|h
   ·rw[hu] at h1;cases h1
   ·exact h.2
  refine Y.bif (λhh=> ?_) (λh=>Y.no λq=> ?_)
  ·have hh2:2<=c - 2 - a:=by unfold ac5 at hh;rw[wo,decide_eq_true_eq,Pg ak] at hh;exact hh.1
   obtain⟨r,e,k⟩:=hg _ hr (a+1) (c - 3) ak ak ak;rw[e];exact⟨r,rfl,λq=>k (.inl (inv2 q.2).2.2.2)⟩
  ·obtain⟨k1,k2,k3,hd⟩:=inv2 q.2;have:=ap7 k1 (FC hd) k2 ak;rw[show c - 3+1=c - 2 by omega,h] at this;cases this
variable {l:List Tk} {L:List Nd} {D2:au}
def ayN{op:Int}(h:WA op=true):dP op≠0/\op≠61:=by unfold WA at h;simp only[Bool.or_eq_true,beq_iff_eq] at h;have:op=60\/op=57\/op=58\/op=59\/op=55\/op=56\/op=99\/op=63\/op=48\/op=47\/op=50\/op=62\/op=49\/op=67\/op=46\/op=45\/op=44:=ak;rcases this with h|h|h|h|h|h|h|h|h|h|h|h|h|h|h|h|h<;>subst h<;>decide
def ayO{op:Int}(h:F7 op=true):op=54\/(38<=op/\op<=43):=by unfold F7 at h;simp only[Bool.or_eq_true,beq_iff_eq,wo,decide_eq_true_eq] at h;omega
def agd{k op:Int}{x y:aI}{n:Nat}(he:1<=k/\k<=15)(h:Fld k op x y n):Cnt k op y n:=by
 cases h with
 |bin hb=>constructor<;>intros<;>first|omega|exact ayN hb
 |asg ha=>constructor<;>intros<;>first|omega|exact ayO ha
 |_=>constructor<;>intros<;>first|omega|assumption|(exfalso;omega)
def aHm(hl:l.length<=400){f:FAt}{u v z:Tn}{b w:Nat}(hK:KdY l L D2 f [u,v,z] b w)(p:Ps){a c:Nat}(hac:a<c)(h2:c<=l.length)(hw:c - a<=w):
  Y (gY p=true/\Dx l (.nv (.mk 14 0 [] [] [u,v,z]) p) a c) (M.A8 f (aA l) (aP false L) D2 14 0 [] [] (encI (ends [u,v,z] b)) a c p.level p.gU p.nN p.oC p.fD some):=by
 have inv:Dx l (.nv (.mk 14 0 [] [] [u,v,z]) p) a c->∃h1 h2 h3 m k,Dx l (.dv h1 u (cO 14 0 3 0 p)) a m/\aO l m=65/\Dx l (.dv h2 v (cO 14 0 3 1 p)) (m+1) k/\aO l k=66/\Dx l (.dv h3 z (cO 14 0 3 2 p)) (k+1) c:=by
  intro h;generalize ht:Tn.mk 14 0 [] [] [u,v,z]=t at h;cases h with
  |cond d1 k1 d2 k2 d3=>simp only[Tn.mk.injEq,List.cons.injEq] at ht;obtain⟨_,_,_,_,rfl,rfl,rfl,_⟩:=ht;exact⟨_,_,_,_,_,d1,k1,d2,k2,d3⟩
  |leaf h3 h1=>simp only[Tn.mk.injEq] at ht;omega
  |call h7 _ _ _ _ _=>simp only[Tn.mk.injEq] at ht;omega
  |Lm h7 _ _ _=>simp only[Tn.mk.injEq] at ht;omega
  |_=>exact absurd ht (by simp)
 have i0:=Rf (ks:=[u,v,z]) (b:=b) (j:=0) rfl;have i1:=Rf (ks:=[u,v,z]) (b:=b) (j:=1) rfl;have i2:=Rf (ks:=[u,v,z]) (b:=b) (j:=2) rfl;have hcnt:Cnt 14 0 [] ([u,v,z]:List Tn).length:=agd ak .cond;have p0:=aqh (x:=[]) (b:=b) (j:=0) p ak hcnt (by simp) (by simp);have p1:=aqh (x:=[]) (b:=b) (j:=1) p ak hcnt (by simp) (by simp);have p2:=aqh (x:=[]) (b:=b) (j:=2) p ak hcnt (by simp) (by simp);rw[x9] at i0 p0;rw[show((1:Nat):Int)=1 from rfl] at i1 p1;rw[show((2:Nat):Int)=2 from rfl] at i2 p2;rw[show([u,v,z]:List Tn).length=3 from rfl] at p0 p1 p2;have w2:i64.wrap ((a:Int)+1)=((a+1:Nat):Int):=by rw[aK ak ak];omega
 simp only[M.A8,w2];refine Y.loop (c:=c) ak (λm=>aO l m=65/\(∃h,Dx l (.dv h u (cO 14 0 3 0 p)) a m)/\gY p=true/\∃k,m+2<=k/\k<c/\aO l k=66/\(∃h,Dx l (.dv h v (cO 14 0 3 1 p)) (m+1) k)/\∃h,Dx l (.dv h z (cO 14 0 3 2 p)) (k+1) c) ?_ (λm hm1 hm2=> ?_) ?_
 ·rintro⟨hp,hd⟩;obtain⟨h1,h2,h3,m,k,d1,k1,d2,k2,d3⟩:=inv hd;have:=zi d1;have:=zi d2;have:=zi d3;exact⟨m,ak,ak,k1,⟨_,d1⟩,hp,k,ak,ak,k2,⟨_,d2⟩,_,d3⟩
 ·obtain⟨t,e1,e2,e3⟩:=Ep (l:=l) (m:=m) ak;obtain⟨r0,g0,q0⟩:=hK 0 u rfl a m ak ak ak (cO 14 0 3 0 p);have wm:i64.wrap ((m:Int)+1)=((m+1:Nat):Int):=by rw[aK ak ak];omega
  have wm2:i64.wrap ((m:Int)+2)=((m+2:Nat):Int):=by rw[aK ak ak];omega
  simp only[M.OV,M.Du,e1,ah,Qr,<-e2,wm,wm2,i0,cI0,p0,g0];rw[zdt (show(m:Int)<(c:Int) by omega),aJ];cases h65:aO l m==65 with
  |false=>rw[nY] at h65;rw[show(aO l m !=65)=true by rw[bne_iff_ne];exact h65,aJ];exact .inr ⟨rfl,λq=>h65 q.1⟩
  |true=>
   rw[show(aO l m !=65)=false by rw[bne_eq_false_iff_eq];rwa [beq_iff_eq] at h65,aW];cases r0 with
   |false=>refine .inr ⟨rfl,λq=> ?_⟩;obtain⟨_,h,hp,_⟩:=q;have:=q0 ⟨jJ hp ak (by decide),h⟩;cases this
   |true=>
    rw[zaZ,aW];have inner:Y (gY p=true/\∃k,m+2<=k/\k<c/\aO l k=66/\(∃h,Dx l (.dv h v (cO 14 0 3 1 p)) (m+1) k)/\∃h,Dx l (.dv h z (cO 14 0 3 2 p)) (k+1) c)
      ((M.yT f a c m (aA l) (aP false L) D2 14 0 [] [] (encI (ends [u,v,z] b)) p.level p.gU p.nN p.oC p.fD ((m+2:Nat):Int)).bind λu=>kT u (λ_=>some true) λu=>letE u λ_=>some false):=by
     by_cases hmc:m+2<=c
     ·refine Y.loop (c:=c) hmc (λk=>gY p=true/\aO l k=66/\(∃h,Dx l (.dv h v (cO 14 0 3 1 p)) (m+1) k)/\∃h,Dx l (.dv h z (cO 14 0 3 2 p)) (k+1) c) ?_ (λk hk1 hk2=> ?_) ?_
      ·rintro⟨hp,k,a1,a2,a3,a4,a5⟩;exact⟨k,a1,a2,hp,a3,a4,a5⟩
      ·obtain⟨t',e1,e2,e3⟩:=Ep (l:=l) (m:=k) ak;obtain⟨r1,g1,q1⟩:=hK 1 v rfl (m+1) k ak ak ak (cO 14 0 3 1 p);obtain⟨r2,g2,q2⟩:=hK 2 z rfl (k+1) c ak ak ak (cO 14 0 3 2 p);have wk:i64.wrap ((k:Int)+1)=((k+1:Nat):Int):=by rw[aK ak ak];omega
       simp only[M.IW,M.yF,e1,ah,Qr,<-e2,wm,wk,i1,i2,cI0,p1,p2,g1,g2];rw[zdt (show(k:Int)<(c:Int) by omega),aJ];cases h66:aO l k==66 with
       |false=>rw[nY] at h66;exact .inr ⟨rfl,λq=>h66 q.2.1⟩
       |true=>
        cases r1 with
        |false=>refine .inr ⟨rfl,λq=> ?_⟩;have:=q1 ⟨jJ q.1 ak (by decide),q.2.2.1⟩;cases this
        |true=>
         cases r2 with
         |false=>refine .inr ⟨rfl,λq=> ?_⟩;have:=q2 ⟨jJ q.1 ak (by decide),q.2.2.2⟩;cases this
         |true=>exact .inl rfl
      ·simp only[M.IW,M.yF];rw[rF ak,aW]
     ·have he:M.yT f a c m (aA l) (aP false L) D2 14 0 [] [] (encI (ends [u,v,z] b)) p.level p.gU p.nN p.oC p.fD ((m+2:Nat):Int)=some (.inr ((m+2:Nat):Int)):=by rw[M.yT];refine aQ ?_;simp only[M.IW,M.yF];rw[rF ak,aW]
      rw[he];refine⟨false,rfl, ?_⟩;rintro⟨_,k,a1,a2,_⟩;omega
    obtain⟨r,e,k⟩:=inner;cases hlo:M.yT f a c m (aA l) (aP false L) D2 14 0 [] [] (encI (ends [u,v,z] b)) p.level p.gU p.nN p.oC p.fD ((m+2:Nat):Int) with
    |none=>rw[hlo] at e;cases e
    |some s=>
     rw[hlo,ah] at e;rw[ah];cases s with
     |inl _=>exact .inl rfl
     |inr _=>refine .inr ⟨rfl,λq=> ?_⟩;cases e;have:=k ⟨q.2.2.1,q.2.2.2⟩;cases this
 ·simp only[M.OV,M.Du];rw[rF ak,aW]
def aUm(hl:l.length<=400){pt:aHk}{f:FAt}{op:Int}{u v:Tn}{b w:Nat}(hb:WA op=true)(hL:Lies L b (.mk 12 op [] [] [u,v]))(hK:KdY l L D2 f [u,v] b w)(p:Ps){a c:Nat}(hac:a<c)(h2:c<=l.length)(hw:c - a<=w):
  Y (gY p=true/\Dx l (.nv (.mk 12 op [] [] [u,v]) p) a c) (M.su pt f (aA l) (aP false L) D2 ((b+sizes (Tn.mk 12 op [] [] [u,v]).kids:Nat):Int) a c p.level p.gU p.nN p.oC p.fD some):=by
 have hlv:lvl 12 op≠0:=(ayN hb).1;have inv:Dx l (.nv (.mk 12 op [] [] [u,v]) p) a c->∃h1 h2 m q,a<m/\m<c/\(op≠99->aO l m=op)/\Dx l (.dv h1 u (cO 12 op 2 0 p)) a m/\(if op=99 then q=m else if op=44\/op=45 then pst l (m+1) q else q=m+1)/\Dx l (.dv h2 v (cO 12 op 2 1 p)) q c:=by
  intro h;generalize ht:Tn.mk 12 op [] [] [u,v]=t at h;cases h with
  |bin h0 ZO d1 hj d2=>simp only[Tn.mk.injEq,List.cons.injEq] at ht;obtain⟨_,rfl,_,_,rfl,rfl,_⟩:=ht;have:=zi d1;have:=zi d2;have:=(abN hj).1;exact⟨_,_,_,_,ak,ak,λ_=>rfl,d1,by rw[if_neg ZO];exact hj,d2⟩
  |cat d1 d2=>simp only[Tn.mk.injEq,List.cons.injEq] at ht;obtain⟨_,rfl,_,_,rfl,rfl,_⟩:=ht;have:=zi d1;have:=zi d2;exact⟨_,_,_,_,ak,ak,λh=>absurd rfl h,d1,by rw[if_pos rfl],d2⟩
  |leaf h3 h1=>simp only[Tn.mk.injEq] at ht;omega
  |call h7 _ _ _ _ _=>simp only[Tn.mk.injEq] at ht;omega
  |Lm h7 _ _ _=>simp only[Tn.mk.injEq] at ht;omega
  |_=>exact absurd ht (by simp)
 have hrow:=ada hL;have i0:=Rf (ks:=[u,v]) (b:=b) (j:=0) rfl;have i1:=Rf (ks:=[u,v]) (b:=b) (j:=1) rfl;have hcnt:Cnt 12 op [] ([u,v]:List Tn).length:=agd ak (.bin hb);have p0:=aqh (x:=[]) (b:=b) (j:=0) p ak hcnt (by simp) (by simp);have p1:=aqh (x:=[]) (b:=b) (j:=1) p ak hcnt (by simp) (by simp);rw[x9] at i0 p0;rw[show((1:Nat):Int)=1 from rfl] at i1 p1;rw[show([u,v]:List Tn).length=2 from rfl] at p0 p1;have w2:i64.wrap ((a:Int)+1)=((a+1:Nat):Int):=by rw[aK ak ak];omega
 simp only[I7,M.su,hrow];simp only[ah,cN0,cN1,cN2,cN3,cN4,w2,Tn.kind,Tn.op,Tn.text,Tn.other,Tn.kids];refine Y.loop (c:=c) ak (λm=>gY p=true/\(op≠99->aO l m=op)/\(∃h,Dx l (.dv h u (cO 12 op 2 0 p)) a m)/\∃q,(if op=99 then q=m else if op=44\/op=45 then pst l (m+1) q else q=m+1)/\∃h,Dx l (.dv h v (cO 12 op 2 1 p)) q c) ?_ (λm hm1 hm2=> ?_) ?_
 ·rintro⟨hp,hd⟩;obtain⟨h1,h2,m,q,a1,a2,a3,d1,a4,d2⟩:=inv hd;exact⟨m,ak,a2,hp,a3,⟨_,d1⟩,q,a4,_,d2⟩
 ·obtain⟨t,e1,e2,e3⟩:=Ep (l:=l) (m:=m) ak;obtain⟨r0,g0,q0⟩:=hK 0 u rfl a m ak ak ak (cO 12 op 2 0 p);have wm:i64.wrap ((m:Int)+1)=((m+1:Nat):Int):=by rw[aK ak ak];omega
  have hu:gY p=true->(∃h,Dx l (.dv h u (cO 12 op 2 0 p)) a m)->r0=true:=λhp h=>q0 ⟨jJ hp ak hlv,h⟩
  have right:∀q,a<q->q<=c->∃r1,f (aA l) (aP false L) D2 ((b+sizes ([u,v].take 1)+sizes v.kids:Nat):Int) (q:Int) (c:Int) (cO 12 op 2 1 p).level (cO 12 op 2 1 p).gU (cO 12 op 2 1 p).nN (cO 12 op 2 1 p).oC (cO 12 op 2 1 p).fD=some r1/\(gY p=true->(∃h,Dx l (.dv h v (cO 12 op 2 1 p)) q c)->r1=true):=λq h1 h3=>by obtain⟨r1,g1,q1⟩:=hK 1 v rfl q c h3 h2 ak (cO 12 op 2 1 p);exact⟨r1,g1,λhp h=>q1 ⟨jJ hp ak hlv,h⟩⟩
  simp only[M.Ba,M.sS,M.qW,M.oh,M.oq,M.qX,e1,ah,Qr,<-e2,wm,i0,i1,cI0,p0,p1,g0,show((12:Int)==12)=true from rfl,show((12:Int)==15)=false from rfl,show((12:Int) !=15)=true from rfl,aJ,aW];rw[zdt (show(m:Int)<(c:Int) by omega),aJ]
  by_cases ZO:op=99
  ·subst ZO;obtain⟨r1,g1,q1⟩:=right m ak ak;simp only[show((99:Int)==99)=true from rfl,aJ,g1,ah];cases r0 with
   |false=>exact .inr ⟨rfl,λq=>by have:=hu q.1 q.2.2.1;cases this⟩
   |true=>
    cases r1 with
    |false=>refine .inr ⟨rfl,λq=> ?_⟩;obtain⟨hp,_,_,q',h,hd⟩:=q;rw[if_pos (by trivial)] at h;rw[h] at hd;have:=q1 hp hd;cases this
    |true=>exact .inl rfl
  ·have e99:(op==99)=false:=by rw[nY];exact ZO
   simp only[e99,aW];cases hk:aO l m==op with
   |false=>rw[nY] at hk;rw[show(aO l m !=op)=true by rw[bne_iff_ne];exact hk,aJ];exact .inr ⟨rfl,λq=>hk (q.2.1 ZO)⟩
   |true=>
    rw[show(aO l m !=op)=false by rw[bne_eq_false_iff_eq];rwa [beq_iff_eq] at hk,aW]
    by_cases h45:op=44\/op=45
    ·obtain⟨j,j1,j2,j3,j4,j5⟩:=as1 hl (aP false L) D2 _ (m+1) rfl ak;have aDr:(bif decide ((j:Int)<(c:Int)) then(j:Int) else(c:Int))=((min j c:Nat):Int):=by
      by_cases h:j<c
      ·rw[zdt ak,aJ];omega
      ·rw[rF ak,aW];omega
     obtain⟨r1,g1,q1⟩:=right (min j c) ak ak;have key:r0=true->r1=false->¬(gY p=true/\(op≠99->aO l m=op)/\(∃h,Dx l (.dv h u (cO 12 op 2 0 p)) a m)/\∃q,(if op=99 then q=m else if op=44\/op=45 then pst l (m+1) q else q=m+1)/\∃h,Dx l (.dv h v (cO 12 op 2 1 p)) q c):=λ_ hr=>by rintro⟨hp,_,_,q',h,hh,hd⟩;rw[if_neg ZO,if_pos h45] at h;have ej:=as2 j4 j5 h (aEE hd);have:=zi hd;have:=q1 hp ⟨hh,by rw[show min j c=q' by omega];exact hd⟩;rw[hr] at this;cases this
     rcases h45 with h45|h45
     ·subst h45;simp only[show((44:Int)==45)=false from rfl,show((44:Int)==44)=true from rfl,aJ,aW,j1,ah,aDr,g1];cases r0 with
      |false=>exact .inr ⟨rfl,λq=>by have:=hu q.1 q.2.2.1;cases this⟩
      |true=>
       cases r1 with
       |false=>exact .inr ⟨rfl,key rfl rfl⟩
       |true=>exact .inl rfl
     ·subst h45;simp only[show((45:Int)==45)=true from rfl,aJ,aW,j1,ah,aDr,g1];cases r0 with
      |false=>exact .inr ⟨rfl,λq=>by have:=hu q.1 q.2.2.1;cases this⟩
      |true=>
       cases r1 with
       |false=>exact .inr ⟨rfl,key rfl rfl⟩
       |true=>exact .inl rfl
    ·have e45:(op==45)=false:=by rw[nY];omega
     have e44:(op==44)=false:=by rw[nY];omega
     obtain⟨r1,g1,q1⟩:=right (m+1) ak ak;simp only[e45,e44,aW,g1,ah];cases r0 with
     |false=>exact .inr ⟨rfl,λq=>by have:=hu q.1 q.2.2.1;cases this⟩
     |true=>
      cases r1 with
      |false=>refine .inr ⟨rfl,λq=> ?_⟩;obtain⟨hp,_,_,q',h,hd⟩:=q;rw[if_neg ZO,if_neg h45] at h;rw[h] at hd;have:=q1 hp hd;cases this
      |true=>exact .inl rfl
 ·simp only[M.Ba,M.sS,M.qW,M.oh,M.oq,M.qX];rw[rF ak,aW]
def aUn(hl:l.length<=400){pt:aHk}{f:FAt}{op:Int}{u v:Tn}{b w:Nat}(hb:F7 op=true)(hlv:Ee u.kind=true)(hL:Lies L b (.mk 15 op [] [] [u,v]))(hK:KdY l L D2 f [u,v] b w)(hP:aHl l L D2 pt u (b+sizes ([u,v].take 0)) w)(p:Ps){a c:Nat}(hac:a<c)(h2:c<=l.length)(hw:c - a<=w):
  Y (gY p=true/\Dx l (.nv (.mk 15 op [] [] [u,v]) p) a c) (M.su pt f (aA l) (aP false L) D2 ((b+sizes (Tn.mk 15 op [] [] [u,v]).kids:Nat):Int) a c p.level p.gU p.nN p.oC p.fD some):=by
 have hl0:lvl 15 op≠0:=by show(1:Int)≠0;decide
 have hop:op≠44/\op≠45/\op≠99:=by have:=ayO hb;omega
 have inv:Dx l (.nv (.mk 15 op [] [] [u,v]) p) a c->∃h2 m,a<m/\m<c/\aO l m=op/\Dx l (.nv u (cO 15 op 2 0 p)) a m/\Dx l (.dv h2 v (cO 15 op 2 1 p)) (m+1) c:=by
  intro h;generalize ht:Tn.mk 15 op [] [] [u,v]=t at h;cases h with
  |asg hl d1 ha d2=>simp only[Tn.mk.injEq,List.cons.injEq] at ht;obtain⟨_,rfl,_,_,rfl,rfl,_⟩:=ht;have:=zi d1;have:=zi d2;exact⟨_,_,ak,ak,rfl,d1,d2⟩
  |leaf h3 h1=>simp only[Tn.mk.injEq] at ht;omega
  |call h7 _ _ _ _ _=>simp only[Tn.mk.injEq] at ht;omega
  |Lm h7 _ _ _=>simp only[Tn.mk.injEq] at ht;omega
  |_=>exact absurd ht (by simp)
 have hrow:=ada hL;have i0:=Rf (ks:=[u,v]) (b:=b) (j:=0) rfl;have i1:=Rf (ks:=[u,v]) (b:=b) (j:=1) rfl;have hcnt:Cnt 15 op [] ([u,v]:List Tn).length:=agd ak (.asg hb);have p1:=aqh (x:=[]) (b:=b) (j:=1) p ak hcnt (by simp) (by simp);rw[x9] at i0;rw[show((1:Nat):Int)=1 from rfl] at i1 p1;rw[show([u,v]:List Tn).length=2 from rfl] at p1;have w2:i64.wrap ((a:Int)+1)=((a+1:Nat):Int):=by rw[aK ak ak];omega
 have e44:(op==44)=false:=by rw[nY];exact hop.1
 have e45:(op==45)=false:=by rw[nY];exact hop.2.1
 simp only[I7,M.su,hrow];simp only[ah,cN0,cN1,cN2,cN3,cN4,w2,Tn.kind,Tn.op,Tn.text,Tn.other,Tn.kids];refine Y.loop (c:=c) ak (λm=>gY p=true/\aO l m=op/\Dx l (.nv u (cO 15 op 2 0 p)) a m/\∃h,Dx l (.dv h v (cO 15 op 2 1 p)) (m+1) c) ?_ (λm hm1 hm2=> ?_) ?_
 ·rintro⟨hp,hd⟩;obtain⟨h2,m,a1,a2,a3,d1,d2⟩:=inv hd;exact⟨m,ak,a2,hp,a3,d1,_,d2⟩
 ·obtain⟨t,e1,e2,e3⟩:=Ep (l:=l) (m:=m) ak;obtain⟨r0,g0,q0⟩:=hP a m ak ak ak;obtain⟨r1,g1,q1⟩:=hK 1 v rfl (m+1) c ak ak ak (cO 15 op 2 1 p);have wm:i64.wrap ((m:Int)+1)=((m+1:Nat):Int):=by rw[aK ak ak];omega
  simp only[M.Ba,M.sS,M.qW,M.oh,M.oq,M.qX,e1,ah,Qr,<-e2,wm,i0,i1,cI0,p1,g0,g1,e44,e45,show((15:Int)==12)=false from rfl,show((15:Int)==15)=true from rfl,show((15:Int) !=15)=false from rfl,aJ,aW];rw[zdt (show(m:Int)<(c:Int) by omega),aJ];cases hk:aO l m==op with
  |false=>rw[nY] at hk;rw[show(aO l m !=op)=true by rw[bne_iff_ne];exact hk,aJ];exact .inr ⟨rfl,λq=>hk q.2.1⟩
  |true=>
   rw[show(aO l m !=op)=false by rw[bne_eq_false_iff_eq];rwa [beq_iff_eq] at hk,aW];cases r0 with
   |false=>exact .inr ⟨rfl,λq=>by have:=q0 ⟨hlv,_,jJ q.1 ak hl0,q.2.2.1⟩;cases this⟩
   |true=>
    cases r1 with
    |false=>exact .inr ⟨rfl,λq=>by have:=q1 ⟨jJ q.1 ak hl0,q.2.2.2⟩;cases this⟩
    |true=>exact .inl rfl
 ·simp only[M.Ba,M.sS,M.qW,M.oh,M.oq,M.qX];rw[rF ak,aW]
end Go.Proofs.YthmchnpcplgciaaGreatDoor
namespace Go.Proofs.YthmchnpcplgciaaGreatDoor
open Go Go.Vm
def okN(nt:kH):Prop:=∀s,s∈nt->s.length<=1048576
def ai5:∀a b:List Tn,WG a->WG b->WG (a++b)
 |[],b,_,h=>h
 |t::a,b,h1,h2=>⟨h1.1,ai5 a b h1.2 h2⟩
def good{α:Type}(S:α->Prop):PR α->Prop:=λp=>p.sat λx _ m=>S x/\okN m
section
variable {l:List Tk} {α β:Type} {S:α->Prop} {S':β->Prop}
def Ql{p:PR α}{f:α->Nat->kH->PR β}(h:good S p)(hf:∀x j m,S x->okN m->good S' (f x j m)):good S' (p.bind f):=by
 cases p with
 |ok x j m=>exact hf x j m h.1 h.2
 |bad j=>trivial
 |out=>trivial
def ade{c:Bool}{p q:PR α}(h1:good S p)(h2:good S q):good S (bif c then p else q):=by cases c with|true=>exact h1|false=>exact h2
def alk{k:Int}{i:Nat}{nt:kH}(h:okN nt):good (λ_:Unit=>True) (qH l k i nt):=by
 unfold qH;cases aO l i==k with
 |true=>exact⟨trivial,h⟩
 |false=>trivial
def auZ(hx:∀i,(xB l i).length<=1048576){i:Nat}{nt:kH}(h:okN nt):good (λs:aI=>s.length<=1048576) (nameP l i nt):=by
 unfold nameP;cases aO l i==6 with
 |true=>exact⟨hx i,h⟩
 |false=>trivial
end
def SX(x:Xp):Prop:=sml x.1
def agf:∀(r:List Tk) (i:Nat) (nt:kH),(∀t,t∈r->t.text.length<=1048576)->okN nt->okN (nlR r i nt).2
 |[],i,nt,_,h=>by rw[nlR];exact h
 |t::r,i,nt,hr,h=>by
  have hr':∀u,u∈r->u.text.length<=1048576:=λu hu=>hr u (zmm _ hu)
  have h2:okN (nt++[t.text]):=λs hs=>by
   rcases List.mem_append.1 hs with hs|hs
   ·exact h s hs
   ·rw[List.mem_singleton] at hs;rw[hs];exact hr t zmf
  rw[nlR];cases t.kind==1<;>cases t.kind==2<;>simp only[aJ,aW]
  ·exact h
  ·exact agf r (i+1) _ hr' h2
  ·exact agf r (i+1) nt hr' h
  ·exact agf r (i+1) nt hr' h
def adf:∀(r:List Tk) (i:Nat) (nt:kH),(∀t,t∈r->t.text.length<=1048576)->okN nt->okN (auF r i nt).2
 |[],i,nt,_,h=>by rw[auF];exact h
 |t::r,i,nt,hr,h=>by
  have hr':∀u,u∈r->u.text.length<=1048576:=λu hu=>hr u (zmm _ hu)
  have h2:okN (nt++[t.text]):=λs hs=>by
   rcases List.mem_append.1 hs with hs|hs
   ·exact h s hs
   ·rw[List.mem_singleton] at hs;rw[hs];exact hr t zmf
  rw[auF];cases(t.kind==1||t.kind==37)<;>cases t.kind==2<;>simp only[aJ,aW]
  ·exact h
  ·exact adf r (i+1) _ hr' h2
  ·exact adf r (i+1) nt hr' h
  ·exact adf r (i+1) nt hr' h
def ZT{b:Int->Option (Int⊕(Unit⊕Int))}(n:Nat)(hn:n<=1048576)(hs:∀i,i<n->b (i:Int)=some (.inl (i64.wrap ((i:Int)+1))))(he:b (n:Int)=some (.inr (.inr (n:Int)))):dU b 0=some (.inr (n:Int)):=
 yg (b:=b) (t:=(Sum.inr (n:Int):Unit⊕Int)) (λi=>(i:Int)) n (λi hi=>by rw[hs i hi,aK ak ak];rfl) he 0 (Nat.zero_le _)
def ayP{k op:Int}{n j:Nat}(hk:1<=k/\k<=15):cls k op n j=0\/cls k op n j=6:=by
 unfold cls
 by_cases h:k=9\/k=10\/(k=15/\j=0)
 ·rw[if_pos h];exact .inr rfl
 ·rw[if_neg h,if_neg ak,if_neg ak,if_neg ak,if_neg ak,if_neg ak,if_neg ak,if_neg ak,if_neg ak,if_neg ak];exact .inl rfl
def aHn{k op:Int}{n j:Nat}(hk:k=9\/k=10\/(k=15/\j=0)):cls k op n j=6:=by unfold cls;rw[if_pos ak]
def ai6{k op:Int}{x y:aI}{ks:List Tn}(h:rtT (.mk k op x y ks))(hk:1<=k/\k<=15){j:Nat}{u:Tn}(hj:ks[j]? =some u):rtT u/\isE u/\(k=9\/k=10\/(k=15/\j=0)->Ee u.kind=true):=by
 rw[rtT] at h;obtain⟨h1,h2⟩:=asF h.2 hj;rw[Nat.zero_add] at h1;refine⟨h2, ?_, ?_⟩
 ·rcases ayP (op:=op) (n:=ks.length) (j:=j) hk with e|e
  ·rw[e] at h1;exact h1
  ·rw[e] at h1;have h5:u.kind=1\/u.kind=5\/u.kind=6:=h1;unfold isE;omega
 ·intro h3;rw[aHn h3] at h1;have h5:u.kind=1\/u.kind=5\/u.kind=6:=h1;unfold Ee;rcases h5 with h|h|h<;>rw[h]<;>rfl
def ai7(k:Int):M.iM k=some (acQ k):=by simp only[M.iM,M.QZ,rO,ah,acQ,ge_iff_le]
def arR(k:Int):M.uo k=some (Ee k):=by simp only[M.uo,M.MG,Ee];cases k==1<;>cases k==5<;>rfl
def arS(x a b:Int)(h:a<=x/\x<=b):(decide (x>=a) && decide (x<=b))=true:=by rw[wo,decide_eq_true_eq,decide_eq_true_eq];exact h
def aUo{k op:Int}{x y:aI}{kids:au}(h:Fld k op x y kids.length)(he:1<=k/\k<=15)(hx:x.length<=1048576)(hl:kids.length<=400):M.dQ k op x y kids=some true/\M.ig k op x y kids=some true:=by
 have hN:=Wy x hx;have hB:=O7 x;have hT:∀q:Int,2<=q->q<=5->M.mP q x 0=some (uY q x)/\M.lI q x 0=some (uY q x):=λq h1 h2=>Nj q x 0 hx ⟨ak,ak⟩
 have hE:M.iM k=some true:=by rw[ai7,acQ,zdt he.1,zdt he.2];rfl
 generalize hn:kids.length=n at h;cases h with
 |name hx=>simp only[M.dQ,M.gW,M.jC,M.jy,M.lW,M.mJ,M.iL,M.jA,tX,hN.1,hN.2,hx,hn,ah,M.ig,M.iZ,M.jd,M.lG,M.jr,rO,hE];exact⟨rfl,rfl⟩
 |tok hk hx=>
  have h3:=hT 3 ak ak;have h4:=hT 4 ak ak;have h5:=hT 5 ak ak;rcases hk with rfl|rfl|rfl
  ·have hx:uY 3 x=true:=hx;have hj:M.jd 2 0 x [] kids=(M.lI 3 x 0).bind λr=>some (true,r,false,0,0):=rfl
   simp only[M.dQ,M.gW,M.jC,M.jy,M.lW,M.mJ,M.iL,M.jA,tX,h3.1,h3.2,hx,hn,ah,M.ig,M.iZ,hj,rO,hE];exact⟨rfl,rfl⟩
  ·have hx:uY 4 x=true:=hx;have hj:M.jd 3 0 x [] kids=(M.lI 4 x 0).bind λr=>some (true,r,false,0,0):=rfl
   simp only[M.dQ,M.gW,M.jC,M.jy,M.lW,M.mJ,M.iL,M.jA,tX,h4.1,h4.2,hx,hn,ah,M.ig,M.iZ,hj,rO,hE];exact⟨rfl,rfl⟩
  ·have hx:uY 5 x=true:=hx;have hj:M.jd 4 0 x [] kids=(M.lI 5 x 0).bind λr=>some (true,r,false,0,0):=rfl
   simp only[M.dQ,M.gW,M.jC,M.jy,M.lW,M.mJ,M.iL,M.jA,tX,h5.1,h5.2,hx,hn,ah,M.ig,M.iZ,hj,rO,hE];exact⟨rfl,rfl⟩
 |index hk hx h1 h6=>have e:=arS (n:Int) 1 6 ak;rcases hk with rfl|rfl<;>simp only[M.dQ,M.gW,M.jC,M.jy,M.lW,M.mJ,M.iL,M.jA,tX,hN.1,hN.2,hx,hn,ah,Int.reduceBEq,aJ,aW,e,M.ig,M.iZ,M.jd,M.lG,M.jr,rO,hE]<;>exact⟨rfl,rfl⟩
 |call hk hx h6=>have e:=arS (n:Int) 0 6 ak;obtain rfl:k=7:=ak;simp only[M.dQ,M.gW,M.jC,M.jy,M.lW,M.mJ,M.iL,M.jA,tX,hN.1,hN.2,hx,hn,ah,Int.reduceBEq,aJ,aW,e,M.ig,M.iZ,M.jd,M.lG,M.jr,rO,hE];exact⟨rfl,rfl⟩
 |blt hx h6=>have e:=arS (n:Int) 0 6 ak;simp only[M.dQ,M.gW,M.jC,M.jy,M.lW,M.mJ,M.iL,M.jA,tX,hB.1,hB.2,hx,hn,ah,Int.reduceBEq,aJ,aW,e,M.ig,M.iZ,M.jd,M.lG,M.jr,rO,hE];exact⟨rfl,rfl⟩
 |one hk=>obtain rfl:k=6:=ak;simp only[M.dQ,M.gW,M.jC,M.jy,M.lW,M.mJ,M.iL,M.jA,tX,hn,ah,M.ig,M.iZ,M.jd,M.lG,M.jr,rO,hE];exact⟨rfl,rfl⟩
 |step hk hop=>rcases hk with rfl|rfl<;>rcases hop with rfl|rfl<;>simp only[M.dQ,M.gW,M.jC,M.jy,M.lW,M.mJ,M.iL,M.jA,tX,hn,ah,M.ig,M.iZ,M.jd,M.lG,M.jr,M.mG,M.La,rO,hE]<;>exact⟨rfl,rfl⟩
 |una hop=>rcases hop with rfl|rfl|rfl<;>simp only[M.dQ,M.gW,M.jC,M.jy,M.lW,M.mJ,M.iL,M.jA,tX,hn,ah,M.ig,M.iZ,M.jd,M.lG,M.jr,rO,hE]<;>exact⟨rfl,rfl⟩
 |bin hop=>obtain⟨hb,lv,h1,h2⟩:=aiF op;rw[hop] at hb h2;simp only[M.dQ,M.gW,M.jC,M.jy,M.lW,M.mJ,M.iL,M.jA,tX,hb,hn,ah,M.ig,M.iZ,M.jd,M.lG,M.jr,rO,hE,h1,h2];exact⟨rfl,rfl⟩
 |cond=>simp only[M.dQ,M.gW,M.jC,M.jy,M.lW,M.mJ,M.iL,M.jA,tX,hn,ah,M.ig,M.iZ,M.jd,M.lG,M.jr,rO,hE];exact⟨rfl,rfl⟩
 |asg hop=>have hb:=Ry op;rw[hop] at hb;simp only[M.dQ,M.gW,M.jC,M.jy,M.lW,M.mJ,M.iL,M.jA,tX,hb.1,hb.2,hn,ah,M.ig,M.iZ,M.jd,M.lG,M.jr,rO,hE];exact⟨rfl,rfl⟩
 |none h=>omega
 |prn _ _ _=>omega
 |prt _ _ _ _=>omega
 |word h _=>omega
 |if_ _=>omega
 |two h=>omega
 |for_=>omega
 |aEm _ _=>omega
 |many h=>omega
 |com _=>omega
 |rule _=>omega
 |range _=>omega
 |func _ _ _=>omega
def aUp{k op:Int}{x y:aI}{kids:au}{j:Nat}{d:Int}(he:1<=k/\k<=15)(hd:1<=d/\d<=15)(hlv:k=9\/k=10\/(k=15/\j=0)->Ee d=true):M.o9 k op x y kids (j:Int) d=some true/\M.zX k op x y kids (j:Int) d=some true:=by
 have hx:acQ d=true:=by rw[acQ,zdt hd.1,zdt hd.2];rfl
 have hi:=ai7 d;have hs:=(WB d).1;have li:=arR d;have ls:=(Zn d).1;rw[hx] at hi hs;have hk:(k=9\/k=10)\/k=15\/k=1\/k=2\/k=3\/k=4\/k=5\/k=6\/k=7\/k=8\/k=11\/k=12\/k=13\/k=14:=ak;rcases hk with hk|hk|hk
 ·rw[hlv ak] at li ls;rcases hk with rfl|rfl<;>simp only[M.o9,M.CO,M.uq,M.zX,M.KC,li,ls,ah,Int.reduceBEq,aJ,aW]<;>first|exact⟨rfl,rfl⟩|exact⟨rfl,trivial⟩|exact⟨trivial,rfl⟩|exact⟨trivial,trivial⟩
 ·subst hk;simp only[M.o9,M.CO,M.uq,M.zX,M.KC,li,ls,hi,hs,ah,Int.reduceBEq,aJ,aW]
  by_cases h0:j=0
  ·rw[h0,hlv (.inr (.inr ⟨rfl,h0⟩))];exact⟨rfl,rfl⟩
  ·rw[zdt (show(j:Int)>0 by omega),nY.2 (show(j:Int)≠0 by omega)];exact⟨rfl,rfl⟩
 ·rcases hk with rfl|rfl|rfl|rfl|rfl|rfl|rfl|rfl|rfl|rfl|rfl|rfl<;>simp only[M.o9,M.CO,M.uq,M.zX,M.KC,hi,hs,ah,Int.reduceBEq,aJ,aW]<;>first|exact⟨rfl,rfl⟩|exact⟨rfl,trivial⟩|exact⟨trivial,rfl⟩|exact⟨trivial,trivial⟩
def aqi:∀(ks:List Tn) (m:Nat),m<sizes ks->∃a t c,ks=a++t::c/\sizes a<=m/\m<sizes a+t.size
 |[],m,h=>by simp[sizes] at h
 |t::ts,m,h=>by
  rw[sizes] at h
  by_cases hm:m<t.size
  ·exact⟨[],t,ts,rfl,by simp[sizes],by simp only[sizes];omega⟩
  ·obtain⟨a,u,c,h1,h2,h3⟩:=aqi ts (m - t.size) ak;refine⟨t::a,u,c,by rw[h1];rfl, ?_, ?_⟩<;>rw[sizes]<;>omega
def aqj{P:Tn->Prop}(hP:∀k o x y ks,P (.mk k o x y ks)->∀u,u∈ks->P u){l:List Nd}:∀(t:Tn) (b:Nat),P t->Lies l b t->∀i,b<=i->i<b+t.size->∃u c,P u/\Lies l c u/\c+sizes u.kids=i:=by
 intro t;induction t using Tn.ind with
 |h k o x y ks ih=>
  intro b hp h i h1 h2;rw[Tn.size] at h2
  by_cases he:i=b+sizes ks
  ·exact⟨_,b,hp,h,he.symm⟩
  ·obtain⟨a,t,c,e,h3,h4⟩:=aqi ks (i - b) ak;subst e;exact ih t (by simp) (b+sizes a) (hP _ _ _ _ _ hp t (by simp)) h.kid i ak ak
def aDw{l:List Nd}(t:Tn)(b:Nat)(h:Lies l b t)(i:Nat)(h1:b<=i)(h2:i<b+t.size):∃u c,Lies l c u/\c+sizes u.kids=i:=by obtain⟨u,c,_,h3⟩:=aqj (P:=λ_=>True) (λ_ _ _ _ _ _ _ _=>trivial) t b trivial h i h1 h2;exact⟨u,c,h3⟩
def alm:∀{ks:List Tn} {u:Tn},WG ks->u∈ks->sml u
 |t::ts,u,h,hu=>by
  rcases List.mem_cons.1 hu with rfl|hu
  ·exact h.1
  ·exact alm h.2 hu
def RxE(t:Tn):Prop:=rtT t/\isE t/\sml t/\t.size<=400
def aDx(k o:Int)(x y:aI)(ks:List Tn)(h:RxE (.mk k o x y ks))(u:Tn)(hu:u∈ks):RxE u:=by obtain⟨j,hj⟩:=List.getElem?_of_mem hu;obtain⟨h1,h2,h3,h4⟩:=h;have hk:=ai6 h1 h2 hj;have hs:=Ew hu;rw[Tn.size] at h4;exact⟨hk.1,hk.2.1,alm h3.2 hu,ak⟩
def am6{α:Type}{p:Nat->α->Bool}:∀{l:List α} {i:Nat},(∀j x,l[j]? =some x->p (i+j) x=true)->Zq p l i=true
 |[],_,_=>rfl
 |x::l,i,h=>by
  rw[Zq,show p i x=true from h 0 x rfl,Bool.true_and];exact am6 λj y hy=>by
   have:=h (j+1) y (by rw[List.getElem?_cons_succ];exact hy)
   rwa [show i+(j+1)=i+1+j by omega] at this
section
variable {T:Tn} (h:RxE T) {o:Bool}
include h
theorem agh{i:Nat}{n:Nd}(hi:(T.flat 0)[i]? =some n):M.dQ n.kind n.op n.text n.other (encI n.kids)=some true/\M.ig n.kind n.op n.text n.other (encI n.kids)=some true/\n.kids.length<=400/\
  ∀(j:Nat) q,n.kids[j]? =some q->∃(r:Nat) (m:Nd),q=(r:Int)/\(T.flat 0)[r]? =some m/\M.o9 n.kind n.op n.text n.other (encI n.kids) (j:Int) m.kind=some true/\M.zX n.kind n.op n.text n.other (encI n.kids) (j:Int) m.kind=some true:=by
 have hil:=(Qm.1 hi).1;rw[T.flat_length] at hil;obtain⟨u,c,⟨h1,h2,h3,h4⟩,hL,hc⟩:=aqj aDx T 0 h (Lies.whole T) i (Nat.zero_le _) ak;have hr:=Lies.root' hL;rw[hc,hi] at hr;obtain⟨k,op,x,y,ks⟩:=u;obtain rfl:=Option.some.inj hr;have hF:Fld k op x y ks.length:=by rw[rtT] at h1;exact h1.1
 have hle:(encI (ends ks c)).length=ks.length:=by rw[dV,jM]
 have hlen:=zW ks;rw[Tn.size] at h4;have hf:=aUo (kids:=encI (ends ks c)) (by rw[hle];exact hF) h2 h3.1.1 ak;refine⟨hf.1,hf.2,by show(ends ks c).length<=400;rw[jM];omega,λj q hq=> ?_⟩;have hq:(ends ks c)[j]? =some q:=hq;have hj:=(Qm.1 hq).1;rw[jM] at hj;obtain⟨v,hv⟩:∃v,ks[j]? =some v:=⟨ks[j],by simp[hj]⟩
 rw[af7 hv] at hq;obtain rfl:=Option.some.inj hq;have hk:=ai6 h1 h2 hv;have:=aUp (op:=op) (x:=x) (y:=y) (kids:=encI (ends ks c)) (j:=j) h2 hk.2.1 hk.2.2;exact⟨_,_,rfl,Lies.root' (Lies.abH hL hv),this.1,this.2⟩
theorem ayQ(hd:depth (T.flat 0)<=40):Xy (T.flat 0)=true:=by
 unfold Xy;rw[aiY T h.2.2.2,zdt hd,am6]
 ·rfl
 ·intro i n hi;obtain⟨h1,_,_,h4⟩:=agh h hi;rw[np,fOk,h1];show(true && Zq (kp (T.flat 0) n) n.kids 0)=true;rw[Bool.true_and];refine am6 λj q hq=> ?_
  obtain⟨r,m,rfl,hm,h5,_⟩:=h4 j q hq;rw[Nat.zero_add,kp,kOk,Yf,Zp,hm];simp only;rw[h5];rfl
theorem aqk(hd:depth (T.flat 0)<=40):M.F5 (aP o (T.flat 0))=some true:=by
 have hl:(T.flat 0).length=T.size:=T.flat_length 0;have h4:=h.2.2.2;have hk:∀n,n∈T.flat 0->n.kids.length<=1048576:=λn hn=>by have:=(KF T 0 n hn).1;omega
 have kids:∀(i:Nat) (n:Nd),(T.flat 0)[i]? =some n->∀v10 v11 v12,M.JC (aP o (T.flat 0)) v10 v11 v12 (encI n.kids) (n.kids.length:Int) n.kind n.op n.text n.other (encI n.kids) 0=some (.inr (n.kids.length:Int)):=λi n hi v10 v11 v12=>by
  obtain⟨_,_,h3,h5⟩:=agh h hi;rw[M.JC];refine ZT n.kids.length ak (λj hj=> ?_) ?_
  ·obtain⟨q,hq⟩:∃q,n.kids[j]? =some q:=⟨n.kids[j],by simp[hj]⟩
   obtain⟨r,m,rfl,hm,_,h6⟩:=h5 j q hq;simp only[M.Qc,M.Fq,bK,Eu,hq,nH,hm,Ht,ah,cI0,cN0,h6,zaZ,aW];rw[zdt ak,aJ]
  ·simp only[M.Qc,M.Fq];rw[rF ak,aW]
 have nodes:M.JD (aP o (T.flat 0)) (aP o (T.flat 0)) ((T.flat 0).length:Int) 0=some (.inr ((T.flat 0).length:Int)):=by
  rw[M.JD];refine ZT (T.flat 0).length ak (λi hi=> ?_) ?_
  ·obtain⟨n,hn⟩:∃n,(T.flat 0)[i]? =some n:=⟨(T.flat 0)[i],by simp[hi]⟩
   obtain⟨_,h2,_,_⟩:=agh h hn;simp only[I7,M.Qd,M.Fv,bK,nH,hn,Ht,ah,cN0,cN1,cN2,cN3,cN4,h2,dV,kids i n hn,zaZ,aW];rw[zdt ak,aJ];rfl
  ·simp only[I7,M.Qd,M.Fv];rw[rF ak,aW]
 have hs:=aiY T h4;obtain⟨r,hv⟩:=amF hs;have h1:=hv.pos;have h2:=hv.le;obtain⟨n,hn⟩:∃n,(T.flat 0)[(T.flat 0).length - 1]? =some n:=⟨(T.flat 0)[(T.flat 0).length - 1]'ak,by simp⟩
 have hka:∀n,n∈T.flat 0->n.kids.length<=400:=λn hn=>by obtain⟨i,hi⟩:=List.mem_iff_getElem?.1 hn;exact(agh h hi).2.2.1
 have ht:=ak9 (o:=o) hv hka (T.flat 0).length ((T.flat 0).length - 1) n ak hn;have hdp:=apE hv hka (T.flat 0).length ((T.flat 0).length - 1) n n.kind n.op n.text n.other ak ak hn;simp only[M.F5,M.Q7,afP (T.flat 0) o ak hk,hs,ah,dI,zaZ,aW,nodes,kT,letE,M.Jf,M.Q5];rw[aK ak ak,show((T.flat 0).length:Int) - 1=(((T.flat 0).length - 1:Nat):Int) by omega,M.aiz ht,ah,ah];simp only;rw[M.Ur hdp,ah];rw[depth,if_pos hs] at hd;rw[zdt hd]
end
def ai8{T:Tn}(h:rxT T)(hs:sml T)(hz:T.size<=400)(hd:depth (T.flat 0)<=40)(o:Bool):M.oW (aP o (T.flat 0))=some true/\M.F6 (aP o (T.flat 0))=some true:=by
 have hR:RxE T:=⟨h.1,h.2,hs,hz⟩
 have hl:(T.flat 0).length<=1048576:=by rw[T.flat_length];omega
 have hk:∀n,n∈T.flat 0->n.kids.length<=1048576:=λn hn=>by have:=(KF T 0 n hn).1;omega
 have hsm:=(amM T 0).1 hs;have hE:1<=T.kind/\T.kind<=15:=h.2;have htr:=ayQ hR hd;have hti:=aqk (o:=o) hR hd;obtain⟨n,h1,h2⟩:=apH _ o hl hk hsm htr;obtain⟨k,op,x,y,ks⟩:=T;have hE:1<=k/\k<=15:=hE;have hx:acQ k=true:=by rw[acQ,zdt hE.1,zdt hE.2];rfl
 have hn:n.kind=k:=by rw[Tn.flat,List.getLast?_concat] at h1;obtain rfl:=Option.some.inj h1;rfl
 refine⟨?_, ?_⟩
 ·simp only[M.oW,M.KY,Zr _ o hl hk hsm,htr,ah,aJ,h2,dI,cN0,hn,(WB k).1,hx]
 ·simp only[M.F6,M.Q8,hti,ah,aJ,h2,dI,cN0,hn,ai7 k,hx]
end Go.Proofs.YthmchnpcplgciaaGreatDoor
namespace Go.Proofs.YthmchnpcplgciaaGreatDoor
open Go Go.Vm
variable {l:List Tk} {L:List Nd} {D2:au}
def aHo{ks:List Tn}{b:Nat}(h:∀j u,ks[j]? =some u->Lies L (b+sizes (ks.take j)) u):Rts L (ends ks b) ks:=by
 induction ks generalizing b with
 |nil=>exact .nil
 |cons t ts ih=>
  have h0:=h 0 t rfl;rw[List.take_zero,sizes,Nat.add_zero] at h0;have e:ends (t::ts) b=((b+sizes t.kids:Nat):Int)::ends ts (b+t.size):=by have:=t.Hw;rw[ends];congr 1;omega
  rw[e];refine .cons h0 (ih λj u hj=> ?_);have:=h (j+1) u (by rw[List.getElem?_cons_succ];exact hj);rw[List.take_succ_cons,sizes,<-Nat.add_assoc] at this;exact this
def am7(hl:l.length<=400){k kd:Int}{x:aI}(hk:(k=1/\kd=6)\/((k=2\/k=3\/k=4)/\kd=k+1))(p:Ps){a c:Nat}(hac:a<c)(h2:c<=l.length):
  Y (gY p=true/\Dx l (.nv (.mk k 0 x [] []) p) a c) (bif i64.wrap ((c:Int) - (a:Int))==1 then
      ((idx (aA l) (a:Int)).bind λamu=>
      ((dG IntKind.i64 amu 0).bind λaw5=>
       (bif aw5==kd then
       ((idx (aA l) (a:Int)).bind λamv=>((cStr amv 1).bind λaw6=>some (aw6==x))) else some false))) else some false):=by
 have inv:Dx l (.nv (.mk k 0 x [] []) p) a c->c=a+1/\aO l a=kd/\xB l a=x:=by
  intro h;generalize ht:Tn.mk k 0 x [] []=t at h;cases h with
  |name h1=>simp only[Tn.mk.injEq] at ht;obtain⟨e,_,rfl,_⟩:=ht;exact⟨rfl,ak,rfl⟩
  |leaf h3 h1=>simp only[Tn.mk.injEq] at ht;obtain⟨e,_,rfl,_⟩:=ht;exact⟨rfl,ak,rfl⟩
  |call h7 _ _ _ _ _=>simp only[Tn.mk.injEq] at ht;omega
  |Lm h7 _ _ _=>simp only[Tn.mk.injEq] at ht;omega
  |_=>simp only[Tn.mk.injEq] at ht;omega
 have w1:i64.wrap ((c:Int) - (a:Int))=((c - a:Nat):Int):=by rw[aK ak ak];omega
 obtain⟨t,e1,e2,e3⟩:=Ep (l:=l) (m:=a) ak;simp only[w1,e1,ah,Qr,cT1,<-e2,<-e3];refine Y.bif (λ_=> ?_) (λh=>Y.no λq=> ?_)
 ·refine Y.bif (λ_=> ?_) (λh=>Y.no λq=> ?_)
  ·exact⟨_,rfl,λq=>by rw[(inv q.2).2.2,beq_iff_eq]⟩
  ·rw[(inv q.2).2.1,nY] at h;exact h rfl
 ·have:=(inv q.2).1;rw[nY] at h;omega
def Vg{k op:Int}{u:Tn}{p:Ps}{a c:Nat}(h:Dx l (.nv (.mk k op [] [] [u]) p) a c)(hk:k=6\/k=9\/k=10\/k=11):
  (k=6->aO l a=68/\∃h,Dx l (.dv h u (cO 6 0 1 0 p)) (a+1) c)/\(k=9->aO l a=op/\Dx l (.nv u (cO 9 op 1 0 p)) (a+1) c)/\
   (k=10->aO l (c - 1)=op/\a+1<c/\Dx l (.nv u (cO 10 op 1 0 p)) a (c - 1))/\(k=11->aO l a=op/\∃h,Dx l (.dv h u (cO 11 op 1 0 p)) (a+1) c):=by
 generalize ht:Tn.mk k op [] [] [u]=t at h;cases h with
 |field h1 d=>simp only[Tn.mk.injEq,List.cons.injEq] at ht;obtain⟨rfl,_,_,_,rfl,_⟩:=ht;exact⟨λ_=>⟨h1,_,d⟩,λe=>(by cases e),λe=>(by cases e),λe=>(by cases e)⟩
 |pre h1 hl d=>simp only[Tn.mk.injEq,List.cons.injEq] at ht;obtain⟨rfl,rfl,_,_,rfl,_⟩:=ht;exact⟨λe=>(by cases e),λ_=>⟨rfl,d⟩,λe=>(by cases e),λe=>(by cases e)⟩
 |post h1 hl d=>simp only[Tn.mk.injEq,List.cons.injEq] at ht;obtain⟨rfl,rfl,_,_,rfl,_⟩:=ht;have:=zi d;exact⟨λe=>(by cases e),λe=>(by cases e),λ_=>⟨rfl,ak,by rw[Nat.add_sub_cancel];exact d⟩,λe=>(by cases e)⟩
 |una h1 d=>simp only[Tn.mk.injEq,List.cons.injEq] at ht;obtain⟨rfl,rfl,_,_,rfl,_⟩:=ht;exact⟨λe=>(by cases e),λe=>(by cases e),λe=>(by cases e),λ_=>⟨rfl,_,d⟩⟩
 |leaf h3 h1=>simp only[Tn.mk.injEq] at ht;omega
 |call h7 _ _ _ _ _=>simp only[Tn.mk.injEq] at ht;omega
 |Lm h7 _ _ _=>simp only[Tn.mk.injEq] at ht;omega
 |_=>simp only[Tn.mk.injEq] at ht;omega
def aUq(hl:l.length<=400)(hD:∀b t,Lies L b t->D2[b+sizes t.kids]? =some [D.int .i64 (zT t)]):∀(s:Nat) (t:Tn),t.size<=s->rtT t->isE t->∀b,Lies L b t->∀w n,8 * t.size+w+5<=n->AtY l L D2 (M.qN n) t b w:=by
 intro s;induction s with
 |zero=>intro t ht;have:=t.Hw;omega
 |succ s ih=>
  intro t hts hrt hE b hL;obtain⟨k,op,x,y,ks⟩:=t;have hsz:(Tn.mk k op x y ks).size=sizes ks+1:=by rw[Tn.size]
  have hE':1<=k/\k<=15:=hE;have hF:Fld k op x y ks.length:=by rw[rtT] at hrt;exact hrt.1
  have kid:∀j u,ks[j]? =some u->u.size<=sizes ks/\rtT u/\isE u/\Lies L (b+sizes (ks.take j)) u:=λj u hj=>by have h1:=ai6 hrt hE' hj;have h2:=Lies.abH hL hj;exact⟨Ew (ZF hj),h1.1,h1.2.1,h2⟩
  have a1y:∀u,u∈ks->u.size<=sizes ks/\rtT u/\isE u:=λu hu=>by obtain⟨j,hj⟩:=List.getElem?_of_mem hu;have:=kid j u hj;exact⟨this.1,this.2.1,this.2.2.1⟩
  have hK:∀w n,8 * sizes ks+w+5<=n->KdY l L D2 (M.qN n) ks b w:=λw n hn j u hj=>by obtain⟨h1,h2,h3,h4⟩:=kid j u hj;exact ih u ak h2 h3 _ h4 w n ak
  have hP:∀w n,8 * sizes ks+w+6<=n->∀j u,ks[j]? =some u->aHl l L D2 (M.H9 n) u (b+sizes (ks.take j)) w:=λw n hn j u hj=>by
   obtain⟨m,rfl⟩:∃m,n=m+1:=⟨n - 1,ak⟩
   rw[M.ajS];exact aUf hl (hK w m ak j u hj)
  have hLs:∀w (ks':List Tn),(∀u,u∈ks'->u∈ks)->∀n,8 * sizes ks'+w+7<=n->LsY l L D2 (M.Fp n) ks' w:=by
   intro w ks';induction ks' with
   |nil=>
    intro _ n hn;obtain⟨m,rfl⟩:∃m,n=m+1:=⟨n - 1,ak⟩
    rw[M.Zk];exact ayM hl (λt ht=>by simp at ht) (λt ts e=>by cases e)
   |cons u us ihL=>
    intro hsub n hn;rw[sizes] at hn;obtain⟨m,rfl⟩:∃m,n=m+1:=⟨n - 1,ak⟩
    rw[M.Zk];have hu1:=u.Hw;refine ayM hl (λt ht b' hb'=> ?_) (λt ts e=> ?_)
    ·obtain⟨h1,h2,h3⟩:=a1y t (hsub t ht);have h4:t.size<=u.size+sizes us:=by have:=Ew ht;rw[sizes] at this;exact this
     exact ih t ak h2 h3 b' hb' w m ak
    ·cases e;exact ihL (λv hv=>hsub v (zmm _ hv)) m ak
  have hR:Rts L (ends ks b) ks:=aHo λj u hj=>(kid j u hj).2.2.2
  have hrow:=ada hL;have hNd:∀w n,8 * sizes ks+w+12<=n->NdY l L D2 (M.OW n) (.mk k op x y ks) b w:=by
   intro w n hn a c hac h2 hw p;obtain⟨m,rfl⟩:∃m,n=m+1:=⟨n - 1,ak⟩
   obtain⟨q,rfl⟩:∃q,m=q+1:=⟨m - 1,ak⟩
   rw[M.aix];have hKm:=hK w (q+1) ak;have hPm:=hP w (q+1) ak;have w2:i64.wrap ((a:Int)+1)=((a+1:Nat):Int):=by rw[aK ak ak];omega
   have w3:i64.wrap ((c:Int) - 1)=((c - 1:Nat):Int):=by rw[aK ak ak];omega
   obtain⟨t0,e1,e2,e3⟩:=Ep (l:=l) (m:=a) ak;obtain⟨t1,f1,f2,f3⟩:=Ep (l:=l) (m:=c - 1) ak;have hkp:=fun(he:1<=ks.length)=>aqh (x:=x) (b:=b) (j:=0) p hE' (agd hE' hF) ak
   simp only[I7,M.Fh,hrow];simp only[ah,cN0,cN1,cN2,cN3,cN4,Tn.kind,Tn.op,Tn.text,Tn.other,Tn.kids,M.lH,M.Ag];have one:∀{u:Tn},ks=[u]->idx (encI (ends ks b)) 0=some [D.int .i64 ((b+sizes (ks.take 0)+sizes u.kids:Nat):Int)]:=λh=>by have:=Rf (ks:=ks) (b:=b) (j:=0) (by rw[h];rfl);rw[x9] at this;exact this
   have hF2:=hF;generalize hnk:ks.length=nk at hF2;cases hF2 with
   |name hx=>obtain rfl:=List.eq_nil_of_length_eq_zero hnk;exact am7 hl (.inl ⟨rfl,rfl⟩) p hac h2
   |tok h3 hx=>
    obtain rfl:=List.eq_nil_of_length_eq_zero hnk;rcases h3 with rfl|rfl|rfl
    ·exact am7 hl (.inr ⟨.inl rfl,rfl⟩) p hac h2
    ·exact am7 hl (.inr ⟨.inr (.inl rfl),rfl⟩) p hac h2
    ·exact am7 hl (.inr ⟨.inr (.inr rfl),rfl⟩) p hac h2
   |index h5 hx h1 h6=>
    rcases h5 with rfl|rfl
    ·simp only[Int.reduceBEq,bne,zaZ,Bool.not_false,aJ,aW,ah];rw[M.RZ];obtain⟨r,e,hr⟩:=am5 hl (x:=x) (.inl ⟨rfl,rfl,rfl⟩) (hLs w ks (λu h=>h) q ak) hR (jM _ _) p hac h2 hw
     try dsimp only
     rw[e];exact⟨r,rfl,λh=>hr h.2⟩
    ·simp only[Int.reduceBEq,bne,zaZ,Bool.not_false,aJ,aW,ah];rw[M.amy];obtain⟨r,e,hr⟩:=a1x hl (x:=x) ak (hK w q ak) (hLs w ks (λu h=>h) q ak) (by rw[List.map_id'];exact hR) p hac h2 hw
     try dsimp only
     rw[e];exact⟨r,rfl,hr⟩
   |call h7 hx h6=>
    obtain rfl:k=7:=ak;simp only[Int.reduceBEq,bne,zaZ,Bool.not_false,aJ,aW,ah];rw[M.RZ];obtain⟨r,e,hr⟩:=am5 hl (x:=x) (.inr (.inl ⟨rfl,rfl,rfl⟩)) (hLs w ks (λu h=>h) q ak) hR (jM _ _) p hac h2 hw
    try dsimp only
    rw[e];exact⟨r,rfl,λh=>hr h.2⟩
   |blt hx h6=>
    simp only[Int.reduceBEq,bne,zaZ,Bool.not_false,aJ,aW,ah];rw[M.RZ];obtain⟨r,e,hr⟩:=am5 hl (x:=x) (.inr (.inr ⟨rfl,rfl,rfl⟩)) (hLs w ks (λu h=>h) q ak) hR (jM _ _) p hac h2 hw
    try dsimp only
    rw[e];exact⟨r,rfl,λh=>hr h.2⟩
   |one h6=>obtain rfl:k=6:=ak;obtain⟨u,rfl⟩:=List.length_eq_one_iff.1 hnk;have hk0:=hkp (by simp) (by simp);rw[x9,show([u]:List Tn).length=1 from rfl] at hk0;obtain⟨r,e,hr⟩:=hKm 0 u rfl (a+1) c ak h2 ak (cO 6 0 1 0 p);simp only[Int.reduceBEq,bne,zaZ,Bool.not_false,aJ,aW,ah];simp only[e1,ah,Qr,<-e2,w2,one rfl,cI0];rw[hk0];simp only[ah,e];refine Y.bif (λ_=>⟨r,rfl,λz=>hr ⟨jJ z.1 ak (by decide),((Vg z.2 ak).1 rfl).2⟩⟩) (λh=>Y.no λz=> ?_);rw[((Vg z.2 ak).1 rfl).1] at h;cases h
   |step h9 ho=>
    obtain⟨u,rfl⟩:=List.length_eq_one_iff.1 hnk;have hlv:=(ai6 hrt hE' (j:=0) (u:=u) rfl).2.2 ak;rcases h9 with rfl|rfl
    ·obtain⟨r,e,hr⟩:=hPm 0 u rfl (a+1) c ak h2 ak;simp only[Int.reduceBEq,bne,zaZ,Bool.not_false,aJ,aW,ah];simp only[e1,ah,Qr,<-e2,w2,one rfl,cI0,e];refine Y.bif (λ_=>⟨r,rfl,λz=>hr ⟨hlv,_,jJ z.1 ak (by show(13:Int)≠0;decide),((Vg z.2 ak).2.1 rfl).2⟩⟩) (λh=>Y.no λz=> ?_);rw[((Vg z.2 ak).2.1 rfl).1,nY] at h;exact h rfl
    ·obtain⟨r,e,hr⟩:=hPm 0 u rfl a (c - 1) ak ak ak;simp only[Int.reduceBEq,bne,zaZ,Bool.not_false,aJ,aW,ah];simp only[w3,f1,ah,Qr,<-f2,one rfl,cI0,e];refine Y.bif (λ_=>⟨r,rfl,λz=>hr ⟨hlv,_,jJ z.1 ak (by show(13:Int)≠0;decide),((Vg z.2 ak).2.2.1 rfl).2.2⟩⟩) (λh=>Y.no λz=> ?_);rw[((Vg z.2 ak).2.2.1 rfl).1,nY] at h;exact h rfl
   |una ho=>obtain⟨u,rfl⟩:=List.length_eq_one_iff.1 hnk;have hk0:=hkp (by simp) (by simp);rw[x9,show([u]:List Tn).length=1 from rfl] at hk0;obtain⟨r,e,hr⟩:=hKm 0 u rfl (a+1) c ak h2 ak (cO 11 op 1 0 p);simp only[Int.reduceBEq,bne,zaZ,Bool.not_false,aJ,aW,ah];simp only[e1,ah,Qr,<-e2,w2,one rfl,cI0];rw[hk0];simp only[ah,e];refine Y.bif (λ_=>⟨r,rfl,λz=>hr ⟨jJ z.1 ak (by show(11:Int)≠0;decide),((Vg z.2 ak).2.2.2 rfl).2⟩⟩) (λh=>Y.no λz=> ?_);rw[((Vg z.2 ak).2.2.2 rfl).1,nY] at h;exact h rfl
   |bin ho=>
    obtain⟨u,v,rfl⟩:=amL hnk;simp only[Int.reduceBEq,bne,zaZ,Bool.not_false,aJ,aW,ah];rw[M.XQ];obtain⟨r,e,hr⟩:=aUm (pt:=M.H9 q) hl ho hL (hK w q ak) p hac h2 hw;simp only[Tn.kids] at e
    try dsimp only
    rw[e];exact⟨r,rfl,hr⟩
   |cond=>
    obtain⟨u,v,z,rfl⟩:=apO hnk;simp only[Int.reduceBEq,bne,zaZ,Bool.not_false,aJ,aW,ah];rw[M.aiw];obtain⟨r,e,hr⟩:=aHm hl (hK w q ak) p hac h2 hw
    try dsimp only
    rw[e];exact⟨r,rfl,hr⟩
   |asg ho=>
    obtain⟨u,v,rfl⟩:=amL hnk;have hlv:=(ai6 hrt hE' (j:=0) (u:=u) rfl).2.2 ak;simp only[Int.reduceBEq,bne,zaZ,Bool.not_false,aJ,aW,ah];rw[M.XQ];obtain⟨r,e,hr⟩:=aUn hl ho hlv hL (hK w q ak) (hP w q ak 0 u rfl) p hac h2 hw;simp only[Tn.kids] at e
    try dsimp only
    rw[e];exact⟨r,rfl,hr⟩
   |none h=>omega
   |prn _ _ _=>omega
   |prt _ _ _ _=>omega
   |word h _=>omega
   |if_ _=>omega
   |two h=>omega
   |for_=>omega
   |aEm _ _=>omega
   |many h=>omega
   |com _=>omega
   |rule _=>omega
   |range _=>omega
   |func _ _ _=>omega
  intro w;induction w using Nat.strongRecOn with
  |_ w ihw=>
   intro n hn;obtain⟨m,rfl⟩:∃m,n=m+1:=⟨n - 1,ak⟩
   rw[M.amx];exact a1u hl (λw' hw'=>ihw w' ak m ak) (hNd w m ak) (hD b _ hL) hL
end Go.Proofs.YthmchnpcplgciaaGreatDoor
namespace Go.Proofs.YthmchnpcplgciaaGreatDoor
open Go Go.Vm
def aql(k:Int)(x:aI)(ts:List Tk):aA ts++[[D.int .i64 k,D.str x,D.int .i64 0]]=aA (ts++[⟨k,x,0⟩]):=by simp[aA,UG]
def au0{ks:List Tn}{j:Nat}{u:Tn}(h:ks[j]? =some u):TF (ks.drop j)=zT u+TF (ks.drop (j+1)):=by have hj:=Qm.1 h;rw[List.drop_eq_getElem_cons hj.1,hj.2,TF]
mutual
def aqm:∀t:Tn,zT t<=t.size
 | .mk k _ _ _ ks=>by
  have h1:=aev ks;have h2:am0 k<=1:=by unfold am0;cases(decide (1<=k) && decide (k<=5)||(k==7||(k==8||k==13)))<;>decide
  rw[zT,Tn.size];omega
def aev:∀ts:List Tn,TF ts<=sizes ts
 |[]=>zba _
 |t::ts=>by have h1:=aqm t;have h2:=aev ts;rw[TF,sizes];omega
end
variable {L:List Nd}
def aDy(hLl:L.length<=1000):∀(s:Nat) (t:Tn),t.size<=s->∀b,Lies L b t->∀n,t.size<=n->∃ts:List Tk,M.nD n (aP false L) ((b+sizes t.kids:Nat):Int)=some (aA ts)/\ts.length=zT t:=by
 intro s;induction s with
 |zero=>intro t ht;have:=t.Hw;omega
 |succ s ih=>
  intro t hts b hL n hn;obtain⟨k,op,x,y,ks⟩:=t;have hsz:(Tn.mk k op x y ks).size=sizes ks+1:=by rw[Tn.size]
  obtain⟨m,rfl⟩:∃m,n=m+1:=⟨n - 1,ak⟩
  have hlt:=hL.lt;have hcs:=aev ks;have hll:=zW ks;have loop:∀(f:Int) (g:aI) (e:Int) (d j:Nat) (acc:List Tk),ks.length - j=d->j<=ks.length->acc.length<=1+TF ks->acc.length+TF (ks.drop j)<=1+TF ks->
    ∃acc':List Tk,M.nS (M.nD m) (aP false L) k op x y (encI (ends ks b)) f g e ((j:Int),aA acc)=some ((ks.length:Int),aA acc')/\acc'.length=acc.length+TF (ks.drop j):=by
   intro f g e d;induction d with
   |zero=>intro j acc hd hj ha hb;obtain rfl:j=ks.length:=ak;refine⟨acc, ?_,by rw[List.drop_length];rfl⟩;rw[M.nS];refine aQ ?_;simp only[I7,M.KP,M.zh,dV,jM];rw[rF ak,aW]
   |succ d ihd=>
    intro j acc hd hj ha hb;obtain⟨u,hu⟩:∃u,ks[j]? =some u:=⟨ks[j]'ak,by simp⟩
    have hus:=Ew (ZF hu);obtain⟨ts,h1,h2⟩:=ih u ak _ (Lies.abH hL hu) m ak;have hcd:=au0 hu;rw[hcd] at hb;obtain⟨acc',h3,h4⟩:=ihd (j+1) (acc++ts) ak ak (by rw[PD,h2];omega) (by rw[PD,h2];omega);refine⟨acc', ?_,by rw[h4,PD,h2,hcd];omega⟩;rw[M.nS] at h3|-;rw[bI (s':=(((j+1:Nat):Int),aA (acc++ts))) ?_]
    ·exact h3
    ·have wj:i64.wrap ((j:Int)+1)=((j+1:Nat):Int):=by rw[aK ak ak];omega
     simp only[I7,M.KP,M.zh,dV,jM,Rf hu,ah,cI0,h1,aX,wj];rw[zdt ak,aJ,fM ak,fM ak,aJ,aJ];simp[aA]
  have hrow:=ada hL;have fin:∀(acc:List Tk),acc.length<=1+TF ks->∃ts:List Tk,(M.lH k op x y (encI (ends ks b))).bind (λqR=>M.qM k ((ks.length:Int),aA acc) x qR some)=some (aA ts)/\
    ts.length=acc.length+(if k=13 then 1 else 0)+(if 1<=k/\k<=4 then 1 else 0):=by
   intro acc ha;have b1:∀z,z<=100000->(z * 32).ble 140737488355328=true:=λz hz=>fM ak
   have b2:∀z,z<=100000->z.ble 140737488355328=true:=λz hz=>fM ak
   simp only[M.lH,M.Ag,M.qM]
   by_cases h1:k=1
   ·subst h1;simp only[Int.reduceBEq,bne,Bool.not_false,aJ,aW,ah,aql,dn,aX,TG];rw[b1 _ ak,b2 _ ak,aJ,aJ];exact⟨_,rfl,by simp⟩
   by_cases h2:k=2
   ·subst h2;simp only[Int.reduceBEq,bne,Bool.not_false,aJ,aW,ah,aql,dn,aX,TG];rw[b1 _ ak,b2 _ ak,aJ,aJ];exact⟨_,rfl,by simp⟩
   by_cases h3:k=3
   ·subst h3;simp only[Int.reduceBEq,bne,Bool.not_false,aJ,aW,ah,aql,dn,aX,TG];rw[b1 _ ak,b2 _ ak,aJ,aJ];exact⟨_,rfl,by simp⟩
   by_cases h4:k=4
   ·subst h4;simp only[Int.reduceBEq,bne,Bool.not_false,aJ,aW,ah,aql,dn,aX,TG];rw[b1 _ ak,b2 _ ak,aJ,aJ];exact⟨_,rfl,by simp⟩
   rw[nY.2 h1,nY.2 h2,nY.2 h3,nY.2 h4];simp only[aW,ah,show((0:Int) !=0)=false from rfl]
   by_cases h13:k=13
   ·subst h13;simp only[Int.reduceBEq,aJ,aql,dn,aX,TG];rw[b1 _ ak,b2 _ ak,aJ,aJ];exact⟨_,rfl,by simp⟩
   ·rw[nY.2 h13];simp only[aW,dn,aJ];exact⟨acc,rfl,by rw[if_neg h13,if_neg ak];omega⟩
  have own:zT (Tn.mk k op x y ks)=(if k=5\/k=7\/k=8 then 1 else 0)+TF ks+(if k=13 then 1 else 0)+(if 1<=k/\k<=4 then 1 else 0):=by
   rw[zT];unfold am0
   by_cases h5:k=5\/k=7\/k=8
   ·rw[if_pos h5,if_neg ak,if_neg ak];have:(decide (1<=k) && decide (k<=5)||(k==7||(k==8||k==13)))=true:=by rcases h5 with h|h|h<;>subst h<;>rfl
    rw[this,aJ];omega
   ·by_cases h13:k=13
    ·rw[if_neg h5,if_pos h13,if_neg ak];subst h13;show 1+_=_;omega
    ·by_cases h14:1<=k/\k<=4
     ·rw[if_neg h5,if_neg h13,if_pos h14,zdt h14.1,zdt ak];show 1+_=_;omega
     ·rw[if_neg h5,if_neg h13,if_neg h14];have:(decide (1<=k) && decide (k<=5)||(k==7||(k==8||k==13)))=false:=by
       rw[Bool.or_eq_false_iff];refine⟨?_, ?_⟩
       ·by_cases h1:1<=k
        ·rw[rF (show¬k<=5 by omega),Bool.and_false]
        ·rw[rF h1,Bool.false_and]
       ·rw[nY.2 (show k≠7 by omega),nY.2 (show k≠8 by omega),nY.2 h13];rfl
      rw[this,aW];omega
  have lf:∃r,M.lH k op x y (encI (ends ks b))=some r:=by simp only[M.lH,M.Ag];cases k==1<;>cases k==2<;>cases k==3<;>cases k==4<;>exact⟨_,rfl⟩
  obtain⟨r,hr⟩:=lf;rw[M.nD];simp only[I7,M.Ho,M.qM,hrow];simp only[ah,cN0,cN1,cN2,cN3,cN4,Tn.kind,Tn.op,Tn.text,Tn.other,Tn.kids,hr];rw[hr] at fin;simp only[ah] at fin;have start:∀acc0:List Tk,acc0.length=(if k=5\/k=7\/k=8 then 1 else 0)->∃ts:List Tk,((M.nS (M.nD m) (aP false L) k op x y (encI (ends ks b)) r.1 r.2.1 r.2.2 (0,aA acc0)).bind λt=>M.qM k t x r some)=some (aA ts)/\ts.length=zT (Tn.mk k op x y ks):=by
   intro acc0 h0;have ha:acc0.length<=1:=by rw[h0];split<;>omega
   obtain⟨acc,h1,h2⟩:=loop r.1 r.2.1 r.2.2 ks.length 0 acc0 ak (Nat.zero_le _) ak (by rw[List.drop_zero];omega);rw[List.drop_zero] at h2;obtain⟨ts,h3,h4⟩:=fin acc ak;rw[x9] at h1;rw[h1,ah];exact⟨ts,h3,by rw[h4,own,h2,h0]⟩
  by_cases h5:k=5
  ·subst h5;exact start [⟨6,x,0⟩] (by simp)
  by_cases h7:k=7
  ·subst h7;exact start [⟨7,x,0⟩] (by simp)
  by_cases h8:k=8
  ·subst h8;exact start [⟨8,x,0⟩] (by simp)
  rw[nY.2 h5,nY.2 h7,nY.2 h8];simp only[aW];exact start [] (by rw[if_neg ak];rfl)
def au1{l:List Tk}{T:Tn}{p:Ps}{h:Bool}(hl:l.length<=400)(hf:∀t,t∈l->I64 t.kind/\t.text.length<=1048576)(ht:KT l=true)(hn:Np l<0)(hrt:rtT T)(hE:isE T)(hz:T.size<=400)(hx:M.oW (aP false (T.flat 0))=some true)
  (hp:gY p=true) (hd:Dx l (.dv h T p) 0 l.length):M.Cc (aA l) (aP false (T.flat 0)) p.level p.gU p.nN p.oC p.fD=some true:=by
 have hT:=(ZA l ak hf).1;have hN:=(aen l ak).1;have hLl:(T.flat 0).length=T.size:=T.flat_length 0;have hT1:=T.Hw;have hy:∀b t,Lies (T.flat 0) b t->∃ts:List Tk,M.jc (aP false (T.flat 0)) ((b+sizes t.kids:Nat):Int)=some (aA ts)/\ts.length=zT t:=λb t hL=>by obtain⟨ts,h1,h2⟩:=aDy (L:=T.flat 0) ak t.size t (zba _) b hL t.size (zba _);exact⟨ts,M.ad9 h1,h2⟩
 have hz':∀i,i<T.size->∃ts:List Tk,M.jc (aP false (T.flat 0)) (i:Int)=some (aA ts)/\ts.length<=1000:=λi hi=>by obtain⟨u,c,h1,h2⟩:=aDw T 0 (Lies.whole T) i (Nat.zero_le _) ak;obtain⟨ts,h3,h4⟩:=hy c u h1;rw[h2] at h3;have h5:=aqm u;have h6:=h1.lt;exact⟨ts,h3,ak⟩
 let g:Nat->Int:=λi=>match M.jc (aP false (T.flat 0)) (i:Int) with|some r=>(r.length:Int)|none=>0
 have loop:∀(d i:Nat),T.size - i=d->1<=i->i<=T.size->
   dU M.Dz (.inr (aA l,aP false (T.flat 0),(i:Int),p.level,p.gU,p.nN,p.oC,p.fD,aA l,aP false (T.flat 0),(List.range i).map λj=>[D.int .i64 (g j)]))=
    some (.inr (aA l,aP false (T.flat 0),(T.size:Int),p.level,p.gU,p.nN,p.oC,p.fD,aA l,aP false (T.flat 0),(List.range T.size).map λj=>[D.int .i64 (g j)])):=by
  intro d;induction d with
  |zero=>intro i hd h1 h2;obtain rfl:i=T.size:=ak;refine aQ ?_;simp only[I7,M.Dz,M.yG,dI,hLl];rw[rF ak,aW]
  |succ d ih=>
   intro i hd h1 h2;obtain⟨ts,e1,e2⟩:=hz' i ak;have hgi:g i=((aA ts).length:Int):=by show(match M.jc (aP false (T.flat 0)) (i:Int) with|some r=>(r.length:Int)|none=>0)=_;rw[e1]
   have wi:i64.wrap ((i:Int)+1)=((i+1:Nat):Int):=by rw[aK ak ak];omega
   rw[<-ih (i+1) ak ak ak];refine bI ?_;simp only[I7,M.Dz,M.yG,dI,hLl,e1,ah,wi,zbb,List.length_range,TG];rw[zdt ak,aJ,fM ak,fM ak,aJ,aJ,List.range_succ,List.map_append,<-hgi];rfl
 have hD:∀b t,Lies (T.flat 0) b t->((List.range T.size).map λj=>[D.int IntKind.i64 (g j)])[b+sizes t.kids]? =some [D.int .i64 (zT t)]:=λb t hL=>by
  have hlt:=hL.lt;have:=t.Hw;obtain⟨ts,e1,e2⟩:=hy b t hL;have hgi:g (b+sizes t.kids)=(zT t:Int):=by show(match M.jc (aP false (T.flat 0)) ((b+sizes t.kids:Nat):Int) with|some r=>(r.length:Int)|none=>0)=_;rw[e1];show((aA ts).length:Int)=_;rw[aX,e2]
  rw[List.getElem?_map,List.getElem?_range ak,Ht,hgi]
 have hat:=aUq (L:=T.flat 0) hl hD T.size T (zba _) hrt hE 0 (Lies.whole T) l.length _ (zba _) 0 l.length (Nat.zero_le _) (zba _) ak p;obtain⟨r,e,hr⟩:=hat;obtain rfl:r=true:=hr ⟨hp,h,hd⟩;have he:=M.ajT e;have wr:i64.wrap ((T.size:Int) - 1)=((0+sizes T.kids:Nat):Int):=by rw[aK ak ak];omega
 obtain⟨ts,y1,y2⟩:=hz' 0 ak;have hg0:g 0=((aA ts).length:Int):=by show(match M.jc (aP false (T.flat 0)) ((0:Nat):Int) with|some r=>(r.length:Int)|none=>0)=_;rw[y1]
 rw[x9] at y1 he;have first:M.Hr (.inl (aA l,aP false (T.flat 0),0,p.level,p.gU,p.nN,p.oC,p.fD,aA l,aP false (T.flat 0)))=
   some (.inr (aA l,aP false (T.flat 0),(T.size:Int),p.level,p.gU,p.nN,p.oC,p.fD,aA l,aP false (T.flat 0),(List.range T.size).map λj=>[D.int .i64 (g j)])):=by
  rw[M.Hr,<-loop (T.size - 1) 1 ak ak ak];refine bI ?_;simp only[I7,M.Dz,M.yG,dI,hLl,y1,ah];rw[zdt ak,aJ,<-hg0];rfl
 simp only[M.Cc,M.OX,hT,ht,hx,af8 p,hp,hN,ah,zaZ,aW,aX];rw[rF ak,aW,rF ak,aW,first,ah];show((M.jW (aA l) (aP false (T.flat 0)) _ _ _ _ _ _ _ _ _).bind λaxo=>some axo)=_;rw[dI,hLl,wr,aX,he];rfl
end Go.Proofs.YthmchnpcplgciaaGreatDoor
namespace Go.Proofs.YthmchnpcplgciaaGreatDoor
open Go Go.Vm
def aln{t:Tn}(hs:t.size<=1048576)(o w:Bool):∃k,M.zn (aP o (t.flat 0))=some (k,0)/\M.BZ t.kind t.op t.text t.other (iV w t.kids)=some (k,0)/\(k=0↔t.size<=400/\depth (t.flat 0)<=40):=by
 have a1:=M.acH (asV w t.size t t.kind t.op t.text t.other (zba _) hs);have a2:=M.Ur (ap0 w t.size t t.kind t.op t.text t.other (zba _) hs);simp only[M.zn,M.OL,M.BZ,M.Ox,dI,t.flat_length,a1,ah]
 by_cases h4:t.size<=400
 ·rw[rF ak,aW,aW,XT _ o (by rw[t.flat_length];omega) (λn hn=>by have:=(KF t 0 n hn).1;omega),depth,aiY t h4,if_pos rfl,t.flat_length,a2,ah,ah];have hk:=t.Hw;have e:=ap1 t.size t 0 (Lies.whole t);rw[show 0+sizes t.kids=t.size - 1 by omega] at e;rw[e];cases hd:decide (dF t.size t>40) with
  |true=>exact⟨4,rfl,rfl,λh=>absurd h (by decide),λh=>by rw[decide_eq_true_eq] at hd;omega⟩
  |false=>exact⟨0,rfl,rfl,λ_=>⟨h4,by simpa using hd⟩,λ_=>rfl⟩
 ·rw[zdt ak];exact⟨1,rfl,rfl,λh=>absurd h (by decide),λh=>absurd h.1 h4⟩
variable {l:List Tk}
def AX.aUr{i:Nat}{o o':Option TX}{p:PR Xp}(h:AX l i o p)(hof:∀r,o=some r->o'=some r):AX l i o' p:=by
 cases p with
 |out=>trivial
 |bad j=>obtain⟨fl,rows,hd,ns,R,h1,h2,h3,h4,h5,e⟩:=h;exact⟨fl,rows,hd,ns,R,h1,h2,h3,h4,h5,hof _ e⟩
 |ok x j nt=>obtain⟨fl,rows,ns,h1,h2,e⟩:=h;exact⟨fl,rows,ns,h1,h2,hof _ e⟩
def aHp(hl:l.length<=3000)(n:Nat){lv:Nat}(hc:lv=1\/lv=2\/lv=3\/lv=4\/lv=5\/lv=6\/lv=7\/lv=8\/lv=9\/lv=10\/lv=11\/lv=12\/lv=13\/lv=14\/lv=15)(p1 a b p4:Bool):
  AX l 0 (M.fC (lv:Int) p1 a b p4 (aA l) 0 false []) (ex l n lv a b 0 []):=by
 have R:=RX.of hl n (zba _);have H:∀{lv:Nat},AX l 0 (M.aY (4 * n+20) (lv:Int) p1 a b p4 (aA l) ((0:Nat):Int) false (aA [])) (ex l n lv a b 0 (txt []))->AX l 0 (M.fC (lv:Int) p1 a b p4 (aA l) 0 false []) (ex l n lv a b 0 []):=by intro lv h;rw[x9] at h;exact h.aUr λr h=>M.ajP h
 rcases hc with rfl|rfl|rfl|rfl|rfl|rfl|rfl|rfl|rfl|rfl|rfl|rfl|rfl|rfl|rfl
 ·exact H (R.a1 a b 0 [] (Nat.zero_le _) (zba _))
 ·exact H (R.a2 a b 0 [] (Nat.zero_le _) (zba _))
 ·exact H (R.a3 a b 0 [] (Nat.zero_le _) (zba _))
 ·exact H (R.a4 a b 0 [] (Nat.zero_le _) (zba _))
 ·exact H (R.a5 a b 0 [] (Nat.zero_le _) (zba _))
 ·exact H (R.a6 a b 0 [] (Nat.zero_le _) (zba _))
 ·exact H (R.a7 a b 0 [] (Nat.zero_le _) (zba _))
 ·exact H (R.a8 a b 0 [] (Nat.zero_le _) (zba _))
 ·exact H (R.a9 a b 0 [] (Nat.zero_le _) (zba _))
 ·exact H (R.a10 a b 0 [] (Nat.zero_le _) (zba _))
 ·exact H (R.a11 a b 0 [] (Nat.zero_le _) (zba _))
 ·exact H (R.a12 a b 0 [] (Nat.zero_le _) (zba _))
 ·exact H (R.a13 a b 0 [] (Nat.zero_le _) (zba _))
 ·exact H (R.a14 a b 0 [] (Nat.zero_le _) (zba _))
 ·exact H (R.a15 a b 0 [] (Nat.zero_le _) (zba _))
noncomputable abbrev peF(l:List Tk)(o:Option TX):Option zaX:=o.bind λr=>
 bif r.2.2.2.2.2.1 then(M.lS (aA l) r.2.2.2.2.1 3).bind λf=>some (true,[],0,f.1,f.2) else
 (M.zn (aF r.2.1)).bind λz=>bif z.1 !=0 then some (true,[],0,z.1,z.2) else some (false,aF r.2.1,r.2.2.2.2.1,0,0)
def PeR(l:List Tk)(p:Ps)(q:List Nd)(j k pl:Int):Prop:=(k≠0/\q=[]/\j=0)\/(k=0/\pl=0/\gY p=true/\KT l=true/\Np l<0/\∃T h nt,∃i:Nat,peP l (40 * l.length+40) p=.ok (T,h) i nt/\j=i/\q=T.flat 0/\T.size<=400/\depth (T.flat 0)<=40)
def aHq(l:List Tk)(p:Ps)(hp:gY p=true):(peP l (40 * l.length+40) p).tot λx j _=>0<j:=by
 obtain⟨lv,hlv,hc,hd⟩:=RG hp;unfold peP;rw[hlv,Yf];refine pV.2 ⟨λ_=>trivial,λ_=>pV.2 ⟨λh=> ?_,λ_=> ?_⟩⟩
 ·rw[wo] at h;exact fE ((axP l (40 * l.length+40)).pre 0 [] (eF (xC h.2)) ak) λ_ _ _ h=>h
 ·exact fE ((axP l (40 * l.length+40)).ex lv p.nN p.oC 0 [] ak ak ak) λ_ _ _ h=>h
def am8(l:List Tk)(hl:l.length<=1048576)(hf:∀t,t∈l->I64 t.kind/\t.text.length<=1048576)(p:Ps):
  ∃fl q j k pl,M.xI (aA l) p.level p.gU p.nN p.oC p.fD=some (fl,aP false q,j,k,pl)/\M.oK (aA l) p.level p.gU p.nN p.oC p.fD=some (aP true q,j,k,pl)/\PeR l p q j k pl:=by
 have hT:=ZA l hl hf;simp only[M.xI,M.Kz,M.Dn,M.IL,M.oK,M.ES,(aiO p).1,(aiO p).2,ah,M.BU,M.Jm,hT.1,hT.2];cases hp:gY p with
 |false=>exact⟨true,[],0,3,0,rfl,rfl,.inl ⟨by decide,rfl,rfl⟩⟩
 |true=>
 cases ht:KT l with
 |false=>exact⟨true,[],0,2,0,rfl,rfl,.inl ⟨by decide,rfl,rfl⟩⟩
 |true=>
 have h3:l.length<=3000:=by rw[KT,wo,decide_eq_true_eq] at ht;exact ht.1
 have hN:=aen l h3;simp only[zaZ,aW,hN.1,hN.2,ah]
 by_cases hn:Np l<0
 ·rw[rF ak,aW,aW];simp only[aJ,aW,ah,show((0:Int)==0)=true from rfl,zaZ];obtain⟨lv,hlv,hc,hd⟩:=RG hp;have hi:=aqf (l:=l) hl (40 * l.length+40) hp;have hto:=aHq l p hp;obtain⟨lvI,d,a,b,s⟩:=p;simp only at hlv hd;subst hlv;simp only at hi|-;have hs:∃o,AX l 0 o (peP l (40 * l.length+40) ⟨lv,d,a,b,s⟩)/\(bif s then
     (bif((aA l).length:Int)==0 then((M.lS (aA l) 0 3).bind λaoL=>some (true,([]:au),(0:Int),aoL.fst,aoL.snd)) else
     ((idx (aA l) 0).bind λamq=>
      ((dG IntKind.i64 amq 0).bind λawW=>
      ((M.iy awW).bind λawX=>
       (bif !awX then((M.lS (aA l) 0 3).bind λaoM=>some (true,[],0,aoM.fst,aoM.snd)) else
       (bif d then
        ((M.aV (aA l) 0 false []).bind λJz=>
        ((M.kR Jz.fst).bind λawV=>
         (bif awV then
         (bif aj Jz.snd.snd.snd.snd then peF l (M.ql (lv:Int) d a b s Jz.snd.fst Jz.snd.snd.fst Jz.snd.snd.snd.fst Jz.snd.snd.snd.snd) else none) else
         (bif aj Jz.snd.snd.snd.snd then peF l (M.fC (lv:Int) d a b s Jz.snd.fst Jz.snd.snd.fst Jz.snd.snd.snd.fst Jz.snd.snd.snd.snd) else none)))) else
        peF l (M.fC (lv:Int) d a b s (aA l) 0 false []))))))) else
     (bif d then
     ((M.aV (aA l) 0 false []).bind λJH=>
      ((M.kR JH.fst).bind λayR=>
      (bif ayR then
       (bif aj JH.snd.snd.snd.snd then peF l (M.ql (lv:Int) d a b s JH.snd.fst JH.snd.snd.fst JH.snd.snd.snd.fst JH.snd.snd.snd.snd) else none) else
       (bif aj JH.snd.snd.snd.snd then peF l (M.fC (lv:Int) d a b s JH.snd.fst JH.snd.snd.fst JH.snd.snd.snd.fst JH.snd.snd.snd.snd) else none)))) else
     peF l (M.fC (lv:Int) d a b s (aA l) 0 false [])))=peF l o:=by
   have hat:∀p1 p4:Bool,AX l 0 (M.fC (lv:Int) p1 a b p4 (aA l) 0 false []) (ex l (40 * l.length+40) lv a b 0 []):=λp1 p4=>aHp h3 (40 * l.length+40) hc p1 a b p4
   have hk0:M.aV (aA l) 0 false []=some (aO l 0,aA l,0,false,[]):=by have:=pJ (l:=l) 0 false [];rw[x9] at this;exact this
   have hfl:aj ([]:au)=true:=rfl;have tail:∃o,AX l 0 o (bif d && isStep (aO l 0) then I8 l (40 * l.length+40) 0 [] else ex l (40 * l.length+40) lv a b 0 [])/\(bif d then
     ((M.aV (aA l) 0 false []).bind λJH=>
      ((M.kR JH.fst).bind λayR=>
      (bif ayR then
       (bif aj JH.snd.snd.snd.snd then peF l (M.ql (lv:Int) d a b s JH.snd.fst JH.snd.snd.fst JH.snd.snd.snd.fst JH.snd.snd.snd.snd) else none) else
       (bif aj JH.snd.snd.snd.snd then peF l (M.fC (lv:Int) d a b s JH.snd.fst JH.snd.snd.fst JH.snd.snd.snd.fst JH.snd.snd.snd.snd) else none)))) else
     peF l (M.fC (lv:Int) d a b s (aA l) 0 false []))=peF l o:=by
    cases d with
    |false=>exact⟨_,hat _ _,rfl⟩
    |true=>
     rw[Bool.true_and,aJ,hk0,ah,agc,ah];simp only[hfl,aJ];cases hst:isStep (aO l 0) with
     |false=>rw[aW,aW];exact⟨_,hat _ _,rfl⟩
     |true=>rw[aJ,aJ];have hpre:=(RX.of h3 (40 * l.length+40) (zba _)).pre (lv:Int) true a b s 0 [] (eF (xC hst)) (zba _) hst;rw[x9] at hpre;exact⟨_,hpre.aUr λr h=>M.air h,rfl⟩
   unfold peP;simp only[Yf];cases s with
   |false=>rw[Bool.false_and,aW,aW];exact tail
   |true=>
    rw[Bool.true_and,aJ];have aUs:∀{o:Option zaX},((M.lS (aA l) 0 3).bind λf=>some (true,([]:au),(0:Int),f.1,f.2))=o->∃o',AX l 0 o' (.bad 0)/\o=peF l o':=fun{o} h=>⟨some (false,[],false,aA l,((0:Nat):Int),true,aA []),⟨false,[],false,[],[],zba _,Nat.zero_le _,Nat.zero_le _,rfl,⟨Nat.zero_le _,λn h=>by cases h⟩,rfl⟩,by rw[<-h];rfl⟩
    cases l with
    |nil=>obtain⟨o',h1,h2⟩:=aUs rfl;exact⟨o',h1,h2⟩
    |cons t r=>
     have e1:(((aA (t::r)).length:Int)==0)=false:=by rw[nY,aX,ZE];omega
     have e2:idx (aA (t::r)) 0=some (UG t):=rfl;have e3:aO (t::r) 0=t.kind:=rfl;rw[e1,aW,e2,ah,Qr,ah,ayz,ah,e3];cases hb:O9 t.kind with
     |false=>exact aUs rfl
     |true=>rw[zaZ,aW,aW,<-e3];exact tail
  obtain⟨o,ho,hs⟩:=hs;simp only[peF] at hs;simp only[hs];have hsz:(peP l (40 * l.length+40) ⟨lv,d,a,b,s⟩).sat λx j m=>x.1.size<=90000:=by
   unfold peP;simp only[Yf];cases s && !(O9 (aO l 0)) with
   |true=>trivial
   |false=>
    rw[aW];cases hq:d && isStep (aO l 0) with
    |true=>rw[wo] at hq;exact dR ((sats l (40 * l.length+40)).pre 0 [] (eF (xC hq.2))) λx j m h=>by omega
    |false=>rw[aW];exact dR ((sats l (40 * l.length+40)).ex lv a b 0 [] ak ak (Nat.zero_le _)) λx j m h=>by omega
  generalize hg:peP l (40 * l.length+40) ⟨lv,d,a,b,s⟩=R at hi ho hto hsz;cases R with
  |out=>exact hto.elim
  |bad j=>
   obtain⟨fl,rows,hd,ns,R,g1,g2,g3,g4,g5,rfl⟩:=ho;obtain⟨k,op,x,y,fl,ks,tg,nt,hn,hi⟩:=hi;obtain⟨pl,p1,p2⟩:=ap3 l h3 j;refine⟨true,[],0,3,pl, ?_, ?_,.inl ⟨by decide,rfl,rfl⟩⟩
   ·simp only[ah,aJ,p2];rfl
   ·simp only[hi,ah,aJ,p1];rfl
  |ok x j nt=>
   obtain⟨fl,rows,ns,g1,g2,rfl⟩:=ho;obtain⟨fl',ks,k1,hi⟩:=hi;have hsz:x.1.size<=90000:=hsz;obtain⟨k,b1,b2,b3⟩:=aln (t:=x.1) ak false false;simp only[ah,aW,g1,b1,hi,k1,b2,bV];cases hk:k==0 with
   |false=>
    have hk':k≠0:=by rwa [nY] at hk
    refine⟨true,[],0,k,0, ?_, ?_,.inl ⟨hk',rfl,rfl⟩⟩
    ·simp only[bne,hk,Bool.not_false,aJ];rfl
    ·simp only[hk,aW,Bool.not_false,aJ];rfl
   |true=>
    have ek:k=0:=by rwa [beq_iff_eq] at hk
    subst ek;have hli:M.rU x.1.kind x.1.op x.1.text x.1.other (iV false x.1.kids)=some (aP true (x.1.flat 0)):=asD (t:=x.1) ak;refine⟨false,x.1.flat 0,j,0,0, ?_, ?_,.inr ⟨rfl,rfl,hp,ht,hn,x.1,x.2,nt,j,hg,rfl,rfl,b3.1 rfl⟩⟩
    ·simp only[bne,hk,zaZ,aW]
    ·simp only[hk,aJ,zaZ,aW,hli,ah]
 ·obtain⟨j,hj⟩:∃j:Nat,Np l=j:=⟨(Np l).toNat,ak⟩
  obtain⟨pl,p1,p2⟩:=ap3 l h3 j;rw[zdt ak,aJ,aJ,hj,p2,p1];exact⟨true,[],0,4,pl,rfl,rfl,.inl ⟨by decide,rfl,rfl⟩⟩
end Go.Proofs.YthmchnpcplgciaaGreatDoor
namespace Go.Proofs.YthmchnpcplgciaaGreatDoor
open Go Go.Vm
variable {l:List Tk}
def aDz{g:Tg}{i j:Nat}(h:Dx l g i j){n:Nat}:j<=n->Dx (l.take n) g i j:=by
 have kt:∀k,k<n->aO (l.take n) k=aO l k:=λk hk=>by unfold aO;rw[List.getElem?_take,if_pos hk]
 have xt:∀k,k<n->xB (l.take n) k=xB l k:=λk hk=>by unfold xB;rw[List.getElem?_take,if_pos hk]
 have pt:∀a b,b<=n->pst l a b->pst (l.take n) a b:=λa b hb h=>⟨h.1,λk h1 h2=>by rw[kt k ak];exact h.2 k h1 h2⟩
 induction h with
 |par ho d hc ih=>intro hn;have:=zi d;exact .par (by rw[kt _ ak];exact ho) (ih ak) (by rw[kt _ ak];exact hc)
 |node hf d ih=>exact λhn=> .node hf (ih hn)
 |one d ih=>exact λhn=> .one (ih hn)
 |cons d hk hj d2 ih1 ih2=>intro hn;have:=zi d2;have:=hj.1;exact .cons (ih1 ak) (by rw[kt _ ak];exact hk) (pt _ _ ak hj) (ih2 hn)
 |@name p i hk=>intro hn;rw[<-xt i ak];exact .name (by rw[kt _ ak];exact hk)
 |@leaf k p i h3 hk=>intro hn;rw[<-xt i ak];exact .leaf h3 (by rw[kt _ ak];exact hk)
 |@index ks p i j hk ho d h6 hc ih=>intro hn;have:=zi d;rw[<-xt i ak];exact .index (by rw[kt _ ak];exact hk) (by rw[kt _ ak];exact ho) (ih ak) h6 (by rw[kt _ ak];exact hc)
 |@call k ks p i j h7 hk ho d h6 hc ih=>intro hn;have:=zi d;rw[<-xt i ak];exact .call h7 (by rw[kt _ ak];exact hk) (by rw[kt _ ak];exact ho) (ih ak) h6 (by rw[kt _ ak];exact hc)
 |@Lm k p i h7 hk ho hc=>intro hn;rw[<-xt i ak];exact .Lm h7 (by rw[kt _ ak];exact hk) (by rw[kt _ ak];exact ho) (by rw[kt _ ak];exact hc)
 |@len p i hk hx ho=>
  intro hn;rw[<-xt i ak];refine .len (by rw[kt _ ak];exact hk) (by rw[xt _ ak];exact hx) λe=>ho ?_
  by_cases h:i+1<n
  ·rw[<-kt _ h];exact e
  ·unfold aO at e;rw[List.getElem?_take,if_neg h] at e;cases e
 |field hk d ih=>intro hn;have:=zi d;exact .field (by rw[kt _ ak];exact hk) (ih hn)
 |@pre u p i j hk hl d ih=>intro hn;have:=zi d;have e:=kt i ak;rw[<-e] at hk ih|-;exact .pre hk hl (ih hn)
 |@post u p i j hk hl d ih=>intro hn;have e:=kt j ak;rw[<-e] at hk ih|-;exact .post hk hl (ih ak)
 |@una h u p i j hk d ih=>intro hn;have:=zi d;have e:=kt i ak;rw[<-e] at hk ih|-;exact .una hk (ih hn)
 |@in1 h u p i j d Zv h6 ih=>intro hn;rw[<-xt (j+1) ak];exact .in1 (ih ak) (by rw[kt _ ak];exact Zv) (by rw[kt _ ak];exact h6)
 |@inN ks p i j ho d h2 h6 hc Zv hn' ih=>intro hn;have:=zi d;rw[<-xt (j+2) ak];exact .inN (by rw[kt _ ak];exact ho) (ih ak) h2 h6 (by rw[kt _ ak];exact hc) (by rw[kt _ ak];exact Zv) (by rw[kt _ ak];exact hn')
 |cond d1 k1 d2 k2 d3 ih1 ih2 ih3=>intro hn;have:=zi d2;have:=zi d3;exact .cond (ih1 ak) (by rw[kt _ ak];exact k1) (ih2 ak) (by rw[kt _ ak];exact k2) (ih3 hn)
 |@asg hv u v p i j m hl d1 ka d2 ih1 ih2=>intro hn;have:=zi d2;have e:=kt j ak;rw[<-e] at ka ih1 ih2|-;exact .asg hl (ih1 ak) ka (ih2 hn)
 |@bin hu hv u v p i j j' m h0 ZO d1 hj d2 ih1 ih2=>
  intro hn;have h1:=zi d2;have h2:=(abN hj).1;have e:=kt j ak;rw[<-e] at h0 ZO hj ih1 ih2|-;refine .bin h0 ZO (ih1 ak) ?_ (ih2 hn);split at hj
  ·rename_i hc;rw[if_pos hc];exact pt _ _ ak hj
  ·rename_i hc;rw[if_neg hc];exact hj
 |cat d1 d2 ih1 ih2=>intro hn;have:=zi d2;exact .cat (ih1 ak) (ih2 hn)
def a1z{lv:Nat}(h:1<=lv)(a b:Bool):Stp lv a b 0:=
 ⟨λ_=>rfl,λ_=>by decide,λm hm e=>by have:dP 0=0:=rfl;omega,λ_ _=>by decide,λ_=>rfl,λ_=>rfl,by decide⟩
def aUt{h:Bool}{T:Tn}{p:Ps}{j:Nat}(hp:gY p=true)(hd:Dx l (.dv h T p) 0 j)(hj:aO l j=0):VK (λn=>peP l n p) (.ok (T,h) j []):=by
 obtain⟨r,v⟩:=asO hd hp;have hp':=hp;unfold gY at hp';rw[wo,wo,decide_eq_true_eq,decide_eq_true_eq] at hp';have hs:(p.fD && !(O9 (aO l 0)))=false:=by
  cases e:p.fD with
  |false=>rfl
  |true=>rw[r.sign e];rfl
 unfold peP;simp only[hs,aW];have r14:p.gU=true->p.level=14:=λe=>by have:=hp'.2;rw[e,zaZ,Bool.false_or,beq_iff_eq] at this;exact this
 cases hc:p.gU && isStep (aO l 0) with
 |true=>
  rw[wo] at hc;simp only[aJ];rcases v with v|⟨_,v2,v3⟩
  ·have h14:=r14 hc.1;have:=r.fst.step ak;rw[hc.2] at this;cases this
  ·subst v3;exact(r.pre rfl v2).2 [] (by rw[hj];decide)
 |false=>
  simp only[aW];rcases v with v|⟨v1,v2,v3⟩
  ·exact(r.at (.inl ⟨rfl,rfl⟩) (lv:=p.level.toNat) ak ak).s1 [] (by rw[hj];exact a1z ak _ _)
  ·have:=(r.pre v3 v2).1;rw[v1,this] at hc;cases hc
def ajW{l:List Tk}(hl:l.length<=1048576)(hf:∀t,t∈l->I64 t.kind/\t.text.length<=1048576){p:Ps}(hp:gY p=true)(ht:KT l=true)(hn:Np l<0){n j:Nat}{x:Xp}{nt:kH}(hx:peP l n p=.ok x j nt)(hz:x.1.size<=400)(hd:depth (x.1.flat 0)<=40):
  M.oK (aA l) p.level p.gU p.nN p.oC p.fD=some (aP true (x.1.flat 0),(j:Int),0,0):=by
 have hT:=ZA l hl hf;have h3:l.length<=3000:=by rw[KT,wo,decide_eq_true_eq] at ht;exact ht.1
 have hN:=aen l h3;have hi:=aqf (l:=l) hl n hp;rw[hx] at hi;obtain⟨fl',ks,k1,hi⟩:=hi;obtain⟨k,b1,b2,b3⟩:=aln (t:=x.1) ak false false;obtain rfl:=b3.2 ⟨hz,hd⟩;have hli:M.rU x.1.kind x.1.op x.1.text x.1.other (iV false x.1.kids)=some (aP true (x.1.flat 0)):=asD (t:=x.1) ak;simp only[M.oK,M.ES,(aiO p).1,ah,M.BU,M.Jm,hT.2,hp,ht,hN.2];simp only[zaZ,aW,ah];rw[rF ak,aW];simp only[aJ,aW,ah,show((0:Int)==0)=true from rfl,zaZ];simp only[hi,ah,k1,b2,hli,aW,aJ,show((0:Int)==0)=true from rfl,zaZ]
end Go.Proofs.YthmchnpcplgciaaGreatDoor
namespace Go.Proofs.YthmchnpcplgciaaGreatDoor
open Go Go.Vm
def okC(nt:kH):Prop:=∀s,s∈nt->uY 2 s=true
def gr{α:Type}(S:α->Prop):PR α->Prop:=λp=>p.sat λx _ m=>S x/\okC m
section
variable {l:List Tk} {α β:Type} {S:α->Prop} {S':β->Prop}
def jL{p:PR α}{f:α->Nat->kH->PR β}(h:gr S p)(hf:∀x j m,S x->okC m->gr S' (f x j m)):gr S' (p.bind f):=by
 cases p with
 |ok x j m=>exact hf x j m h.1 h.2
 |bad j=>trivial
 |out=>trivial
def wV{c:Bool}{p q:PR α}(h1:c=true->gr S p)(h2:c=false->gr S q):gr S (bif c then p else q):=by cases c with|true=>exact h1 rfl|false=>exact h2 rfl
def XG{k:Int}{i:Nat}{nt:kH}(h:okC nt):gr (λ_:Unit=>True) (qH l k i nt):=by
 unfold qH;cases aO l i==k with
 |true=>exact⟨trivial,h⟩
 |false=>trivial
def as3(hx:ajV l){i:Nat}{nt:kH}(h:okC nt):gr (λs:aI=>O8 s=true) (nameP l i nt):=by
 unfold nameP;cases hk:aO l i==6 with
 |true=>rw[beq_iff_eq] at hk;exact⟨axS hx hk (.inl rfl),h⟩
 |false=>trivial
def DN{x:α}{j:Nat}{nt:kH}(hx:S x)(hn:okC nt):gr S (.ok x j nt):=⟨hx,hn⟩
end
def SR(x:Xp):Prop:=rxT x.1
def SL(a b:Nat)(L:List Tn):Prop:=(∀t,t∈L->rxT t)/\a<=L.length/\L.length<=b
def am9:∀(r:List Tk) (i:Nat) (nt:kH),ajV r->okC nt->okC (nlR r i nt).2
 |[],i,nt,_,h=>by rw[nlR];exact h
 |t::r,i,nt,hr,h=>by
  have hr':ajV r:=λu hu=>hr u (zmm _ hu)
  rw[nlR];cases h1:t.kind==1 with
  |true=>exact am9 r (i+1) nt hr' h
  |false=>
   cases h2:t.kind==2 with
   |false=>exact h
   |true=>
    refine am9 r (i+1) _ hr' λs hs=> ?_
    rcases List.mem_append.1 hs with hs|hs
    ·exact h s hs
    ·rw[List.mem_singleton] at hs;have:=hr t zmf;rw[beq_iff_eq] at h2;rw[h2] at this;rw[hs];exact this
section
variable {l:List Tk} (hT:ajV l)
include hT
theorem ayS{i:Nat}{nt:kH}(hn:okC nt):okC (nl l i nt).2:=am9 _ _ _ (λt ht=>hT t (List.mem_of_mem_drop ht)) hn
end
structure Gr(l:List Tk)(n:Nat):Prop where
 ex:∀lv a b i nt,okC nt->gr SR (ex l n lv a b i nt)
 lv:∀a b i nt,aO l i=6\/aO l i=68->okC nt->gr (λx:Xp=>Ee x.1.kind=true) (Go.Proofs.YthmchnpcplgciaaGreatDoor.ex l n 14 a b i nt)
 lv':∀a b i nt,aO l i=6->okC nt->gr (λx:Xp=>Ee x.1.kind=true) (Go.Proofs.YthmchnpcplgciaaGreatDoor.ex l n 15 a b i nt)
 ch:∀lv a b x i nt,1<=lv->SR x->okC nt->gr SR (UK l n lv a b x i nt)
 inp:∀a x i nt,SR x->okC nt->gr SR (TQ l n a x i nt)
 pre:∀i nt,isStep (aO l i)=true->okC nt->gr SR (I8 l n i nt)
 lst:∀e i nt,okC nt->gr (SL (if aO l i=e then 0 else 1) 6) (Bv l n e i nt)
 it:∀a b L i nt,SL 0 5 L->okC nt->gr (SL 1 6) (Po l n a b L i nt)
def aHr{α:Type}{S S':α->Prop}{p:PR α}(h:gr S p)(k:gr S' p):gr (λx=>S x/\S' x) p:=by
 cases p with
 |ok x j m=>exact⟨⟨h.1,k.1⟩,h.2⟩
 |bad j=>trivial
 |out=>trivial
def alo{k:Int}(h:isStep k=true):k=51\/k=52:=by unfold isStep at h;rw[Bool.or_eq_true,beq_iff_eq,beq_iff_eq] at h;exact h
def ayT{l:List Tk}{i:Nat}(hk:aO l i=32)(ha:ahead (l.drop i) 0=true):aO l (i+1)≠33:=by
 intro h33;unfold aO at hk h33;cases h1:l[i]? with
 |none=>rw[h1] at hk;simp at hk
 |some t=>
  cases h2:l[i+1]? with
  |none=>rw[h2] at h33;simp at h33
  |some u=>
   rw[h1] at hk;rw[h2] at h33;simp only at hk h33;have l1:=(Qm.1 h1)
   have l2:=(Qm.1 h2)
   rw[List.drop_eq_getElem_cons l1.1,l1.2,List.drop_eq_getElem_cons l2.1,l2.2,ahead,hk,ahead,h33] at ha;simp[JE,KR] at ha
section
variable {l:List Tk} {n:Nat} (hT:ajV l) (h:Gr l n)
include hT h
theorem ana{k:Int}{i:Nat}{nt:kH}(hk:aO l i=k+1)(hk2:k=2\/k=3\/k=4)(hn:okC nt):gr SR (SG k l i nt):=by refine DN (S:=SR) ?_ hn;exact afQ ak (.tok hk2 (axR hT hk ak)) aru
theorem aUu(lv:Nat)(a b:Bool)(i:Nat)(nt:kH)(hn:okC nt):gr SR (ex l (n+1) lv a b i nt):=by
 unfold ex;split
 ·
  refine jL (h.ex _ _ _ _ _ hn) λx i nt hx hn=>wV (λhc=> ?_) λ_=>DN hx hn
  rw[wo] at hc;refine jL (h.ex _ _ _ _ _ hn) λy j m hy hm=>DN (S:=SR) ?_ hm
  have h1:=hc.1;unfold tgt at h1;rw[wo] at h1;exact aGq hc.2 h1.2 hx hy
 ·
  refine jL (h.ex _ _ _ _ _ hn) λx i nt hx hn=>wV (λhc=> ?_) λ_=>DN hx hn
  refine jL (h.ex _ _ _ _ _ hn) λy i nt hy hn=> ?_
  refine jL (XG hn) λ_ i nt _ hn=> ?_
  refine jL (h.ex _ _ _ _ _ hn) λz i nt hz hn=>DN (S:=SR) ?_ hn
  exact afQ ak .cond (a1o hx hy hz)
 ·exact jL (h.ex _ _ _ _ _ hn) λx i nt hx hn=>h.ch _ _ _ _ _ _ ak hx hn
 ·exact jL (h.ex _ _ _ _ _ hn) λx i nt hx hn=>h.ch _ _ _ _ _ _ ak hx hn
 ·
  refine wV (λhc=> ?_) λ_=>jL (h.ex _ _ _ _ _ hn) λx i nt hx hn=>h.inp _ _ _ _ hx hn
  rw[wo,wo,beq_iff_eq] at hc;have h33:=ayT hc.1.1 hc.2;have hl:=h.lst 33 (i+1) nt hn;rw[if_neg h33] at hl;refine jL hl λL i nt hL hn=> ?_
  refine jL (XG hn) λ_ i nt _ hn=> ?_
  refine jL (as3 hT hn) λs i nt hs hn=> ?_
  exact h.inp _ _ _ _ (afQ ak (.index ak hs hL.2.1 hL.2.2) hL.1) hn
 ·
  refine jL (h.ex _ _ _ _ _ hn) λx i nt hx hn=>wV (λhc=> ?_) λ_=>DN hx hn
  refine jL (h.ex _ _ _ _ _ hn) λy j m hy hm=>DN (S:=SR) ?_ hm
  refine amK ?_ hx hy;rw[Bool.or_eq_true,beq_iff_eq,beq_iff_eq] at hc;rcases hc with hc|hc<;>rw[hc]<;>rfl
 ·
  refine jL (h.ex _ _ _ _ _ hn) λx i nt hx hn=>wV (λhc=> ?_) λ_=>DN hx hn
  refine jL (h.ex _ _ _ _ _ hn) λy j m hy hm=>DN (S:=SR) ?_ hm
  refine amK (apN ?_) hx hy;unfold oN at hc;rw[show Nat.beq 7 8=false from rfl,aW,wo,beq_iff_eq] at hc;rw[hc.1];decide
 ·exact jL (h.ex _ _ _ _ _ hn) λx i nt hx hn=>h.ch _ _ _ _ _ _ ak hx hn
 ·exact jL (h.ex _ _ _ _ _ hn) λx i nt hx hn=>h.ch _ _ _ _ _ _ ak hx hn
 ·exact jL (h.ex _ _ _ _ _ hn) λx i nt hx hn=>h.ch _ _ _ _ _ _ ak hx hn
 ·
  refine wV (λhc=> ?_) λ_=>h.ex _ _ _ _ _ hn
  refine jL (h.ex _ _ _ _ _ hn) λy j m hy hm=>DN (S:=SR) ?_ hm
  rw[Bool.or_eq_true,Bool.or_eq_true,beq_iff_eq,beq_iff_eq,beq_iff_eq] at hc;exact afQ ak (.una hc) (all1 hy)
 ·
  refine jL (h.ex _ _ _ _ _ hn) λx i nt hx hn=>wV (λhc=> ?_) λ_=>DN hx hn
  exact jL (h.ex _ _ _ _ _ hn) λy j m hy hm=>DN (S:=SR) (amK rfl hx hy) hm
 ·
  refine wV (λhc=>h.pre _ _ hc hn) λ_=> ?_
  refine jL (h.ex _ _ _ _ _ hn) λx i nt hx hn=>wV (λhc=> ?_) λ_=>DN hx hn
  rw[wo] at hc;have h1:=hc.1;unfold tgt at h1;rw[wo] at h1;exact DN (S:=SR) (asG (.inr rfl) (alo hc.2) h1.2 hx) hn
 ·
  refine wV (λhc=> ?_) λ_=>h.ex _ _ _ _ _ hn
  refine jL (S:=SR) (wV (λhs=>h.pre _ _ hs hn) λ_=>h.ex _ _ _ _ _ hn) λx i nt hx hn=> ?_
  exact DN (S:=SR) (afQ ak (.one ak) (all1 hx)) hn
 ·
  refine wV (λhc=>ana hT h (by rwa [beq_iff_eq] at hc) ak hn) λ_=> ?_
  refine wV (λhc=>ana hT h (by rwa [beq_iff_eq] at hc) ak hn) λ_=> ?_
  refine wV (λhc=>ana hT h (by rwa [beq_iff_eq] at hc) ak hn) λ_=> ?_
  refine wV (λhc=> ?_) λ_=> ?_
  ·rw[beq_iff_eq] at hc;have hx:=axS hT hc (.inl rfl);refine wV (λ_=> ?_) λ_=>DN (S:=SR) (afQ ak (.name hx) aru) hn
   refine jL (h.it _ _ _ _ _ ⟨aru,by simp,by simp⟩ hn) λL j nt hL hn=> ?_
   exact jL (XG hn) λ_ j nt _ hn=>DN (S:=SR) (afQ ak (.index ak hx hL.2.1 hL.2.2) hL.1) hn
  refine wV (λhc=> ?_) λ_=> ?_
  ·rw[Bool.or_eq_true,beq_iff_eq,beq_iff_eq] at hc;refine wV (λhb=> ?_) λ_=> ?_
   ·rw[wo,beq_iff_eq] at hb;exact DN (S:=SR) (afQ ak (.blt (aEn hT hb.1) (Nat.zero_le _)) aru) hn
   ·refine jL (XG hn) λ_ j nt _ hn=> ?_
    refine jL (h.lst _ _ _ hn) λL j nt hL hn=>DN (S:=SR) ?_ hn
    rcases hc with hc|hc
    ·simp only[hc];exact afQ ak (.call ak (axS hT hc (.inr rfl)) hL.2.2) hL.1
    ·simp only[hc];exact afQ ak (.blt (aEn hT hc) hL.2.2) hL.1
  refine wV (λ_=> ?_) λ_=>trivial
  refine jL (h.ex _ _ _ _ _ hn) λx i nt hx hn=> ?_
  exact jL (XG hn) λ_ i nt _ hn=>DN (S:=SR) hx hn
omit h in
theorem aHs(a b:Bool)(i:Nat)(nt:kH)(hk:aO l i=6)(hn:okC nt)(h:Gr l n):gr (λx:Xp=>Ee x.1.kind=true) (ex l (n+1) 15 a b i nt):=by
 unfold ex;simp only[hk,Int.reduceBEq,aW,aJ];refine wV (λ_=> ?_) λ_=>DN rfl hn
 refine jL (h.it _ _ _ _ _ ⟨aru,by simp,by simp⟩ hn) λL j nt hL hn=> ?_
 exact jL (XG hn) λ_ j nt _ hn=>DN rfl hn
theorem aUv(a b:Bool)(i:Nat)(nt:kH)(hk:aO l i=6\/aO l i=68)(hn:okC nt):gr (λx:Xp=>Ee x.1.kind=true) (ex l (n+1) 14 a b i nt):=by
 unfold ex;rcases hk with hk|hk
 ·simp only[hk,Int.reduceBEq,aW];exact h.lv' _ _ _ _ hk hn
 ·simp only[hk,Int.reduceBEq,aJ];refine jL (S:=SR) (wV (λhs=>h.pre _ _ hs hn) λ_=>h.ex _ _ _ _ _ hn) λx i nt hx hn=>DN rfl hn
theorem aHt(a:Bool)(x:Xp)(i:Nat)(nt:kH)(hx:SR x)(hn:okC nt):gr SR (TQ l (n+1) a x i nt):=by
 unfold TQ;refine wV (λ_=> ?_) λ_=>DN hx hn
 exact jL (as3 hT hn) λs i nt hs hn=>h.inp _ _ _ _ (afQ ak (.index ak hs (by simp) (by simp)) (all1 hx)) hn
theorem aHu(i:Nat)(nt:kH)(hs:isStep (aO l i)=true)(hn:okC nt):gr SR (I8 l (n+1) i nt):=by
 unfold I8;refine wV (λhc=> ?_) λ_=>trivial
 rw[Bool.or_eq_true,beq_iff_eq,beq_iff_eq] at hc;exact jL (aHr (h.ex _ _ _ _ _ hn) (h.lv _ _ _ _ ak hn)) λx j m hx hm=>DN (S:=SR) (asG (.inl rfl) (alo hs) hx.2 hx.1) hm
theorem aHv(e:Int)(i:Nat)(nt:kH)(hn:okC nt):gr (SL (if aO l i=e then 0 else 1) 6) (Bv l (n+1) e i nt):=by
 unfold Bv;refine wV (λhc=> ?_) λhc=> ?_
 ·rw[beq_iff_eq] at hc;rw[if_pos hc];exact DN ⟨aru,by simp,by simp⟩ hn
 ·rw[nY] at hc;rw[if_neg hc];refine jL (h.it _ _ _ _ _ ⟨aru,by simp,by simp⟩ hn) λL j nt hL hn=> ?_
  exact jL (XG hn) λ_ j nt _ hn=>DN hL hn
theorem aUw(a b:Bool)(L:List Tn)(i:Nat)(nt:kH)(hL:SL 0 5 L)(hn:okC nt):gr (SL 1 6) (Po l (n+1) a b L i nt):=by
 rw[Po];refine jL (h.ex _ _ _ _ _ hn) λx i nt hx hn=> ?_
 have h1:=hL.2.2;have h2:=axQ hL.1 hx;refine wV (λ_=>wV (λ_=>trivial) λh6=> ?_) λ_=>DN ⟨h2,by simp,by simp;omega⟩ hn
 have h6':L.length+1≠6:=λe=>by rw[e] at h6;cases h6
 exact h.it _ _ _ _ _ ⟨h2,Nat.zero_le _,by simp;omega⟩ (ayS hT hn)
theorem aUx(lv:Nat)(a b:Bool)(x:Xp)(i:Nat)(nt:kH)(h1:1<=lv)(hx:SR x)(hn:okC nt):gr SR (UK l (n+1) lv a b x i nt):=by
 rw[UK];refine wV (λhc=> ?_) λ_=>DN hx hn
 have hq:okC (bif Nat.beq lv 8 then(i,nt) else bif Nat.ble lv 4 then nl l (i+1) nt else(i+1,nt)).2:=by
  cases Nat.beq lv 8<;>cases Nat.ble lv 4
  ·exact hn
  ·exact ayS hT hn
  ·exact hn
  ·exact hn
 refine jL (h.ex _ _ _ _ _ hq) λy j m hy hm=> ?_
 refine h.ch _ _ _ _ _ _ h1 (amK ?_ hx hy) hm;cases h8:Nat.beq lv 8 with
 |true=>rfl
 |false=>rw[aW];unfold oN at hc;rw[h8,aW,wo,beq_iff_eq] at hc;refine apN ?_;rw[hc.1];omega
end
def grx{l:List Tk}(hT:ajV l):∀n,Gr l n
 |0=>⟨λ_ _ _ _ _ _=>by rw[ex];trivial,λ_ _ _ _ _ _=>by rw[ex];trivial,λ_ _ _ _ _ _=>by rw[ex];trivial,λ_ _ _ _ _ _ _ _ _=>by rw[UK];trivial,λ_ _ _ _ _ _=>by rw[TQ];trivial,λ_ _ _ _=>by rw[I8];trivial,λ_ _ _ _=>by rw[Bv];trivial,λ_ _ _ _ _ _ _=>by rw[Po];trivial⟩
 |n+1=>⟨aUu hT (grx hT n),aUv hT (grx hT n),λa b i nt hk hn=>aHs hT a b i nt hk hn (grx hT n),aUx hT (grx hT n),aHt hT (grx hT n),aHu hT (grx hT n),aHv hT (grx hT n),aUw hT (grx hT n)⟩
end Go.Proofs.YthmchnpcplgciaaGreatDoor
namespace Go.Proofs.YthmchnpcplgciaaGreatDoor
open Go Go.Vm
structure Sm(l:List Tk)(n:Nat):Prop where
 ex:∀lv a b i nt,okN nt->good SX (ex l n lv a b i nt)
 ch:∀lv a b x i nt,SX x->okN nt->good SX (UK l n lv a b x i nt)
 inp:∀a x i nt,SX x->okN nt->good SX (TQ l n a x i nt)
 pre:∀i nt,okN nt->good SX (I8 l n i nt)
 lst:∀e i nt,okN nt->good WG (Bv l n e i nt)
 it:∀a b L i nt,WG L->okN nt->good WG (Po l n a b L i nt)
section
variable {l:List Tk} {n:Nat} (hT:∀t,t∈l->t.text.length<=1048576) (h:Sm l n)
def ayU(hT:∀t,t∈l->t.text.length<=1048576)(i:Nat):(xB l i).length<=1048576:=by
 unfold xB;split
 ·next t ht=>exact hT t (ZF ht)
 ·exact Nat.zero_le _
def ayV(hT:∀t,t∈l->t.text.length<=1048576){i:Nat}{nt:kH}(hn:okN nt):okN (nl l i nt).2:=agf _ _ _ (λt ht=>hT t (List.mem_of_mem_drop ht)) hn
def ayW(hT:∀t,t∈l->t.text.length<=1048576){i:Nat}{nt:kH}(hn:okN nt):okN (sep l i nt).2:=adf _ _ _ (λt ht=>hT t (List.mem_of_mem_drop ht)) hn
def aDA(hT:∀t,t∈l->t.text.length<=1048576){k:Int}{i:Nat}{nt:kH}(hn:okN nt):good SX (SG k l i nt):=⟨⟨⟨ayU hT i,Nat.zero_le _⟩,trivial⟩,hn⟩
def ZU{x:Xp}{j:Nat}{nt:kH}(hx:SX x)(hn:okN nt):good SX (.ok x j nt):=⟨hx,hn⟩
def mk1{k o:Int}{x:Tn}{b:Bool}(h:sml x):SX (.mk k o [] [] [x],b):=⟨⟨Nat.zero_le _,Nat.zero_le _⟩,h,trivial⟩
def mk2{k o:Int}{x y:Tn}{b:Bool}(h:sml x)(h2:sml y):SX (.mk k o [] [] [x,y],b):=⟨⟨Nat.zero_le _,Nat.zero_le _⟩,h,h2,trivial⟩
def mk3{k o:Int}{x y z:Tn}{b:Bool}(h:sml x)(h2:sml y)(h3:sml z):SX (.mk k o [] [] [x,y,z],b):=⟨⟨Nat.zero_le _,Nat.zero_le _⟩,h,h2,h3,trivial⟩
def mkL{k o:Int}{s:aI}{L:List Tn}{b:Bool}(hs:s.length<=1048576)(h:WG L):SX (.mk k o s [] L,b):=⟨⟨hs,Nat.zero_le _⟩,h⟩
def smP{P:Prop} (h:P:=by
 repeat' first
  |exact alk (by assumption)
  |exact auZ (ayU (by assumption)) (by assumption)
  |exact aUD (by assumption) _ _ _ (by assumption)
  |exact ayX (by assumption) _ _ _ _ _ (by assumption)
  |exact ayX (by assumption) _ _ _ _ _ (ayV (by assumption) (by assumption))
  |exact alk (ayW (by assumption) (by assumption))
  |apply ade
  |exact Sm.ex (by assumption) _ _ _ _ _ (by assumption)
  |exact Sm.ch (by assumption) _ _ _ _ _ _ (by assumption) (by assumption)
  |exact Sm.inp (by assumption) _ _ _ _ (by assumption) (by assumption)
  |exact Sm.pre (by assumption) _ _ (by assumption)
  |exact Sm.lst (by assumption) _ _ _ (by assumption)
  |exact Sm.it (by assumption) _ _ _ _ _ trivial (by assumption)
  |exact(sm (by assumption) _).ex _ _ _ _ _ (by assumption)
  |exact(sm (by assumption) _).it _ _ _ _ _ trivial (by assumption)
  |exact aDA (by assumption) (by assumption)
  |exact Sm.inp (by assumption) _ _ _ _ (mkL (by assumption) (by assumption)) (by assumption)
  |exact ZU (by assumption) (by assumption)
  |exact ZU (mk1 (by assumption)) (by assumption)
  |exact ZU (mk2 (by assumption) (by assumption)) (by assumption)
  |exact ZU (mk3 (by assumption) (by assumption) (by assumption)) (by assumption)
  |exact ZU (mkL (ayU (by assumption) _) (by assumption)) (by assumption)
  |refine Ql (S:=SX) ?_ (λx j m hx hm=> ?_)
  |refine Ql (S:=WG) ?_ (λx j m hx hm=> ?_)
  |refine Ql (S:=λ_:Unit=>True) ?_ (λx j m hx hm=> ?_)
  |refine Ql (S:=λs:aI=>s.length<=1048576) ?_ (λx j m hx hm=> ?_)
  |exact Sm.inp (by assumption) _ _ _ _ (⟨⟨by assumption,Nat.zero_le _⟩,by assumption,trivial⟩:SX (.mk 13 0 _ [] [_],false)) (by assumption)
  |exact⟨by assumption,by assumption⟩
  |exact⟨trivial,by assumption⟩
  |exact⟨⟨⟨Nat.zero_le _,Nat.zero_le _⟩,trivial⟩,by assumption⟩
  |exact⟨⟨⟨by assumption,Nat.zero_le _⟩,trivial⟩,by assumption⟩
  |exact⟨⟨⟨by assumption,Nat.zero_le _⟩,by assumption⟩,by assumption⟩
  |exact⟨⟨⟨Nat.zero_le _,Nat.zero_le _⟩,by assumption⟩,by assumption⟩
  |exact⟨⟨⟨Nat.zero_le _,Nat.zero_le _⟩,by assumption,trivial⟩,by assumption⟩
  |exact⟨⟨⟨Nat.zero_le _,ayU (by assumption) _⟩,ai5 _ _ (by assumption) ⟨by assumption,trivial⟩⟩,by assumption⟩
  |exact a1A (by assumption) _ _ _ (by assumption)
  |exact aUE (by assumption) _ _ _ _ (by assumption)
  |exact a1B (by assumption) _ _ _ (by assumption)
  |exact a1C (by assumption) _ _ _ (by assumption)
  |exact aHw (by assumption) (by assumption)
  |exact SmS.st (by assumption) _ _ (by assumption)
  |exact SmS.blk (by assumption) _ _ (by assumption)
  |exact SmS.body (by assumption) _ _ (by assumption)
  |exact SmS.body (by assumption) _ _ (ayW (by assumption) (by assumption))
  |exact aHw ⟨⟨Nat.zero_le _,Nat.zero_le _⟩,by assumption,by assumption,trivial⟩ (by assumption)
  |exact⟨⟨⟨Nat.zero_le _,Nat.zero_le _⟩,by assumption,by assumption,trivial⟩,by assumption⟩
  |exact⟨⟨⟨Nat.zero_le _,Nat.zero_le _⟩,by assumption,by assumption,by assumption,trivial⟩,by assumption⟩
  |exact⟨⟨⟨Nat.zero_le _,Nat.zero_le _⟩,by assumption,by assumption,by assumption,by assumption,trivial⟩,by assumption⟩
  |exact⟨⟨⟨ayU (by assumption) _,by assumption⟩,by assumption,trivial⟩,by assumption⟩
  |refine Ql (S:=sml) ?_ (λx j m hx hm=> ?_)
  |trivial
 ):P:=h
include hT h
theorem aUy(lv:Nat)(a b:Bool)(i:Nat)(nt:kH)(hn:okN nt):good SX (ex l (n+1) lv a b i nt):=by unfold ex;split<;>exact smP
theorem aHx(a:Bool)(x:Xp)(i:Nat)(nt:kH)(hx0:SX x)(hn:okN nt):good SX (TQ l (n+1) a x i nt):=by unfold TQ;exact smP
theorem aHy(i:Nat)(nt:kH)(hn:okN nt):good SX (I8 l (n+1) i nt):=by have:=hT;unfold I8;exact smP
theorem aHz(e:Int)(i:Nat)(nt:kH)(hn:okN nt):good WG (Bv l (n+1) e i nt):=by have:=hT;unfold Bv;exact smP
theorem aUz(a b:Bool)(L:List Tn)(i:Nat)(nt:kH)(hL:WG L)(hn:okN nt):good WG (Po l (n+1) a b L i nt):=by rw[Po];refine Ql (S:=SX) (h.ex _ _ _ _ _ hn) (λx j m hx hm=> ?_);have h2:WG (L++[x.1]):=ai5 L [x.1] hL ⟨hx,trivial⟩;exact ade (ade trivial (h.it _ _ _ _ _ h2 (ayV hT hm))) ⟨h2,hm⟩
theorem aUA(lv:Nat)(a b:Bool)(x:Xp)(i:Nat)(nt:kH)(hx0:SX x)(hn:okN nt):good SX (UK l (n+1) lv a b x i nt):=by
 rw[UK];refine ade ?_ (ZU hx0 hn);have hq:okN (bif Nat.beq lv 8 then(i,nt) else bif Nat.ble lv 4 then nl l (i+1) nt else(i+1,nt)).2:=by
  cases Nat.beq lv 8<;>cases Nat.ble lv 4
  ·exact hn
  ·exact ayV hT hn
  ·exact hn
  ·exact hn
 refine Ql (S:=SX) (h.ex _ _ _ _ _ hq) (λy j m hy hm=> ?_);exact h.ch _ _ _ _ _ _ (mk2 hx0 hy) hm
end
def sm{l:List Tk}(hT:∀t,t∈l->t.text.length<=1048576):∀n,Sm l n
 |0=>⟨λ_ _ _ _ _ _=>by rw[ex];trivial,λ_ _ _ _ _ _ _ _=>by rw[UK];trivial,λ_ _ _ _ _ _=>by rw[TQ];trivial,λ_ _ _=>by rw[I8];trivial,λ_ _ _ _=>by rw[Bv];trivial,λ_ _ _ _ _ _ _=>by rw[Po];trivial⟩
 |n+1=>⟨aUy hT (sm hT n),aUA hT (sm hT n),aHx hT (sm hT n),aHy hT (sm hT n),aHz hT (sm hT n),aUz hT (sm hT n)⟩
end Go.Proofs.YthmchnpcplgciaaGreatDoor
namespace Go.Proofs.YthmchnpcplgciaaGreatDoor
open Go Go.Vm
def au2{l:List Tk}(h:KT l=true):ajV l:=λt ht=>by rw[KT,wo] at h;exact ap2 l 0 h.2 t ht
def aHA:∀A n k2 m k5 e k58 k41:Bool,gd A false n k2 m k5 e k58 k41=true->gd A false false k2 true k5 e k58 k41=true:=by decide
def alp:∀(l:List Tk) (b:Int) (n:Nat),Ye false b l=true->(∀t,(l.take n).getLast? =some t->t.kind≠7)->Ye false b (l.take n)=true
 |[],b,n,_,_=>by rw[List.take_nil];rfl
 |t::r,b,0,_,_=>rfl
 |t::r,b,n+1,h,hk=>by
  rw[Ye,wo] at h;rw[List.take_succ_cons,Ye,wo];refine⟨?_,alp r t.kind n h.2 λu hu=>hk u (by rw[List.take_succ_cons,List.getLast?_cons,hu];rfl)⟩;have h1:=h.1;cases r with
  |nil=>rw[List.take_nil];exact h1
  |cons u r=>
   cases n with
   |zero=>have h7:t.kind≠7:=hk t rfl;rw[gT,nY.2 h7] at h1|-;exact aHA _ _ _ _ _ _ _ _ h1
   |succ n=>exact h1
def ai9:∀(l:List Tk) (d:Int) (i n:Nat),XV d i l=none->XV d i (l.take n)=none
 |[],_,_,_,_=>by rw[List.take_nil];rfl
 |t::r,d,i,0,_=>rfl
 |t::r,d,i,n+1,h=>by
  rw[XV] at h;rw[List.take_succ_cons,XV];cases hc:decide (nst d t.kind>40) with
  |true=>rw[hc] at h;cases h
  |false=>rw[hc,aW] at h;rw[aW];exact ai9 r _ _ n h
def au3{l:List Tk}(h:Np l<0):XV 0 0 l=none:=by
 unfold Np at h;cases hc:XV 0 0 l with
 |none=>rfl
 |some p=>rw[hc] at h;exact absurd h (by simp only;omega)
def alq{l:List Tk}(h:Np l<0)(n:Nat):Np (l.take n)<0:=by rw[Np,ai9 l 0 0 n (au3 h)];decide
def alr{l:List Tk}(h:KT l=true){n:Nat}(hn:n<=l.length)(h7:aO l (n - 1)≠7):KT (l.take n)=true:=by rw[KT,wo,decide_eq_true_eq] at h|-;refine⟨by rw[zlt];omega,alp l 0 n h.2 λt ht e=>h7 ?_⟩;rw[List.getLast?_eq_getElem?,zlt,Nat.min_eq_left hn] at ht;have hl:=(Qm.1 ht).1;rw[zlt] at hl;rw[List.getElem?_take,if_pos ak] at ht;unfold aO;rw[ht];exact e
def aDB(a:List Int)(ha:a.length<=1048576):M.slices_Equal (encI a) (encI a)=some true:=by
 have h:=ZT (b:=M.IY (encI a) (encI a) (a.length:Int)) a.length ha (λi hi=>by
  obtain⟨x,hx⟩:∃x,a[i]? =some x:=⟨a[i],by simp[hi]⟩
  simp only[M.IY,M.DC,bK,Eu,hx,Ht,ah,cI0,bne_self_eq_false,aW];rw[zdt ak];rfl) (by
  simp only[M.IY,M.DC];rw[rF ak];rfl)
 simp only[M.slices_Equal,M.O1,dV,bne_self_eq_false,aW,M.MH,h,ah];rfl
def aHB(a:List Nd)(ha:a.length<=1048576)(hk:∀n,n∈a->n.kids.length<=1048576):M.zI (aP false a) (aP false a)=some true:=by
 have h:=ZT (b:=M.Bg (aP false a) (aP false a) (a.length:Int)) a.length ha (λi hi=>by
  obtain⟨x,hx⟩:∃x,a[i]? =some x:=⟨a[i],by simp[hi]⟩
  simp only[I7,M.Bg,M.vZ,bK,nH,hx,Ht,ah,cN0,cN1,cN2,cN3,cN4,M.wC,M.GL,aDB x.kids (hk x (ZF hx)),beq_self_eq_true,zaZ,aW,aJ,ah];rw[zdt ak];rfl) (by
  simp only[I7,M.Bg,M.vZ];rw[rF ak];rfl)
 simp only[M.zI,M.MI,M.wE,M.GN,dI,bne_self_eq_false,aW,M.Eo,h,ah];rfl
def aDC(l:List Tk)(hl:l.length<=1048576)(hn:∀t,t∈l->t.kind≠2):M.slices_ContainsFunc (aA l)=some false:=by
 have h:dU (M.vY (aA l) (l.length:Int)) 0=some (.inr (l.length:Int)):=
  yg (b:=M.vY (aA l) (l.length:Int)) (t:=(Sum.inr (l.length:Int):Int⊕Int)) (λi=>(i:Int)) l.length (λi hi=>by
   obtain⟨x,hx⟩:∃x,l[i]? =some x:=⟨l[i],by simp[hi]⟩
   have h2:(x.kind==2)=false:=nY.2 (hn x (ZF hx));have hw:i64.wrap ((i:Int)+1)=((i+1:Nat):Int):=by rw[aK ak ak];omega
   simp only[M.vY,M.vX,bK,dZ,hx,Ht,ah,Qr,cT1,cT2,M.yO,M.IX,h2,aW,hw];rw[zdt ak];rfl) (by
   simp only[M.vY,M.vX];rw[rF ak];rfl) 0 (Nat.zero_le _)
 simp only[M.slices_ContainsFunc,M.Bf,M.slices_IndexFunc,M.GK,aX,M.En,h,ah];rfl
def ayY{l:List Tk}(ht:KT l=true)(hf:∀t,t∈l->I64 t.kind/\t.text.length<=1048576){n j:Nat}{p:Ps}{x:Xp}{nt:kH}(hp:gY p=true)(h:peP l n p=.ok x j nt):rxT x.1/\sml x.1/\0<j/\j<=l.length:=by
 have g:=grx (au2 ht) n;have s:=sm (λt h=>(hf t h).2) n;have f:=sats l n;obtain⟨lv,hlv,hc,hd⟩:=RG hp;unfold peP at h;rw[hlv,Yf] at h;cases c1:p.fD && !(O9 (aO l 0)) with
 |true=>rw[c1] at h;cases h
 |false=>
  rw[c1,aW] at h;cases c2:p.gU && isStep (aO l 0) with
  |true=>rw[c2,aJ] at h;rw[wo] at c2;have g1:=g.pre 0 [] c2.2 (λs hs=>by cases hs);have s1:=s.pre 0 [] (λs hs=>by cases hs);have f1:=f.pre 0 [] (eF (xC c2.2));rw[h] at g1 s1 f1;exact⟨g1.1,s1.1,f1.1,f1.2.1⟩
  |false=>rw[c2,aW] at h;have g1:=g.ex lv p.nN p.oC 0 [] (λs hs=>by cases hs);have s1:=s.ex lv p.nN p.oC 0 [] (λs hs=>by cases hs);have f1:=f.ex lv p.nN p.oC 0 [] ak ak (Nat.zero_le _);rw[h] at g1 s1 f1;exact⟨g1.1,s1.1,f1.1,f1.2.1⟩
def au4{l:List Tk}{T:Tn}{p:Ps}{h:Bool}(hl:l.length<=400)(hf:∀t,t∈l->I64 t.kind/\t.text.length<=1048576)(ht:KT l=true)(hn:Np l<0)(hrx:rxT T)(hs:sml T)(hz:T.size<=400)(hd:depth (T.flat 0)<=40)(hc:∀t,t∈l->t.kind≠2)
  (hp:gY p=true) (hx:Dx l (.dv h T p) 0 l.length):M.Ci (aA l) (aP false (T.flat 0)) p.level p.gU p.nN p.oC p.fD=some true:=by
 obtain⟨N,hN⟩:=aUt hp hx (by unfold aO;rw[List.getElem?_eq_none (zba _)]);have he:=ajW ak hf hp ht hn (hN N (zba _)) hz hd;have hsame:=aHB (T.flat 0) (by rw[T.flat_length];omega) (λn hn=>by have:=(KF T 0 n hn).1;omega);simp only[M.Ci,M.O4,(ai8 hrx hs hz hd false).2,ah,zaZ,aW,aX,aDC l ak hc,M.MW,M.TB,he,beq_self_eq_true,aJ,bV,hsame];rw[rF ak,aW]
end Go.Proofs.YthmchnpcplgciaaGreatDoor
namespace Go.Proofs.YthmchnpcplgciaaGreatDoor
open Go Go.Vm
def aHC(q:List Nd)(j k p:Int):[[D.sl true 5 (aP true q)],[D.int .i64 j],[D.int .i64 k,D.int .i64 p]].all lU=true:=by simp[lU,D.pure,abI]
def als{l:List Tk}(hl:l.length<=1048576){i:Nat}(hi:i<=l.length){a:Int}{b c d e:Bool}{q:au}:∀(n j:Nat),i - j=n->j<=i->
  M.ou (i:Int) (aA l) a b c d e q (j:Int)=some (.inl ())\/(M.ou (i:Int) (aA l) a b c d e q (j:Int)=some (.inr (i:Int))/\NC l j i)
 |0,j,hn,hj=>by obtain rfl:j=i:=ak;refine .inr ⟨?_,λk h1 h2=>by omega⟩;rw[M.ou];apply aQ;simp only[M.DI,M.x8];rw[rF ak,aW]
 |n+1,j,hn,hj=>by
  obtain⟨t,ht⟩:∃t,l[j]? =some t:=⟨l[j]'ak,by simp⟩
  have hk:aO l j=t.kind:=by unfold aO;rw[ht]
  have w1:i64.wrap ((j:Int)+1)=((j+1:Nat):Int):=by rw[aK ak ak];omega
  have step:M.DI (i:Int) (aA l) a b c d e q (j:Int)=some (bif t.kind==2 then .inr (.inl ()) else .inl (((j+1:Nat):Int))):=by simp only[M.DI,M.x8,bK,Yf,dZ,ht,Ht,ah,Qr,w1];rw[zdt ak,aJ];cases t.kind==2<;>rfl
  cases h2:t.kind==2 with
  |true=>rw[h2,aJ] at step;exact .inl (by rw[M.ou];exact aQ step)
  |false=>
   rw[h2,aW] at step;have h2:t.kind≠2:=by rwa [nY] at h2
   rcases als hl hi (a:=a) (b:=b) (c:=c) (d:=d) (e:=e) (q:=q) n (j+1) ak ak with h|⟨h,hc⟩
   ·exact .inl (by rw[M.ou] at h|-;rw[bI step];exact h)
   ·refine .inr ⟨by rw[M.ou] at h|-;rw[bI step];exact h,λk h3 h4=> ?_⟩
    by_cases hkj:k=j
    ·rw[hkj,hk];exact h2
    ·exact hc k ak h4
def aqn(c:aI):M.zY (c.map byteRow)=some true:=by
 simp only[M.zY,M.KD,M.Ug,M.Xo,ah,zbb]
 by_cases hc:c.length<=1048576
 ·rw[rF ak,aW];obtain⟨l,p,hd,hb⟩:=arM c hc;have hb1:=hb.1;obtain⟨fl,q,j,k,pl,e1,e2,hr⟩:=am8 l ak hb.2 p;simp only[hd,e2,ah,aHC,aJ];rcases hr with⟨h1,rfl,rfl⟩|⟨rfl,rfl,hp,ht,hn,T,hh,nt,i,hpe,rfl,rfl,hz,hdp⟩
  ·have hk:(k==0)=false:=nY.2 h1;simp only[bne,hk,Bool.not_false,aJ,e1,ah,beq_self_eq_true];rfl
  ·obtain⟨rx,sm,i0,il⟩:=ayY ht hb.2 hp hpe;simp only[bne,beq_self_eq_true,zaZ,aW,aX,bV];rw[rF ak,aW,rF ak,aW];rcases als (l:=l) ak il (a:=p.level) (b:=p.gU) (c:=p.nN) (d:=p.oC) (e:=p.fD) (q:=aP true (T.flat 0)) i 0 ak (Nat.zero_le _) with h|⟨h,nc⟩
   ·rw[x9] at h;rw[h,ah];rfl
   ·rw[x9] at h;rw[h,ah];simp only[kT,letE]
    by_cases h3:i<=300
    ·rw[rF ak,aW];have hx:=aUe hp hpe nc;have hle:(l.take i).length=i:=by rw[zlt];omega
     have hx':=aDz hx (n:=i) (zba _);have hf:∀t,t∈l.take i->I64 t.kind/\t.text.length<=1048576:=λt ht=>hb.2 t (List.mem_of_mem_take ht)
     have hcut:=Ve (l:=l) (a:=0) (c:=i) (Nat.zero_le _) il;have hsg:seg l 0 i=l.take i:=by unfold seg;rw[List.drop_zero,Nat.sub_zero]
     have hnc:∀t,t∈l.take i->t.kind≠2:=λt ht=>by obtain⟨k,hk⟩:=List.mem_iff_getElem?.1 ht;have hki:=(Qm.1 hk).1;have:=nc k (Nat.zero_le _) ak;unfold aO at this;rw[List.getElem?_take,if_pos ak] at hk;rw[hk] at this;exact this
     rw[x9,hsg] at hcut;have hx2:Dx (l.take i) (.dv hh T p) 0 (l.take i).length:=by rw[hle];exact hx'
     have d1:=au1 ak hf (alr ht il (asW hx)) (alq hn i) rx.1 rx.2 hz (ai8 rx sm hz hdp false).1 hp hx2;have d2:=au4 ak hf (alr ht il (asW hx)) (alq hn i) rx sm hz hdp hnc hp hx2;simp only[hcut,ah,d1,d2,aJ]
    ·rw[zdt ak,aJ]
 ·rw[zdt ak,aJ]
end Go.Proofs.YthmchnpcplgciaaGreatDoor
namespace Go.Proofs
open Go.Shelf
def Tryz.lays144_ren:Go.Shelf.Ren:=⟨fun|144=>177|143=>211|219=>229|217=>235|225=>236|224=>237|267=>238|266=>239|314=>240|n=>n,fun|9=>9|4=>4|3=>3|5=>5|46=>153|146=>186|51=>185|n=>n,fun|1=>3|n=>n⟩
def Tryz.lays144:Go.Proofs.Lays.n144 Tryz.prog Tryz.lays144_ren:={
 mixed:=by kernel_rfl
 f143:=Tryz.func211.trans (congrArg some (by kernel_rfl))
 f144:=Tryz.func177.trans (congrArg some (by kernel_rfl))
 f217:=Tryz.func235.trans (congrArg some (by kernel_rfl))
 f219:=Tryz.func229.trans (congrArg some (by kernel_rfl))
 f224:=Tryz.func237.trans (congrArg some (by kernel_rfl))
 f225:=Tryz.func236.trans (congrArg some (by kernel_rfl))
 f266:=Tryz.func239.trans (congrArg some (by kernel_rfl))
 f267:=Tryz.func238.trans (congrArg some (by kernel_rfl))
 f314:=Tryz.func240.trans (congrArg some (by kernel_rfl))
 t3:=Tryz.underlying3
 a3:=Tryz.isAgg3
 z3:=Tryz.sizeOf3
 v3:=Tryz.zeroValue3
 t4:=Tryz.underlying4
 a4:=Tryz.isAgg4
 z4:=Tryz.sizeOf4
 v4:=Tryz.zeroValue4
 t5:=Tryz.underlying5
 a5:=Tryz.isAgg5
 z5:=Tryz.sizeOf5
 v5:=Tryz.zeroValue5
 t9:=Tryz.underlying9
 a9:=Tryz.isAgg9
 z9:=Tryz.sizeOf9
 v9:=Tryz.zeroValue9
 t46:=Tryz.underlying153
 a46:=Tryz.isAgg153
 z46:=Tryz.sizeOf153
 v46:=Tryz.zeroValue153
 t51:=Tryz.underlying185
 a51:=Tryz.isAgg185
 z51:=Tryz.sizeOf185
 v51:=Tryz.zeroValue185
 t146:=Tryz.underlying186
 a146:=Tryz.isAgg186
 z146:=Tryz.sizeOf186
 v146:=Tryz.zeroValue186
 g1:=by kernel_rfl}
open Go.RowKit Go.Lib in
def Tryz.strings_Contains_one(s:ByteArray)(c:UInt8)(w:World):
  Calls Tryz.prog 177 #[.string s,.string ⟨#[c]⟩] w λe w'=>e=.returned (.bool (decide (0<=Lib.indexByte s.data.toList c)))/\w'=w:=Any.strings_Contains_one Tryz.lays144 s c w
end Go.Proofs
namespace Go.Proofs.YthmchnpcplgciaaGreatDoor
open Go Go.Vm
def afU{X:Ctx}(hP:X.P=Tryz.prog)(hm:∀i,i<2->PG X.TI 177 i=0)(fn:Func)(args:List V)(cells:List Cell)(rows:au)(outs:List Cell)(hf:X.P.funcs[177]? =some fn)(h:Prim.strings_Contains args cells=some (rows,outs))
  (base:Nat) (U:Nat->Prop) (w:World) (gargs nG:List Value) (N1 N2:List Nat) (hG:Given X base U w 177 args cells gargs nG N1 N2):
  Calls X.P 177 gargs.toArray w λe w'=>∃gs M1 M2,e=.returned (afl gs)/\Did X.P U w w' (N1++N2) fn.resultTypes.toList cells outs nG rows gs M1 M2:=by
 unfold Prim.strings_Contains at h;split at h
 ·rename_i s t;unfold M.strings_Contains at h;split at h
  ·rename_i c;cases h;obtain⟨rfl,rfl,rfl,hs⟩:=avU hG hm;rw[aqY hs];rw[hP] at hf|-;have hfn:fn.resultTypes.toList=[4]:=by rw[Tryz.func177] at hf;cases hf;rfl
   refine(Tryz.strings_Contains_one ⟨⟨s⟩⟩ c w).mono ?_;rintro e w' ⟨rfl,rfl⟩;rw[hfn];exact⟨[_],[],[],rfl,aqZ (by kernel_rfl) (by kernel_rfl) (λ_ _=>⟨rfl,rfl⟩) (Keep.refl _ _)⟩
  ·cases h
 ·cases h
end Go.Proofs.YthmchnpcplgciaaGreatDoor
namespace Go.Proofs.YthmchnpcplgciaaGreatDoor
open Go Go.Vm Go.RowKit
set_option maxRecDepth 100000 in
def arU{n:Nat}{row:Row}(h:tyD Tryz.prog (n+2) 22 row):∃c:aI,row=[.sl false 1 (c.map byteRow)]/\c.length<=maxLen:=by
 obtain⟨rows,rfl,hl,hr⟩:=aE6 Tryz.underlying22 h;obtain⟨c,rfl,_⟩:=anO (f:=byteRow) (p:=λ_=>True) (λr hr'=>by
  obtain⟨x,rfl,hx⟩:=azz Tryz.underlying5 (hr r hr');have h':0<=x/\x<=255:=by simp[Lit.wf,IntKind.min,IntKind.max,IntKind.signed,IntKind.bits] at hx;omega
  refine⟨UInt8.ofNat x.toNat, ?_,trivial⟩;rw[byteRow,UInt8.toNat_ofNat'];congr 2;omega)
 exact⟨c,rfl,by simpa using hl⟩
def aHD:alN X0:=by
 intro f p fn args cells rows outs hx hf hb h base U w gargs nG N1 N2 hG;have hx':(bif Nat.beq f 202 then some Prim.kQ else bif Nat.beq f 177 then some Prim.strings_Contains else none)=some p:=hx;cases hq:Nat.beq f 202 with
 |true=>rw[hq] at hx';cases hx';have e:=Ia hq;subst e;exact ajl rfl (by decide) fn args cells rows outs hf h base U w gargs nG N1 N2 hG
 |false=>
 rw[hq,aW] at hx';cases hq:Nat.beq f 177 with
 |true=>rw[hq] at hx';cases hx';have e:=Ia hq;subst e;exact afU rfl (by decide) fn args cells rows outs hf h base U w gargs nG N1 N2 hG
 |false=>rw[hq] at hx';cases hx'
def own:ownKnob Tryz.prog.godebug=none:=by kernel_rfl
def laidOut:laidOutB Tryz.prog=true:=by kernel_rfl
def gK : Tryz.prog.globalNamed "loop.example/g01543/impl.keywords" = some 1 := by kernel_rfl
def gS : Tryz.prog.globalNamed "loop.example/g01543/impl.signs" = some 2 := by kernel_rfl
def gB : Tryz.prog.globalNamed "loop.example/g01543/impl.builtins" = some 0 := by kernel_rfl
def tK:(Tryz.prog.globals[1]?).map (·.type)=some 173:=by kernel_rfl
def tS:(Tryz.prog.globals[2]?).map (·.type)=some 174:=by kernel_rfl
def tB:(Tryz.prog.globals[0]?).map (·.type)=some 172:=by kernel_rfl
def c9:Tryz.prog.cellsOf 9=1:=by kernel_rfl
def dK:(Rows.laid_loop_example_g01543_impl_keywords:DataW Unit)=.agg (Zm.map λs=> .lit (.string s)):=by kernel_rfl
def dS:(Rows.laid_loop_example_g01543_impl_signs:DataW Unit)=.agg (amB.map λs=> .lit (.string s)):=by kernel_rfl
def dB:(Rows.laid_loop_example_g01543_impl_builtins:DataW Unit)=.agg (apt.map λs=> .lit (.string s)):=by kernel_rfl
def rK:FI=Zm.map D.str:=by kernel_rfl
def rS:Wq=amB.map D.str:=by kernel_rfl
def rB:Nu=apt.map D.str:=by kernel_rfl
def au5{W:World}(hL:laidMetH Tryz.prog Rows.fnDerivedRow.laid W)(hS:W.ShapedOpen Tryz.prog):agq X0 (full W):=by
 rw[MakeChecks.laidMetH_plain _ _ _ (by kernel_rfl)] at hL;obtain⟨ps,⟨g0,t0,cs0,f0,p0,q0,hg0,ht0,hv0,hd0,⟨g1,t1,cs1,f1,p1,q1,hg1,ht1,hv1,hd1,⟨g2,t2,cs2,f2,p2,q2,hg2,ht2,hv2,hd2,_,_⟩,_⟩,_⟩,_,_⟩:=hL;obtain rfl:=Option.some.inj (gK.symm.trans hg0);obtain rfl:=Option.some.inj (gS.symm.trans hg1);obtain rfl:=Option.some.inj (gB.symm.trans hg2);obtain rfl:=Option.some.inj (tK.symm.trans ht0);obtain rfl:=Option.some.inj (tS.symm.trans ht1);obtain rfl:=Option.some.inj (tB.symm.trans ht2);rw[dK] at hd0;rw[dS] at hd1;rw[dB] at hd2;refine⟨λg row h=> ?_,λg h=> ?_⟩
 ·have h':(bif Nat.beq g 0 then some Nu else bif Nat.beq g 2 then some Wq else bif Nat.beq g 1 then some FI else none)=some row:=h;cases hq:Nat.beq g 0 with
  |true=>rw[hq] at h';cases h';have e:=Ia hq;subst e;rw[rB];exact adE Tryz.underlying172 Tryz.underlying9 c9 hg2 hv2 hd2
  |false=>
  rw[hq,aW] at h';cases hq:Nat.beq g 2 with
  |true=>rw[hq] at h';cases h';have e:=Ia hq;subst e;rw[rS];exact adE Tryz.underlying174 Tryz.underlying9 c9 hg1 hv1 hd1
  |false=>
  rw[hq,aW] at h';cases hq:Nat.beq g 1 with
  |true=>rw[hq] at h';cases h';have e:=Ia hq;subst e;rw[rK];exact adE Tryz.underlying173 Tryz.underlying9 c9 hg0 hv0 hd0
  |false=>rw[hq] at h';cases h'
 ·have h':(bif Nat.beq g 3 then true else false)=true:=h;cases hq:Nat.beq g 3 with
  |false=>rw[hq] at h';cases h'
  |true=>have e:=Ia hq;subst e;exact Go.Proofs.cell_of_shapedOpen_int (zero:=#[.int .i64 0]) hS (of_decide_eq_true (by kernel_rfl)) (by kernel_rfl) rfl (by kernel_rfl) (by kernel_rfl) Tryz.underlying3
end Go.Proofs.YthmchnpcplgciaaGreatDoor
