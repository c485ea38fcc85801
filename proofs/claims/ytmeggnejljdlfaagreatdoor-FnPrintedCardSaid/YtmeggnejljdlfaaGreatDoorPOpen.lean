import Derived.Test.YtmeggnejljdlfaaGreatDoorXRend
import Derived.Lib.SplitLaws
import Derived.Shelf.Strings.Builder1
import Derived.Shelf.Strings.Builder2
import Derived.Shelf.Strings.OnBuilder
import Derived.Shelf.Strings.BuilderF
import Derived.Shelf.Utf8.RuneCount
import Derived.Shelf.Strings.Search1
import Derived.Shelf.Strings.Search2
import Derived.Shelf.Strings.Search3
import Derived.Shelf.Strings.Count
import Derived.Shelf.LaysM
import Derived.Shelf.Strings.Shaped
import Derived.Shelf.Strings.Prefix
import Derived.Shelf.Strings.Split
import Derived.Shelf.Strings.SplitShaped
import Derived.Shelf.Bits.Mul64
import Derived.Shelf.Strings.Repeat
import Derived.Shelf.Unicode.DecodeSlow
import Derived.Shelf.Unicode.DecodeAny
import Derived.Test.YtmeggnejljdlfaaGreatDoorProg
import Derived.Test.YtmeggnejljdlfaaGreatDoorRows
set_option linter.defProp false
set_option linter.unusedVariables false
set_option linter.unusedSimpArgs false
open Go.IntKind (i64)
namespace Go.Proofs.YtmeggnejljdlfaaGreatDoor
open Go Go.Vm
mutual
def txs:Tn->Nat
 | .mk _ _ x _ ks=>x.length+uT ks
def uT:List Tn->Nat
 |[]=>0
 |t::ts=>txs t+uT ts
end
def UJ:∀a b:List Tn,uT (a++b)=uT a+uT b
 |[],b=>by simp[uT]
 |t::a,b=>by rw[VE,uT,uT,UJ a b];omega
def arA:∀{ks:List Tn} {t:Tn},t∈ks->txs t<=uT ks
 |[],_,h=>by cases h
 |u::us,t,h=>by
  rw[uT];rcases List.mem_cons.1 h with rfl|h
  ·omega
  ·have:=arA h;omega
mutual
def atJ(X:Nat):∀(t:Tn) (b:Nat),(∀n,n∈t.flat b->n.text.length<=X)->txs t<=X * t.size
 | .mk k o x y ks,b,h=>by
  rw[Tn.flat] at h;have h1:=avd X ks b λn hn=>h n (List.mem_append_left _ hn)
  have h2:x.length<=X:=h ⟨k,o,x,y,ends ks b⟩ (by simp);rw[txs,Tn.size,Nat.mul_add,Nat.mul_one];omega
def avd(X:Nat):∀(ks:List Tn) (b:Nat),(∀n,n∈jE ks b->n.text.length<=X)->uT ks<=X * sizes ks
 |[],b,_=>by simp[uT]
 |t::ts,b,h=>by
  rw[jE] at h;have h1:=atJ X t b λn hn=>h n (List.mem_append_left _ hn)
  have h2:=avd X ts _ λn hn=>h n (List.mem_append_right _ hn)
  rw[uT,sizes,Nat.mul_add];omega
end
def aBv(n:Nd):Bool:=Yp n.kind n.op n.text n.kids.length
mutual
def akm:∀(t:Tn) (b:Nat),(t.flat b).all aBv=(dOk t)
 | .mk k o x y ks,b=>by rw[Tn.flat,List.all_append,am4 ks b,dOk];simp[aBv,eH]
def am4:∀(ks:List Tn) (b:Nat),(jE ks b).all aBv=Zv ks
 |[],_=>rfl
 |t::ts,b=>by rw[jE,List.all_append,akm t b,am4 ts _,Zv]
end
def akn{α:Type}(f:α->Bool):∀(l:List α) (i:Nat),XI (λ_ x=>f x) l i=l.all f
 |[],_=>rfl
 |x::l,i=>by rw[XI,akn f l,List.all_cons]
section
variable {t:Tn} {o:Bool} (h:t.size<=90000000)
include h
theorem Y9:(t.flat 0).length<=90000000/\∀n,n∈t.flat 0->n.kids.length<=90000000:=
 ⟨by rw[t.flat_length];exact h,λn hn=>by have:=(Yk t 0 n hn).1;omega⟩
theorem arB:∃q:Nat,(t.size:Int) - 1=(q:Int)/\(t.sts 0)[q]? =some 0:=by obtain⟨u,hu,hul⟩:=t.aiJ 0;have hp:=t.size_pos;refine⟨u.length,ak, ?_⟩;rw[hu,List.getElem?_append_right (zaO _),Nat.sub_self];rfl
theorem ad1:(M.qy (dG o (t.flat 0))).map (·.2)=some (decide (t.size<=4000)):=by
 have hp:=t.size_pos;obtain⟨h1,h2⟩:=Y9 h;have hout:=Zm (t.flat 0) o h1 h2 (t.flat 0) 0 [] rfl rfl (Nat.zero_le _) V8;simp only[M.qy,M.Fq,RF,ah,jy,t.flat_length]
 by_cases hs:t.size<=4000
 ·have e0:encI ([]++List.replicate ((t.flat 0).length - 0) 0)=List.replicate ((t.size:Int)).toNat [D.int .i64 0]:=by simp[encI,t.flat_length]
  rw[e0,pU,ZY,t.flat_length] at hout;rw[zdt (show(1:Int)<=t.size by omega),zdt (show(t.size:Int)<=4000 by omega),Bool.true_and,zaN,bg,hout];have hg:(decide (0<=(t.size:Int)) && decide ((t.size:Int)<=(t.size:Int)) && decide ((t.size:Int) * 8<=140737488355328) && decide ((t.size:Int)<=140737488355328))=true:=by simp;omega
  obtain⟨q,hq1,hq2⟩:=arB h;simp only[hg,aK,ah,rO,letE];rw[aB ak ak,hq1];simp only[bC,nI,hq2,Oa,ah,NV,VO,zB,aK];rw[zdt hs];rfl
 ·rw[rH (show¬(t.size:Int)<=4000 by omega),Bool.and_false,Bool.not_false,aK,rH hs];rfl
theorem alr:M.D5 (dG o (t.flat 0))=some ((dOk t) && decide (t.size<=4000)):=by
 have hl:=Yj (t.flat 0) (λ_ n=>aBv n) (b:=M.OG (dG o (t.flat 0)) (dG o (t.flat 0)) ((t.flat 0).length:Int))
  (λi n hi=>by have hil:=(PN.1 hi).1;rw[t.flat_length] at hil;simp only[M.OG,M.Iq,t.flat_length,bC,vG,hi,Oa,ah,cD0,cD1,cD2,cD3,adZ,bf];rw[zdt ak,aK,aB ak ak];change _=some (bif Yp n.kind n.op n.text n.kids.length then _ else _);cases Yp n.kind n.op n.text n.kids.length<;>rfl)
  (by simp only[M.OG,M.Iq];rw[rH ak,bg])
 rw[akn,akm] at hl;have hs:=ad1 (o:=o) h;simp only[M.D5,M.QJ,M.IY,jy,hl,ah];cases hd:(dOk t) with
 |false=>rfl
 |true=>
  cases hx:M.qy (dG o (t.flat 0)) with
  |none=>rw[hx] at hs;cases hs
  |some r=>rw[hx] at hs;simp only[Oa,jF] at hs;simp only[aK,rO,letE,ah,hs,Bool.true_and]
theorem ad2:M.wS (dG o (t.flat 0))=some (encI (t.sts 0),true):=by obtain⟨h1,h2⟩:=Y9 h;have hout:=Zl (t.flat 0) o h1 h2 (t.flat 0) 0 [] rfl rfl (Nat.zero_le _) V8;rw[pU,ZY] at hout;have e0:encI []=[]:=rfl;rw[e0] at hout;simp only[M.wS,M.ML,hout,ah,rO,letE,zB,aK]
theorem als(hx:∀n,n∈t.flat 0->n.text.length<=1000000000):M.Ec (dG o (t.flat 0))=some ((dOk t) && decide (t.size<=4000)):=by
 have hp:=t.size_pos;simp only[M.Ec,M.Rn,RD,ah,jy,t.flat_length]
 by_cases hs:t.size<=4000
 ·have hl:=Yj (t.flat 0) (λ_ n=>aBv n) (b:=M.O7 (dG o (t.flat 0)))
   (λi n hi=>by have hil:=(PN.1 hi).1;have hxn:=hx n (AU hi);rw[t.flat_length] at hil;simp only[M.O7,M.IE,jy,t.flat_length,bC,vG,hi,Oa,ah,cD0,cD1,cD2,cD3,ag1 _ _ n.text _ ak,bf];rw[zdt ak,aK,aB ak ak];change _=some (bif Yp n.kind n.op n.text n.kids.length then _ else _);cases Yp n.kind n.op n.text n.kids.length<;>rfl)
   (by simp only[M.O7,M.IE,jy];rw[rH ak,bg])
  rw[akn,akm] at hl;rw[zdt (show(1:Int)<=t.size by omega),zdt (show(t.size:Int)<=4000 by omega),Bool.true_and,zaN,bg,M.Uk,hl,ah,zdt hs,Bool.and_true];cases hd:(dOk t) with
  |false=>rfl
  |true=>obtain⟨q,hq1,hq2⟩:=arB h;simp only[aK,rO,letE,ad2 (o:=o) h,ah];rw[aB ak ak,hq1];simp only[bC,nI,hq2,Oa,ah,NV,VO];rfl
 ·rw[rH (show¬(t.size:Int)<=4000 by omega),Bool.and_false,Bool.not_false,aK,rH hs,Bool.and_false]
end
def am5:M.D5 []=some false/\M.Ec []=some false:=by
 constructor
 ·have:M.IY [] [] 0 0=some (.inr 0):=by rw[M.IY];exact bP rfl
  simp only[M.D5,M.QJ,uH,pU,this,ah,rO,letE,M.qy,M.Fq,RF];rfl
 ·simp only[M.Ec,M.Rn,RD,ah,uH,pU];rfl
def grp(l:List Nd):Int:=((l.filter (·.kind==5)).length:Int)
def arC(l:List Nd)(o:Bool)(hl:l.length<=90000000):M.zf (dG o l)=some (grp l):=by
 have hg:∀i,((l.take i).filter (·.kind==5)).length<=l.length:=λi=>Nat.le_trans (List.length_filter_le _ _) (by rw[VF];omega)
 have hloop:=ji (b:=M.Hg (dG o l) (l.length:Int)) (t:=(grp l,(l.length:Int))) (λi=>(grp (l.take i),(i:Int))) l.length
  (by
   intro i hi;obtain⟨n,hn⟩:∃n,l[i]? =some n:=⟨l[i],by simp[hi]⟩
   have hgi:=hg i;simp only[M.Hg,M.Ae,bC,vG,hn,Oa,ah,cD0,cD1,cD2,cD3];rw[zdt ak,aK,fV hn,grp,grp,List.filter_append];cases hk:n.kind==5 with
   |true=>rw[aK,aB ak ak,aB ak ak];simp[hk]
   |false=>rw[bg,aB ak ak];simp[hk])
  (by simp only[M.Hg,M.Ae];rw[rH ak,bg,List.take_length]) 0 (Nat.zero_le _)
 have e0:grp (l.take 0)=0:=rfl;rw[e0,pU] at hloop;simp only[M.zf,M.OH,jy,M.LZ,hloop,ah]
mutual
def arD(l:List Nd):Tn->Nat->Row
 | .mk k n x _ ks,b=>[.int .i64 k,.int .i64 n,.str x,.sl true 5 (AL l ks b),.int .i64 (grp (l.take (b+sizes ks)))]
def AL(l:List Nd):List Tn->Nat->au
 |[],_=>[]
 |t::ts,b=>arD l t b::AL l ts (b+t.size)
end
def abJ(l:List Nd):∀(a c:List Tn) (b:Nat),AL l (a++c) b=AL l a b++AL l c (b+sizes a)
 |[],c,b=>by simp[AL,sizes]
 |t::a,c,b=>by rw[VE,AL,AL,abJ l a c,sizes,VE,Nat.add_assoc]
def arE{l:List Nd}{ks:List Tn}{j:Nat}{t:Tn}{b:Nat}(hj:ks[j]? =some t):AL l (ks.take (j+1)) b=AL l (ks.take j) b++[arD l t (b+sizes (ks.take j))]:=by rw[fV hj,abJ];rfl
def abK(l:List Nd):∀(ks:List Tn) (b:Nat),(AL l ks b).length=ks.length
 |[],_=>rfl
 |t::ts,b=>by rw[AL,mQ,abK l ts,mQ]
def aBw(l:List Nd)(t:Tn)(b:Nat):arD l t b=[.int .i64 t.kind,.int .i64 t.op,.str t.text,.sl true 5 (AL l t.kids b),.int .i64 (grp (l.take (b+sizes t.kids)))]:=by cases t;rfl
def aBx{l:List Nd}{o:Bool}(hl:l.length<=90000000)(t:Tn):∀(f b:Nat),Lies l b t->t.size<=f->
  M.o9 f (dG o l) ((b+sizes t.kids:Nat):Int)=some (t.kind,t.op,t.text,AL l t.kids b,grp (l.take (b+sizes t.kids))):=by
 refine Tn.ind (P:=λt=>∀(f b:Nat),Lies l b t->t.size<=f->M.o9 f (dG o l) ((b+sizes t.kids:Nat):Int)=some (t.kind,t.op,t.text,AL l t.kids b,grp (l.take (b+sizes t.kids)))) ?_ t;intro k op x y ks ih f b h hf;cases f with
 |zero=>rw[Tn.size] at hf;omega
 |succ f=>
  have hroot:l[b+sizes ks]? =some ⟨k,op,x,y,ends ks b⟩:=h.root;have hlt:=h.lt;rw[Tn.size] at hf hlt;have hkl:=jr ks;have hcut:cut (dG o l) 0 ((b+sizes ks:Nat):Int)=some (dG o (l.take (b+sizes ks))):=by rw[cut,zdt (Int.le_refl 0),zdt ak,zdt (by rw[jy];omega)];simp only[Bool.and_self,aK,Int.toNat_zero,List.drop_zero,VO,Nat.sub_zero,dG,List.map_take]
  have hgr:=arC (l.take (b+sizes ks)) o (by rw[VF];omega);simp only[M.o9,M.QK,bC,vG,Tn.kids,Tn.kind,Tn.op,Tn.text,hroot,Oa,ah,cD0,cD1,cD2,cD3,bf,eH,hcut,hgr];generalize hG:grp (l.take (b+sizes ks))=gg;have hrec:∀j t,ks[j]? =some t->M.o9 f (dG o l) ((b+sizes (ks.take j)+sizes t.kids:Nat):Int)=some (t.kind,t.op,t.text,AL l t.kids (b+sizes (ks.take j)),grp (l.take (b+sizes (ks.take j)+sizes t.kids))):=λj t hj=>ih t (AU hj) f _ (Lies.RG h hj) (by have:=KL hj;omega)
  have hloop:=ji (b:=M.Bh (M.o9 f))
   (t:=if ks=[] then .inl (dG o l,encI (ends ks b),(ks.length:Int),0,0,0,[],0,k,op,x,gg) else .inr (dG o l,encI (ends ks b),(ks.length:Int),(ks.length:Int),0,0,[],0,k,op,x,gg,AL l ks b))
   (λj=>if j=0 then .inl (dG o l,encI (ends ks b),(ks.length:Int),0,0,0,[],0,k,op,x,gg) else .inr (dG o l,encI (ends ks b),(ks.length:Int),(j:Int),0,0,[],0,k,op,x,gg,AL l (ks.take j) b)) ks.length
   (by
    intro j hj;obtain⟨t,ht⟩:∃t,ks[j]? =some t:=⟨ks[j],by simp⟩
    have hr:=hrec j t ht;have he:=YZ (b:=b) ht;rw[if_neg (show¬j+1=0 by omega),arE ht,aBw]
    by_cases h0:j=0
    ·subst h0;rw[if_pos rfl];have hi:idx (encI (ends ks b)) 0=some [D.int .i64 ((b+sizes (ks.take 0)+sizes t.kids:Nat):Int)]:=by have:=bC (encI (ends ks b)) 0;rw[pU] at this;rw[this,nI,he];rfl
     simp only[jU,M.Bh,M.xW,hi,ah,NV,hr];rw[zdt ak,aK];rfl
    ·rw[if_neg h0];simp only[jU,M.Bh,M.xW,bC,nI,he,Oa,ah,NV,hr,abK,VF,JU];rw[zdt ak,aK,aS ak,aK,aS ak,aK,aB ak ak];rfl)
   (by
    by_cases h0:ks.length=0
    ·have he:ks=[]:=List.length_eq_zero_iff.1 h0;rw[if_pos h0,if_pos he];simp only[jU,M.Bh,M.xW];rw[rH ak,bg]
    ·have he:¬ks=[]:=λe=>h0 (by rw[e];rfl)
     rw[if_neg h0,if_neg he,List.take_length];simp only[jU,M.Bh,M.xW];rw[rH ak,bg]) 0 (Nat.zero_le _)
  rw[if_pos rfl] at hloop;rw[M.TU,hloop,ah]
  by_cases he:ks=[]
  ·rw[if_pos he,he];rfl
  ·rw[if_neg he];rfl
def aBy{t:Tn}{o:Bool}(h:t.size<=90000000):M.Ko (dG o (t.flat 0))=some (t.kind,t.op,t.text,AL (t.flat 0) t.kids 0,grp ((t.flat 0).take (sizes t.kids))):=by have hs:=t.uf;have h1:=M.ale (aBx (o:=o) (Y9 h).1 t t.size 0 (Lies.whole t) (zaO _));rw[Nat.zero_add] at h1;simp only[M.Ko,M.Vw,jy,t.flat_length];rw[aB ak ak,show(t.size:Int) - 1=((sizes t.kids:Nat):Int) by omega,h1,ah]
mutual
def dcR:Tn->Row->Prop
 | .mk k n x _ ks,r=>∃rows g,r=[.int .i64 k,.int .i64 n,.str x,.sl false 5 rows,.int .i64 g]/\U6 ks rows
def U6:List Tn->au->Prop
 |[],rows=>rows=[]
 |t::ts,rows=>∃r rs,rows=r::rs/\dcR t r/\U6 ts rs
end
def ad3(t:Tn)(r:Row):dcR t r↔∃rows g,r=[.int .i64 t.kind,.int .i64 t.op,.str t.text,.sl false 5 rows,.int .i64 g]/\U6 t.kids rows:=by cases t;rfl
def KW:∀{ts:List Tn} {rows:au},U6 ts rows->rows.length=ts.length
 |[],_,h=>by rw[U6] at h;rw[h];rfl
 |t::ts,_,h=>by obtain⟨r,rs,rfl,_,h2⟩:=h;rw[mQ,KW h2,mQ]
def af7:∀{a b:List Tn} {ra rb:au},U6 a ra->U6 b rb->U6 (a++b) (ra++rb)
 |[],_,_,_,h,h2=>by rw[U6] at h;subst h;exact h2
 |t::ts,_,_,_,⟨r,rs,e,h1,h2⟩,h3=>by subst e;exact⟨r,_,rfl,h1,af7 h2 h3⟩
def ad4:∀{ts:List Tn} {rows:au} {j:Nat} {t:Tn},U6 ts rows->ts[j]? =some t->∃r,rows[j]? =some r/\dcR t r
 |[],_,_,_,_,h=>by simp at h
 |u::ts,_,0,t,⟨r,rs,rfl,h1,_⟩,h=>by cases h;exact⟨r,rfl,h1⟩
 |u::ts,_,j+1,t,⟨r,rs,rfl,_,h2⟩,h=>by rw[List.getElem?_cons_succ] at h|-;exact ad4 h2 h
mutual
def aK3:∀(t:Tn) (r:Row),dcR t r->qo r=r
 | .mk k n x y ks,r,⟨rows,g,e,h⟩=>by subst e;simp only[qo,D.fz,aoG ks rows h]
def aoG:∀(ts:List Tn) (rows:au),U6 ts rows->aG rows=rows
 |[],_,h=>by rw[U6] at h;subst h;rfl
 |t::ts,_,⟨r,rs,e,h1,h2⟩=>by subst e;rw[aG,aK3 t r h1,aoG ts rs h2]
end
mutual
def awO(l:List Nd):∀(t:Tn) (b:Nat),dcR t (qo (arD l t b))
 | .mk k n x y ks,b=>⟨aG (AL l ks b),_,rfl,aaK l ks b⟩
def aaK(l:List Nd):∀(ts:List Tn) (b:Nat),U6 ts (aG (AL l ts b))
 |[],_=>rfl
 |t::ts,b=>⟨qo (arD l t b),aG (AL l ts (b+t.size)),rfl,awO l t b,aaK l ts _⟩
end
def bytesOf_map:∀s:aA,bytesOf (s.map byteRow)=some s
 |[]=>rfl
 |c::s=>by
  have h:asByte (byteRow c)=some c:=by simp only[byteRow,asByte];simp
  rw[PO,bytesOf,h,bytesOf_map s]
def KX(s:aA):ay (s.map byteRow)=true:=by simp only[ay,List.all_map,List.all_eq_true];intro x _;rfl
mutual
def ad5:∀(t:Tn) (s:aA),Et t=some s->s.length<=txs t+t.size
 | .mk k n x y ks,s,h=>by
  rw[Et] at h;rw[txs,Tn.size];cases h1:k==1 with
  |true=>rw[h1,aK] at h;cases h;omega
  |false=>
   rw[h1,bg] at h;cases h2:k==2 with
   |true=>rw[h2,aK] at h;cases h;simp only[JU];omega
   |false=>
    rw[h2,bg] at h;cases h3:k==3 with
    |true=>rw[h3,aK] at h;cases h
    |false=>rw[h3,bg] at h;have:=am6 ks s h;omega
def am6:∀(ts:List Tn) (s:aA),AY ts=some s->s.length<=uT ts+sizes ts
 |[],s,h=>by cases h;simp
 |t::ts,s,h=>by
  rw[AY] at h;rw[uT,sizes];cases ha:Et t with
  |none=>rw[ha] at h;cases h
  |some a=>
   rw[ha] at h;cases hb:AY ts with
   |none=>rw[hb] at h;cases h
   |some b=>rw[hb] at h;cases h;have h1:=ad5 t a ha;have h2:=am6 ts b hb;rw[rJ];omega
end
def flR(o:Option (aA)):aA×Bool:=match o with
 |some s=>(s,true)
 |none=>([],false)
def aGu(t:Tn):∀(f:Nat) (rows:au) (g:Int),t.size<=f->U6 t.kids rows->txs t+t.size<=20000000000000->
  M.lK f t.kind t.op t.text rows g=some (flR (Et t)):=by
 refine Tn.ind (P:=λt=>∀(f:Nat) (rows:au) (g:Int),t.size<=f->U6 t.kids rows->txs t+t.size<=20000000000000->M.lK f t.kind t.op t.text rows g=some (flR (Et t))) ?_ t;intro k n x y ks ih f rows g hf hr hx;cases f with
 |zero=>rw[Tn.size] at hf;omega
 |succ f=>
  rw[Tn.size] at hf;rw[txs,Tn.size] at hx;simp only[M.lK,M.Ir,Tn.kids,Tn.kind,Tn.op,Tn.text,Et] at hr|-;cases h1:k==1 with
  |true=>rfl
  |false=>
  cases h2:k==2 with
  |true=>rfl
  |false=>
  cases h3:k==3 with
  |true=>rfl
  |false=>
  simp only[bg];have hrl:=KW hr;have hkl:=jr ks;have key:∀(ts:List Tn) (j:Nat) (acc:aA),ks.drop j=ts->j<=ks.length->acc.length+(uT ts+sizes ts)<=20000000000000->
    dU (M.uy (M.lK f) rows (rows.length:Int)) ((j:Int),acc.map byteRow)=some (match AY ts with
     |none=> .inl ()
     |some s=> .inr ((rows.length:Int),(acc++s).map byteRow)):=by
   intro ts;induction ts with
   |nil=>intro j acc hd hj _;have:ks.length<=j:=List.drop_eq_nil_iff.1 hd;have:j=rows.length:=ak;subst this;apply bP;simp only[M.uy,M.uw,AY];rw[rH ak,bg,List.append_nil]
   |cons u ts ihl=>
    intro j acc hd hj hl;have hu:ks[j]? =some u:=by
     have:(ks.drop j)[0]? =some u:=by rw[hd];rfl
     simpa using this
    have hlt:j<ks.length:=(PN.1 hu).1;have hd':ks.drop (j+1)=ts:=by rw[<-List.drop_drop,hd];rfl
    obtain⟨r,hrj,hrD⟩:=ad4 hr hu;obtain⟨rows',g',rfl,hk'⟩:=(ad3 u r).1 hrD;have hmem:=AU hu;have hsz:=iP hmem;have htx:=arA hmem;have hfu:=ih u hmem f rows' g' ak hk' ak;rw[uT,sizes] at hl;have c0:bM .i64 [D.int .i64 u.kind,.int .i64 u.op,.str u.text,.sl false 5 rows',.int .i64 g'] 0=some u.kind:=rfl;have c1:bM .i64 [D.int .i64 u.kind,.int .i64 u.op,.str u.text,.sl false 5 rows',.int .i64 g'] 1=some u.op:=rfl;have c2:cStr [D.int .i64 u.kind,.int .i64 u.op,.str u.text,.sl false 5 rows',.int .i64 g'] 2=some u.text:=rfl;have c3:NP 5 [D.int .i64 u.kind,.int .i64 u.op,.str u.text,.sl false 5 rows',.int .i64 g'] 3=some rows':=rfl;have c4:bM .i64 [D.int .i64 u.kind,.int .i64 u.op,.str u.text,.sl false 5 rows',.int .i64 g'] 4=some g':=rfl;rw[AY];cases hfx:Et u with
    |none=>apply bP;simp only[M.uy,M.uw,bC,hrj,ah,c0,c1,c2,c3,c4,hfu,hfx,flR,Bool.not_false,aK];rw[zdt ak,aK]
    |some a=>
     have hal:=ad5 u a hfx;have hs:M.uy (M.lK f) rows (rows.length:Int) ((j:Int),acc.map byteRow)=some (.inl (((j+1:Nat):Int),(acc++a).map byteRow)):=by simp only[M.uy,M.uw,bC,hrj,ah,c0,c1,c2,c3,c4,hfu,hfx,flR,zaN,bg,zaP];rw[zdt ak,aK,aS ak,aK,aS ak,aK,aB ak ak,List.map_append];rfl
     rw[dN hs,ihl (j+1) (acc++a) hd' hlt (by rw[rJ];omega)];cases AY ts with
     |none=>rfl
     |some b=>simp only[JR]
  have h0:=key ks 0 [] rfl (Nat.zero_le _) (by simp only[uH];omega);have e0:([]:aA).map byteRow=[]:=rfl;rw[pU,e0] at h0;rw[M.Jt,h0];cases AY ks with
  |none=>rfl
  |some s=>simp only[ah,rO,letE,List.nil_append,bytesOf_map,flR]
def ako:∀a b:List Tn,WM (a++b)=bif(WM a).2 then WM a else((WM a).1+(WM b).1,(WM b).2)
 |[],b=>by simp[WM]
 |t::a,b=>by
  rw[VE,WM,WM,ako a b];cases h:(bh t).2 with
  |true=>simp[h]
  |false=>simp only[bg];cases h2:(WM a).2<;>simp[Nat.add_assoc,h2]
mutual
def aYj:∀t:Tn,(bh t).1<=txs t
 | .mk k n x y ks=>by
  have:=akp ks;rw[bh,txs];cases k==2||k==3 with
  |true=>simp
  |false=>cases k==1<;>simp<;>omega
def akp:∀ts:List Tn,(WM ts).1<=uT ts
 |[]=>by simp[WM]
 |t::ts=>by have h1:=aYj t;have h2:=akp ts;rw[WM,uT];cases(bh t).2<;>simp<;>omega
end
def ahD{α:Type}(a:List α)(x:α):(a.reverse++[x])[a.length]? =some x:=by rw[List.getElem?_append_right (by simp)];simp
def arF(w:Row)(c i k n:Int)(x:aA)(g:Int){ks:List Tn}{rows:au}(hr:U6 ks rows)(hk:ks.length<=2000000000)(st:au)(hl:st.length<=2000000000):
  M.nN w c i k n x rows g ((rows.length:Int) - 1,st)=some (-1,st++rows.reverse):=by
 have hrl:=KW hr;have key:∀(j:Nat),j<=ks.length->dU (M.wz w c i k n x rows g) ((j:Int) - 1,st++(rows.drop j).reverse)=some (-1,st++rows.reverse):=by
  intro j;induction j with
  |zero=>intro _;apply bP;simp only[jU,M.wz,M.qE];rw[rH ak,bg];rfl
  |succ j ihj=>
   intro hj;obtain⟨u,hu⟩:∃u,ks[j]? =some u:=⟨ks[j],by simp⟩
   obtain⟨r,hrj,hrD⟩:=ad4 hr hu;obtain⟨rows',g',rfl,hk'⟩:=(ad3 u r).1 hrD;have c0:bM .i64 [D.int .i64 u.kind,.int .i64 u.op,.str u.text,.sl false 5 rows',.int .i64 g'] 0=some u.kind:=rfl;have c1:bM .i64 [D.int .i64 u.kind,.int .i64 u.op,.str u.text,.sl false 5 rows',.int .i64 g'] 1=some u.op:=rfl;have c2:cStr [D.int .i64 u.kind,.int .i64 u.op,.str u.text,.sl false 5 rows',.int .i64 g'] 2=some u.text:=rfl;have c3:NP 5 [D.int .i64 u.kind,.int .i64 u.op,.str u.text,.sl false 5 rows',.int .i64 g'] 3=some rows':=rfl;have c4:bM .i64 [D.int .i64 u.kind,.int .i64 u.op,.str u.text,.sl false 5 rows',.int .i64 g'] 4=some g':=rfl;have hlen:(st++(rows.drop (j+1)).reverse).length<=4000000000:=by simp;omega
   have hdr:rows.drop j=[D.int .i64 u.kind,.int .i64 u.op,.str u.text,.sl false 5 rows',.int .i64 g']::rows.drop (j+1):=by obtain⟨h1,h2⟩:=PN.1 hrj;rw[List.drop_eq_getElem_cons h1,h2]
   rw[show(((j+1:Nat):Int) - 1)=(j:Int) by omega,<-ihj ak,hdr,List.reverse_cons,<-JR];refine dN ?_;simp only[jU,M.wz,M.qE,bC,hrj,ah,c0,c1,c2,c3,c4,JU];rw[zdt ak,aK,aS ak,aK,aS ak,aK,aB ak ak]
 have:=key rows.length ak;rw[List.drop_length,List.reverse_nil,List.append_nil] at this;exact this
def S6(w:Row)(c i:Int)(st:au)(s:(Row×Int×Int×au)⊕(Row×Int×Int×Int×Bool×au×Int×Int×aA×au×Int)):Prop:=
 s=.inl (w,c,i,st)\/∃a b d e f g h,s=.inr (w,c,i,a,b,st,d,e,f,g,h)
def awP(w:Row)(i:Int):∀(m:Nat) (us:List Tn) (rows:au) (c:Nat) (s:_),sizes us<=m->m<=1000000000->U6 us rows->c+uT us<=20000000000000->S6 w c i rows.reverse s->
  dU M.iL s=some (bif(WM us).2 then .inl ((c+(WM us).1:Nat):Int) else .inr (w,((c+(WM us).1:Nat):Int),i,[])):=by
 intro m;induction m with
 |zero=>
  intro us rows c s hm hmb hr hc hs;cases us with
  |cons u us=>have:=u.size_pos;rw[sizes] at hm;omega
  |nil=>
   rw[U6] at hr;subst hr;apply bP;rcases hs with rfl|⟨a,b,d,e,f,g,h,rfl⟩
   ·simp only[M.iL,M.iK,List.reverse_nil,uH,WM];rfl
   ·simp only[M.iL,M.iK,List.reverse_nil,uH,WM];rfl
 |succ m ih=>
  intro us rows c s hm hmb hr hc hs;cases us with
  |nil=>
   rw[U6] at hr;subst hr;apply bP;rcases hs with rfl|⟨a,b,d,e,f,g,h,rfl⟩
   ·simp only[M.iL,M.iK,List.reverse_nil,uH,WM];rfl
   ·simp only[M.iL,M.iK,List.reverse_nil,uH,WM];rfl
  |cons u us=>
   obtain⟨k,n,x,y,ks⟩:=u;obtain⟨r,rs,rfl,hD,hDs⟩:=hr;obtain⟨rows',g',rfl,hk'⟩:=hD;have hrl:=KW hDs;have hkl:=KW hk';have hs1:=jr us;have hs2:=jr ks;rw[sizes,Tn.size] at hm;rw[uT,txs] at hc;generalize hR:[D.int .i64 k,.int .i64 n,.str x,.sl false 5 rows',.int .i64 g']=R at hs;have c0:bM .i64 R 0=some k:=by rw[<-hR];rfl
   have c1:bM .i64 R 1=some n:=by rw[<-hR];rfl
   have c2:cStr R 2=some x:=by rw[<-hR];rfl
   have c3:cRo 5 R 3=some rows':=by rw[<-hR];rfl
   have c4:bM .i64 R 4=some g':=by rw[<-hR];rfl
   have hlen:((R::rs).reverse.length:Int)=(rs.length:Int)+1:=by simp
   have hw1:i64.wrap ((rs.length:Int)+1 - 1)=(rs.length:Int):=(aB ak ak).trans ak;have hget:(R::rs).reverse[rs.length]? =some R:=by rw[List.reverse_cons];exact ahD rs R
   have htk:(R::rs).reverse.take rs.length=rs.reverse:=by rw[List.reverse_cons];exact List.take_left' (by simp)
   have hd:(decide ((0:Int)<=(rs.length:Int)) && decide ((rs.length:Int)<=(rs.length:Int)+1))=true:=by simp;omega
   have hkids:=fun(cc:Int)=>arF w cc i k n x g' hk' ak rs.reverse (by rw[List.length_reverse];omega)
   have hw2:i64.wrap ((rows'.length:Int) - 1)=(rows'.length:Int) - 1:=aB ak ak;have hgo:rs.reverse++rows'.reverse=(rows'++rs).reverse:=by rw[List.reverse_append]
   have hDk:U6 (ks++us) (rows'++rs):=af7 hk' hDs;rw[WM,bh];cases h2:k==2 with
   |true=>
    apply bP;have e2:k=2:=by simpa using h2
    have h1:(k==1)=false:=by rw[e2];rfl
    rcases hs with rfl|⟨a,b,d,e,f,g,h,rfl⟩<;>
    ·simp only[M.iL,M.iK,hlen,hw1,bC,VO,hget,ah,c0,c1,c2,c3,c4,hd,aK,h1,h2,bg];rw[zdt ak,aK];simp
   |false=>
   cases h3:k==3 with
   |true=>
    apply bP;have e3:k=3:=by simpa using h3
    have h1:(k==1)=false:=by rw[e3];rfl
    rcases hs with rfl|⟨a,b,d,e,f,g,h,rfl⟩<;>
    ·simp only[M.iL,M.iK,hlen,hw1,bC,VO,hget,ah,c0,c1,c2,c3,c4,hd,aK,h1,h2,h3,bg];rw[zdt ak,aK];simp
   |false=>
    generalize aBz:(bif k==1 then x.length else 0)=tx;have htx:tx<=x.length:=by rw[<-aBz];cases k==1<;>simp
    have hstep:∃s',M.iL s=some (.inl s')/\S6 w ((c+tx:Nat):Int) i (rows'++rs).reverse s':=by
     cases h1:k==1 with
     |true=>
      rw[h1,aK] at aBz;subst aBz;have hw3:i64.wrap ((c:Int)+(x.length:Int))=((c+x.length:Nat):Int):=(aB ak ak).trans ak;rcases hs with rfl|⟨a,b,d,e,f,g,h,rfl⟩<;>
      ·refine⟨_, ?_,.inr ⟨-1,false,k,n,x,rows',g',rfl⟩⟩
       ·simp only[M.iL,M.iK,hlen,hw1,bC,VO,hget,ah,c0,c1,c2,c3,c4,hd,aK,h1,htk,hw2,hkids,hw3,hgo];rw[zdt ak,aK]
     |false=>
      rw[h1,bg] at aBz;subst aBz;rcases hs with rfl|⟨a,b,d,e,f,g,h,rfl⟩<;>
      ·refine⟨_, ?_,.inr ⟨-1,false,k,n,x,rows',g',rfl⟩⟩
       ·simp only[M.iL,M.iK,hlen,hw1,bC,VO,hget,ah,c0,c1,c2,c3,c4,hd,aK,bg,h1,h2,h3,htk,hw2,hkids,hgo,Nat.add_zero];rw[zdt ak,aK]
    obtain⟨s',hb,hS⟩:=hstep;rw[dN hb,ih (ks++us) (rows'++rs) (c+tx) s' (by rw[jd];omega) ak hDk (by rw[UJ];omega) hS,ako];simp only[Bool.or_self,bg];cases hb2:(WM ks).2 with
    |true=>simp[hb2,Nat.add_assoc]
    |false=>simp only[bg];cases(WM us).2<;>simp[Nat.add_assoc]
def isP(p:Pc)(r:Row):Prop:=∃rows g,r=[.int .i64 p.1.kind,.int .i64 p.1.op,.str p.1.text,.sl false 5 rows,.int .i64 g,.int .i64 p.2.1,.bool p.2.2]/\U6 p.1.kids rows
def Yq:List Pc->au->Prop
 |[],rows=>rows=[]
 |p::ps,rows=>∃r rs,rows=r::rs/\isP p r/\Yq ps rs
def Xt:∀{ts:List Pc} {rows:au},Yq ts rows->rows.length=ts.length
 |[],_,h=>by rw[Yq] at h;rw[h];rfl
 |t::ts,_,⟨r,rs,e,_,h2⟩=>by subst e;rw[mQ,Xt h2,mQ]
def af8:∀{a b:List Pc} {ra rb:au},Yq a ra->Yq b rb->Yq (a++b) (ra++rb)
 |[],_,_,_,h,h2=>by rw[Yq] at h;subst h;exact h2
 |t::ts,_,_,_,⟨r,rs,e,h1,h2⟩,h3=>by subst e;exact⟨r,_,rfl,h1,af8 h2 h3⟩
def akq:∀{rows:au},(∀r,r∈rows->qo r=r)->aG rows=rows
 |[],_=>rfl
 |r::rs,h=>by rw[aG,h r zmf,akq (λx hx=>h x (zmm _ hx))]
def ave:∀{ps:List Pc} {rows:au},Yq ps rows->∀r,r∈rows->qo r=r
 |[],_,h,r,hr=>by rw[Yq] at h;subst h;cases hr
 |p::ps,_,⟨q,qs,e,⟨rows,g,e1,h1⟩,h2⟩,r,hr=>by
  subst e;rcases List.mem_cons.1 hr with rfl|hr
  ·subst e1;simp only[qo,D.fz,aoG _ rows h1]
  ·exact ave h2 r hr
def aBA{ps:List Pc}{rows:au}(h:Yq ps rows):aG rows.reverse=rows.reverse:=
 akq λr hr=>ave h r (List.mem_reverse.1 hr)
def Gf(st:List Pc):List Tn:=st.map (·.1)
def aa5(st:List Pc):st.length<=sizes (Gf st):=by have:=jr (Gf st);simpa[Gf] using this
def akr(w:Row)(all:au)(hw:NP 7 w 2=some all.reverse)(hall:all.length<=1000000000):∀(st:List Pc) (pre rows:au) (c:Nat),Yq st rows->all=pre++rows->sizes (Gf st)<=1000000000->c+uT (Gf st)<=20000000000000->
  dU M.rE (w,(c:Int),(rows.length:Int) - 1,[])=some (bif(WM (Gf st)).2 then .inl ((c+(WM (Gf st)).1:Nat):Int) else .inr (w,((c+(WM (Gf st)).1:Nat):Int), -1,[]))
 |[],pre,rows,c,h,ha,hs,hc=>by rw[Yq] at h;subst h;apply bP;rfl
 |(t,ii,ff)::st,pre,rows,c,h,ha,hs,hc=>by
  obtain⟨r,rs,rfl,⟨rows',g',rfl,hk'⟩,hPs⟩:=h;have hrl:=Xt hPs;have aK4:=aa5 st;have e1:Gf ((t,ii,ff)::st)=t::Gf st:=rfl;rw[e1,sizes] at hs;rw[e1,uT] at hc;have hb1:=akp [t];simp only[uT,Nat.add_zero] at hb1;generalize hR:[D.int .i64 t.kind,.int .i64 t.op,.str t.text,.sl false 5 rows',.int .i64 g',.int .i64 ii,.bool ff]=R at ha|-;have c0:bM .i64 R 0=some t.kind:=by rw[<-hR];rfl
  have c1:bM .i64 R 1=some t.op:=by rw[<-hR];rfl
  have c2:cStr R 2=some t.text:=by rw[<-hR];rfl
  have c3:NP 5 R 3=some rows':=by rw[<-hR];rfl
  have c4:bM .i64 R 4=some g':=by rw[<-hR];rfl
  have hget:all.reverse[rs.length]? =some R:=by rw[ha,List.reverse_append,List.reverse_cons,JR,List.getElem?_append_right (by simp)];simp
  have hD:U6 [t] [[D.int .i64 t.kind,.int .i64 t.op,.str t.text,.sl false 5 rows',.int .i64 g']]:=⟨_,[],rfl,(ad3 _ _).2 ⟨rows',g',rfl,hk'⟩,rfl⟩
  have hin:=awP w (rs.length:Int) t.size [t] _ c _ (by simp[sizes]) ak hD (by simp only[uT];omega) (.inl rfl);rw[List.reverse_singleton] at hin;have e2:(WM [t]).2=(bh t).2:=by cases hq:(bh t).2<;>simp[WM,hq]
  have e3:(WM [t]).1=(bh t).1:=by cases hq:(bh t).2<;>simp[WM,hq]
  rw[e2,e3] at hin;rw[e3] at hb1;have e4:(((R::rs).length:Nat):Int) - 1=(rs.length:Int):=by simp only[mQ];omega
  rw[e1,e4,WM];cases hq:(bh t).2 with
  |true=>apply bP;rw[hq,aK] at hin;simp only[jU,M.rE,M.rD,hw,bC,hget,ah,c0,c1,c2,c3,c4,uH,JU,List.nil_append,M.uO,hin,rO,aK,hq];rw[zdt ak,aK];rfl
  |false=>
   rw[hq,bg] at hin;have hstep:M.rE (w,(c:Int),(rs.length:Int),[])=some (.inl (w,((c+(bh t).1:Nat):Int),(rs.length:Int) - 1,[])):=by simp only[jU,M.rE,M.rD,hw,bC,hget,ah,c0,c1,c2,c3,c4,uH,JU,List.nil_append,M.uO,hin,rO,letE];rw[zdt ak,aK,aB ak ak];rfl
   rw[dN hstep,akr w all hw hall st (pre++[R]) rs (c+(bh t).1) hPs (by rw[ha];simp) ak ak];simp only[bg];cases(WM (Gf st)).2<;>simp[Nat.add_assoc]
def awQ(w:Row){st:List Pc}{rows:au}(h:Yq st rows)(hw:NP 7 w 2=some rows.reverse)(hs:sizes (Gf st)<=1000000000)(hc:uT (Gf st)<=20000000000000):
  M.oM w=some (((WM (Gf st)).1:Nat):Int):=by
 have hrl:=Xt h;have aK4:=aa5 st;have:=akr w rows hw ak st [] rows 0 h rfl hs ak;rw[Nat.zero_add,pU] at this;simp only[M.oM,M.CV,hw,ah,List.length_reverse,M.AP];rw[aB ak ak,this];cases(WM (Gf st)).2<;>rfl
def aYk{t:Tn}{rows':au}(g:Int)(hk:U6 t.kids rows'){st:List Pc}{rows:au}(h:Yq st rows)(s:aA)(col w:Int)(hs:t.size+sizes (Gf st)<=1000000000)(hc:txs t+uT (Gf st)<=10000000000000)
  (h0:0<=col) (h1:col<=40000000000000) (h2:0<=w) (h3:w<=10000):
  M.sO t.kind t.op t.text rows' g (s.map byteRow) col rows.reverse w=some (akl w col t st,s.map byteRow,col,rows.reverse,w):=by
 have hfl:=M.aeI (aGu t t.size rows' g (zaO _) hk ak);have hbe:=awQ [D.sl false 1 (s.map byteRow),D.int .i64 col,D.sl false 7 rows.reverse] h rfl ak ak;have aBB:=akp (Gf st);simp only[M.sO,M.L6,hfl,ah,aBA h,KX,aK];unfold akl;cases hx:Et t with
 |none=>rfl
 |some a=>have hal:=ad5 t a hx;have e1:i64.wrap ((a.length:Int)+((WM (Gf st)).1:Int))=(a.length:Int)+((WM (Gf st)).1:Int):=aB ak ak;have e2:i64.wrap (w - col)=w - col:=aB ak ak;simp only[flR,aK,hbe,ah,e1,e2];rfl
def aGv{ks:List Tn}{rows:au}(hr:U6 ks rows)(k n:Int)(x:aA)(g ii:Int)(ff:Bool)(s:aA)(col:Int)(st:au)(hk:ks.length<=1000000000)(hl:st.length<=1000000000):
  ∃ps,Yq (ks.map λt=>(t,ii,ff)) ps/\M.jl k n x rows g ii ff (s.map byteRow) col st=some (s.map byteRow,col,st++ps.reverse):=by
 have hrl:=KW hr;refine⟨rows.map (· ++[.int .i64 ii,.bool ff]), ?_, ?_⟩
 ·clear hk hrl;induction ks generalizing rows with
  |nil=>rw[U6] at hr;subst hr;rfl
  |cons u us ih=>obtain⟨r,rs,rfl,h1,h2⟩:=hr;obtain⟨rows',g',rfl,hk'⟩:=(ad3 u r).1 h1;exact⟨_,_,rfl,⟨rows',g',rfl,hk'⟩,ih h2⟩
 ·have key:∀(j:Nat),j<=ks.length->dU (M.AO ii ff col k n x rows g (s.map byteRow)) ((j:Int) - 1,st++((rows.drop j).map (· ++[D.int .i64 ii,.bool ff])).reverse)=some (-1,st++(rows.map (· ++[D.int .i64 ii,.bool ff])).reverse):=by
   intro j;induction j with
   |zero=>intro _;apply bP;simp only[jU,M.AO,M.uN];rw[rH ak,bg];rfl
   |succ j ihj=>
    intro hj;obtain⟨u,hu⟩:∃u,ks[j]? =some u:=⟨ks[j],by simp⟩
    obtain⟨r,hrj,hrD⟩:=ad4 hr hu;obtain⟨rows',g',rfl,hk'⟩:=(ad3 u r).1 hrD;have c0:bM .i64 [D.int .i64 u.kind,.int .i64 u.op,.str u.text,.sl false 5 rows',.int .i64 g'] 0=some u.kind:=rfl;have c1:bM .i64 [D.int .i64 u.kind,.int .i64 u.op,.str u.text,.sl false 5 rows',.int .i64 g'] 1=some u.op:=rfl;have c2:cStr [D.int .i64 u.kind,.int .i64 u.op,.str u.text,.sl false 5 rows',.int .i64 g'] 2=some u.text:=rfl;have c3:NP 5 [D.int .i64 u.kind,.int .i64 u.op,.str u.text,.sl false 5 rows',.int .i64 g'] 3=some rows':=rfl;have c4:bM .i64 [D.int .i64 u.kind,.int .i64 u.op,.str u.text,.sl false 5 rows',.int .i64 g'] 4=some g':=rfl;have hlen:(st++((rows.drop (j+1)).map (· ++[D.int .i64 ii,.bool ff])).reverse).length<=2000000000:=by simp;omega
    have hdr:rows.drop j=[D.int .i64 u.kind,.int .i64 u.op,.str u.text,.sl false 5 rows',.int .i64 g']::rows.drop (j+1):=by obtain⟨h1,h2⟩:=PN.1 hrj;rw[List.drop_eq_getElem_cons h1,h2]
    rw[show(((j+1:Nat):Int) - 1)=(j:Int) by omega,<-ihj ak,hdr,PO,List.reverse_cons,<-JR];refine dN ?_;simp only[jU,M.AO,M.uN,bC,hrj,ah,c0,c1,c2,c3,c4,JU];rw[zdt ak,aK,aS ak,aK,aS ak,aK,aB ak ak];rfl
  have:=key rows.length ak;rw[List.drop_length,List.map_nil,List.reverse_nil,List.append_nil] at this;simp only[M.jl,M.Ho,M.EF];rw[aB ak ak,this];simp only[ah,KX,aK]
def aGw(ii:Int)(s:aA)(col:Int)(st:au)(h0:0<=ii)(h1:ii<=200000)(hs:s.length<=80000000000000):M.mW ii (s.map byteRow) col st=some ((brk s ii).map byteRow,ii,st):=by
 have hrep:M.strings_Repeat [32] ii=some (List.replicate ii.toNat 32):=by rw[M.strings_Repeat,zdt h0,zdt ak,JU,aS (show 1<=1000000 by omega)];simp
 have e10:[[D.int .u8 10]]=[byteRow 10]:=rfl;have hb:s.map byteRow++[[D.int .u8 10]]++(List.replicate ii.toNat (32:UInt8)).map byteRow=(brk s ii).map byteRow:=by rw[brk,List.map_append,PO,e10];simp
 simp only[M.mW,M.Hl,hrep,ah,zaP,rJ,List.length_replicate,JU];rw[aS ak,aK,aS ak,aK,aS ak,aK,aS ak,aK,hb,KX,aK]
def aBC(st:List Pc):Prop:=∀p,p∈st->dOk p.1=true/\0<=p.2.1/\p.2.1+40 * p.1.size<=200000
def ad6:∀{ks:List Tn} {t:Tn},Zv ks=true->t∈ks->dOk t=true
 |[],_,_,h=>by cases h
 |u::us,t,h,ht=>by
  rw[Zv,xw] at h;rcases List.mem_cons.1 ht with rfl|ht
  ·exact h.1
  ·exact ad6 h.2 ht
def aBC.kids{k m:Int}{x y:aA}{ks:List Tn}{i:Int}{f:Bool}{st:List Pc}(h:aBC ((.mk k m x y ks,i,f)::st))(j:Int)(g:Bool)(h1:i<=j)(h2:j<=i+40):aBC (ks.map (λt=>(t,j,g))++st):=by
 intro p hp;rcases List.mem_append.1 hp with hp|hp
 ·obtain⟨t,ht,rfl⟩:=List.mem_map.1 hp;obtain⟨h3,h4,h5⟩:=h _ zmf;simp only[dOk,Tn.size,xw] at h3 h4 h5;have hsz:=iP ht;refine⟨ad6 h3.1 ht, ?_, ?_⟩<;>simp only<;>omega
 ·exact h p (zmm _ hp)
def avf{m:Int}{x:aA}{c:Nat}(h:Yp 4 m x c=true):0<=m/\m<=40:=by cases hx:(x==[])<;>simp[Yp,hx] at h;exact h.1
def ad7(ks:List Tn)(j:Int)(g:Bool)(st:List Pc):Gf (ks.map (λt=>(t,j,g))++st)=ks++Gf st:=by simp[Gf,List.map_append,Function.comp_def]
def sb{α β:Type}(a:α)(f:α->Option β):(some a).bind f=f a:=by cases h:f a<;>simp[h]
section
variable {k n i g w col:Int} {x:aA} {f:Bool} {rows' rs o:au}
def aYl(hl:rs.length<=1000000000):M.rF (col,w,o,([D.int .i64 k,.int .i64 n,.str x,.sl false 5 rows',.int .i64 g,.int .i64 i,.bool f]::rs).reverse)=
  (bif k==1 then(bif((o.length+(x.map byteRow).length) * 1).ble 140737488355328 then(bif(o.length+(x.map byteRow).length).ble 140737488355328 then some (.inl (i64.wrap (col+(x.length:Int)),w,o++x.map byteRow,rs.reverse)) else none) else none) else
   bif k==2 then(bif f then(bif((o.length+1) * 1).ble 140737488355328 then(bif(o.length+1).ble 140737488355328 then some (.inl (i64.wrap (col+1),w,o++[[D.int IntKind.u8 32]],rs.reverse)) else none) else none) else
    (bif ay o then((M.mW i o col rs.reverse).bind λr=>some (.inl (r.2.1,w,r.1,r.2.2))) else none)) else
   bif k==3 then(bif ay o then((M.mW i o col rs.reverse).bind λr=>some (.inl (r.2.1,w,r.1,r.2.2))) else none) else
   bif k==4 then(bif ay o then((M.jl k n x rows' g (i64.wrap (i+n)) f o col rs.reverse).bind λr=>some (.inl (r.2.1,w,r.1,r.2.2))) else none) else
   bif k==5 then(bif f then(bif ay o then((M.jl k n x rows' g i true o col rs.reverse).bind λr=>some (.inl (r.2.1,w,r.1,r.2.2))) else none) else
    (bif ay o then((M.sO k n x rows' g o col rs.reverse w).bind λr=>(bif ay r.2.1 then((M.jl k n x rows' g i r.1 r.2.1 r.2.2.1 r.2.2.2.1).bind λq=>some (.inl (q.2.1,r.2.2.2.2,q.1,q.2.2))) else none)) else none)) else
   (bif ay o then((M.jl k n x rows' g i f o col rs.reverse).bind λr=>some (.inl (r.2.1,w,r.1,r.2.2))) else none)):=by
 generalize hR:[D.int .i64 k,.int .i64 n,.str x,.sl false 5 rows',.int .i64 g,.int .i64 i,.bool f]=R;have c0:bM .i64 R 0=some k:=by rw[<-hR];rfl
 have c1:bM .i64 R 1=some n:=by rw[<-hR];rfl
 have c2:cStr R 2=some x:=by rw[<-hR];rfl
 have c3:cRo 5 R 3=some rows':=by rw[<-hR];rfl
 have c4:bM .i64 R 4=some g:=by rw[<-hR];rfl
 have c5:bM .i64 R 5=some i:=by rw[<-hR];rfl
 have c6:Sj R 6=some f:=by rw[<-hR];rfl
 have hlen:((R::rs).reverse.length:Int)=(rs.length:Int)+1:=by simp
 have aBD:i64.wrap ((rs.length:Int)+1 - 1)=(rs.length:Int):=(aB ak ak).trans ak;have hget:(R::rs).reverse[rs.length]? =some R:=by rw[List.reverse_cons];exact ahD rs R
 have htk:(R::rs).reverse.take rs.length=rs.reverse:=by rw[List.reverse_cons];exact List.take_left' (by simp)
 have hd:(decide ((0:Int)<=(rs.length:Int)) && decide ((rs.length:Int)<=(rs.length:Int)+1))=true:=by simp;omega
 have hgt:decide ((rs.length:Int)+1>0)=true:=zdt ak;simp only[M.rF,M.CW,hlen,aBD,hgt,bC,VO,hget,sb,c0,c1,c2,c3,c4,c5,c6,hd,aK,htk]
end
structure atK(m:Nat)(st:List Pc)(rows:au)(s:aA)(col:Int):Prop where
 sz:sizes (Gf st)<=m
 is:Yq st rows
 inv:aBC st
 pos:0<=col
 len:s.length+(uT (Gf st)+m * 200001)<=40000000000000
 col:col+(uT (Gf st)+m * 200001)<=40000000000000
 tx:uT (Gf st)<=10000000000000
def atK.rest{m:Nat}{k n:Int}{x y:aA}{ks:List Tn}{i:Int}{f:Bool}{st:List Pc}{r:Row}{rs:au}{s s':aA}{col col':Int}(h:atK (m+1) ((.mk k n x y ks,i,f)::st) (r::rs) s col)
  (h0:0<=col') (h1:s'.length<=s.length+(x.length+200001)) (h2:col'<=col+(x.length+200001)):atK m st rs s' col':=by
 obtain⟨a1,⟨r',rs',e,_,a2⟩,a3,a4,a5,a6,a7⟩:=h;cases e;simp only[Gf,PO,sizes,Tn.size,uT,txs] at a1 a5 a6 a7;refine⟨?_,a2,λp hp=>a3 p (zmm _ hp),h0, ?_, ?_, ?_⟩<;>simp only[Gf]<;>omega
def atK.kids{m:Nat}{k n:Int}{x y:aA}{ks:List Tn}{i:Int}{f:Bool}{st:List Pc}{r:Row}{rs ps:au}{s:aA}{col:Int}(h:atK (m+1) ((.mk k n x y ks,i,f)::st) (r::rs) s col)
  {j:Int} {g:Bool} (h1:i<=j) (h2:j<=i+40) (hp:Yq (ks.map λt=>(t,j,g)) ps):atK m (ks.map (λt=>(t,j,g))++st) (ps++rs) s col:=by
 obtain⟨a1,⟨r',rs',e,_,a2⟩,a3,a4,a5,a6,a7⟩:=h;cases e;simp only[Gf,PO,sizes,Tn.size,uT,txs] at a1 a5 a6 a7;refine⟨?_,af8 hp a2,a3.kids j g h1 h2,a4, ?_, ?_, ?_⟩<;>rw[ad7]<;>simp only[Gf,jd,UJ]<;>omega
def aK5(w:Int)(hw0:0<=w)(hw1:w<=10000):∀(m:Nat) (st:List Pc) (rows:au) (s:aA) (col:Int),m<=4000->atK m st rows s col->
  ∃col',dU M.rF (col,w,s.map byteRow,rows.reverse)=some (col',w,(lay w m st s col).map byteRow,[]):=by
 intro m;induction m with
 |zero=>
  intro st rows s col hmb hH;cases st with
  |cons p st=>have:=p.1.size_pos;have:=hH.sz;simp only[Gf,PO,sizes] at this;omega
  |nil=>have hP:=hH.is;rw[Yq] at hP;subst hP;exact⟨col,bP rfl⟩
 |succ m ih=>
  intro st rows s col hmb hH;cases st with
  |nil=>have hP:=hH.is;rw[Yq] at hP;subst hP;exact⟨col,bP rfl⟩
  |cons p st=>
   obtain⟨t,i,f⟩:=p;obtain⟨k,n,x,y,ks⟩:=t;obtain⟨r,rs,rfl,⟨rows',g',rfl,hk'⟩,hPs⟩:=hH.is;obtain⟨hd0,hi0,hi1⟩:=hH.inv _ zmf;simp only[Tn.kind,Tn.op,Tn.text,Tn.kids] at hd0 hi0 hi1 hk' hH|-;have hsz:=hH.sz;have hln:=hH.len;have hcl:=hH.col;have htx:=hH.tx;have hps:=hH.pos;have hrl:=Xt hPs;have hkl:=KW hk';have aK4:=aa5 st;have aK6:=jr ks;have e1:Gf ((Tn.mk k n x y ks,i,f)::st)=Tn.mk k n x y ks::Gf st:=rfl;rw[e1,sizes,Tn.size] at hsz;rw[e1,uT,txs] at hln hcl htx;rw[Tn.size] at hi1;have hrev:rs.reverse.length<=1000000000:=by rw[List.length_reverse];omega
   have hb:=aYl (k:=k) (n:=n) (i:=i) (g:=g') (w:=w) (col:=col) (x:=x) (f:=f) (rows':=rows') (rs:=rs) (o:=s.map byteRow) ak;generalize ([D.int .i64 k,.int .i64 n,.str x,.sl false 5 rows',.int .i64 g',.int .i64 i,.bool f]:Row)=R at hb hH|-;have aIL:=aGw i s col rs.reverse hi0 ak ak;have hbl:(brk s i).length<=s.length+(x.length+200001):=by rw[brk,rJ,mQ,List.length_replicate];omega
   have hpu:=fun(ii:Int) (ff:Bool)=>aGv hk' k n x g' ii ff s col rs.reverse ak hrev
   simp only[KX,aK,zaP] at hb;rw[lay];cases h1:k==1 with
   |true=>rw[h1,aK,aS ak,aK,aS ak,aK,aB ak ak,<-List.map_append] at hb;rw[dN hb,aK];exact ih st rs (s++x) _ ak (hH.rest ak (by rw[rJ];omega) ak)
   |false=>
   rw[h1,bg] at hb;rw[bg];cases h2:k==2 with
   |true=>
    rw[h2,aK] at hb;cases hf:f with
    |true=>have e32:[[D.int .u8 32]]=[byteRow 32]:=rfl;rw[hf,aK,aS ak,aK,aS ak,aK,aB ak ak,e32,<-List.map_singleton,<-List.map_append] at hb;rw[dN hb,Bool.and_self,aK];rw[hf] at hH;exact ih st rs (s++[32]) _ ak (hH.rest ak (by rw[rJ,JU];omega) ak)
    |false=>rw[hf,bg,aIL,ah] at hb;rw[dN hb,Bool.and_false,bg,Bool.true_or,aK];rw[hf] at hH;exact ih st rs (brk s i) i ak (hH.rest hi0 hbl ak)
   |false=>
   rw[h2,bg] at hb;rw[Bool.false_and,bg,Bool.false_or];cases h3:k==3 with
   |true=>rw[h3,aK,aIL,ah] at hb;rw[dN hb,aK];exact ih st rs (brk s i) i ak (hH.rest hi0 hbl ak)
   |false=>
   rw[h3,bg] at hb;rw[bg];have go:∀(j:Int) (g:Bool),i<=j->j<=i+40->∀ps,Yq (ks.map λt=>(t,j,g)) ps->M.rF (col,w,s.map byteRow,(R::rs).reverse)=some (.inl (col,w,s.map byteRow,rs.reverse++ps.reverse))->
     ∃col',dU M.rF (col,w,s.map byteRow,(R::rs).reverse)=some (col',w,(lay w m (ks.map (λt=>(t,j,g))++st) s col).map byteRow,[]):=by
    intro j g hj1 hj2 ps hps hstep;rw[dN hstep,<-List.reverse_append];exact ih _ (ps++rs) s col ak (hH.kids hj1 hj2 hps)
   cases h4:k==4 with
   |true=>
    have ek:k=4:=by simpa using h4
    rw[dOk,xw,ek] at hd0;obtain⟨hn0,hn1⟩:=avf hd0.2;obtain⟨ps,hps,hpush⟩:=hpu (i+n) f;rw[h4,aK,aB ak ak,hpush,ah] at hb;rw[aK];exact go (i+n) f ak ak ps hps hb
   |false=>
   rw[h4,bg] at hb;rw[bg];cases h5:k==5 with
   |true=>
    rw[h5,aK] at hb;rw[aK];cases hf:f with
    |true=>obtain⟨ps,hps,hpush⟩:=hpu i true;rw[hf,aK,hpush,ah] at hb;rw[Bool.true_or];exact go i true ak ak ps hps hb
    |false=>have hc1:=aYk (t:=.mk k n x y ks) g' hk' hPs s col w (by rw[Tn.size];omega) (by rw[txs];omega) hps ak hw0 hw1;simp only[Tn.kind,Tn.op,Tn.text] at hc1;rw[Bool.false_or];obtain⟨ps,hps,hpush⟩:=hpu i (akl w col (.mk k n x y ks) st);rw[hf,bg,hc1,ah] at hb;simp only[KX,aK,hpush,ah] at hb;exact go i (akl w col (.mk k n x y ks) st) ak ak ps hps hb
   |false=>rw[h5,bg] at hb;rw[bg];obtain⟨ps,hps,hpush⟩:=hpu i f;rw[hpush,ah] at hb;exact go i f ak ak ps hps hb
def rnR(t:Tn)(w:Int):aA×Bool:=flR (render t w)
def aks{t:Tn}{o:Bool}(w:Int)(h:t.size<=90000000)(hx:∀n,n∈t.flat 0->n.text.length<=1000000000):M.zh (dG o (t.flat 0)) w=some (rnR t w):=by
 simp only[M.zh,M.NY,alr (o:=o) h,ah,RF,aBy (o:=o) h,rnR,render];have aBB:Nat.ble t.size 4000=decide (t.size<=4000):=by rw[Bool.eq_iff_iff,decide_eq_true_eq];exact Iff.of_eq Nat.ble_eq
 rw[aBB,Bool.and_comm (decide (t.size<=4000))];cases hd:(dOk t) && decide (t.size<=4000) with
 |false=>rfl
 |true=>
  cases hw:decide (0<=w) && decide (w<=10000) with
  |false=>rfl
  |true=>
   simp only[xw,decide_eq_true_eq] at hd hw;have htx:=atJ 1000000000 t 0 hx;simp only[zaN,bg,Bool.and_self,aK,flR];obtain⟨col',hl⟩:=aK5 w hw.1 hw.2 t.size [(t,0,false)] [[.int .i64 t.kind,.int .i64 t.op,.str t.text,.sl false 5 (aG (AL (t.flat 0) t.kids 0)),.int .i64 (grp ((t.flat 0).take (sizes t.kids))),.int .i64 0,.bool false]] [] 0 hd.2
    ⟨by simp[Gf,sizes],⟨_,[],rfl,⟨_,_,rfl,aaK _ _ _⟩,rfl⟩,λp hp=>by simp only[List.mem_singleton] at hp;subst hp;refine⟨hd.1,Int.le_refl 0, ?_⟩;simp only;omega,Int.le_refl 0,
     by simp only[Gf,PO,List.map_nil,uT,uH];omega,by simp only[Gf,PO,List.map_nil,uT];omega,by simp only[Gf,PO,List.map_nil,uT];omega⟩
   rw[List.reverse_singleton] at hl;have e0:([]:aA).map byteRow=[]:=rfl;rw[e0] at hl;simp only[M.xQ,M.Ju,M.Hq,hl,ah,KX,aK,bytesOf_map]
def ag2(w:Int):M.zh [] w=some ([],false):=by simp only[M.zh,M.NY,am5.1,ah];rfl
mutual
def am7:∀(t:Tn) (pre post:List Nd) (i:Nat),i<t.size->∃b u,Lies (pre++(t.flat pre.length++post)) b u/\b+sizes u.kids=pre.length+i
 | .mk k o x y ks,pre,post,i,h=>by
  rw[Tn.size] at h
  by_cases hi:i=sizes ks
  ·exact⟨pre.length,.mk k o x y ks,⟨pre,post,rfl,rfl⟩,by rw[hi];rfl⟩
  ·obtain⟨b,u,h1,h2⟩:=akt ks pre ([⟨k,o,x,y,ends ks pre.length⟩]++post) i ak;refine⟨b,u, ?_,h2⟩;rw[Tn.flat,JR];exact h1
def akt:∀(ks:List Tn) (pre post:List Nd) (i:Nat),i<sizes ks->∃b u,Lies (pre++(jE ks pre.length++post)) b u/\b+sizes u.kids=pre.length+i
 |[],_,_,i,h=>by simp[sizes] at h
 |t::ts,pre,post,i,h=>by
  rw[sizes] at h
  by_cases hi:i<t.size
  ·obtain⟨b,u,h1,h2⟩:=am7 t pre (jE ts (pre.length+t.size)++post) i hi;refine⟨b,u, ?_,h2⟩;rw[jE,JR];exact h1
  ·obtain⟨b,u,h1,h2⟩:=akt ts (pre++t.flat pre.length) post (i - t.size) ak;rw[rJ,t.flat_length] at h1 h2;refine⟨b,u, ?_,ak⟩;rw[jE,JR,<-JR pre];exact h1
end
def aGx{t:Tn}{i:Nat}(h:i<t.size):∃b u,Lies (t.flat 0) b u/\b+sizes u.kids=i:=by obtain⟨b,u,h1,h2⟩:=am7 t [] [] i h;refine⟨b,u,by simpa using h1,by simpa using h2⟩
mutual
def aku:Tn->Bool
 | .mk k _ _ _ ks=>k==3||NM ks
def NM:List Tn->Bool
 |[]=>false
 |t::ts=>(aku t)||NM ts
end
def ad8{k n:Int}{x:aA}{c:Nat}(h:Yp k n x c=true)(hk:k=1\/k=2\/k=3):c=0:=by rcases hk with rfl|rfl|rfl<;>cases hn:(n==0)<;>cases hx:(x==[])<;>simp[Yp,hn,hx] at h<;>omega
def aBE{k n:Int}{x:aA}{c:Nat}(h:Yp k n x c=true)(hk:k=5):c=1:=by subst hk;cases hn:(n==0)<;>cases hx:(x==[])<;>simp[Yp,hn,hx] at h<;>omega
def aK7{k n:Int}{x:aA}{c:Nat}(h:Yp k n x c=true)(h1:(k==1)=false)(h2:(k==2)=false)(h3:(k==3)=false)(h4:(k==4)=false)(h5:(k==5)=false):n=0:=by
 cases hn:(n==0) with
 |true=>simpa using hn
 |false=>simp[Yp,hn,h4] at h
mutual
def arG:∀t:Tn,dOk t=true->(Et t).isNone=(aku t)
 | .mk k n x y ks,h=>by
  rw[dOk,xw] at h;rw[Et,aku];cases h1:k==1 with
  |true=>
   have hl:=ad8 h.2 (.inl (by simpa using h1));have:ks=[]:=List.length_eq_zero_iff.1 hl;have e:k=1:=by simpa using h1
   subst this;subst e;rfl
  |false=>
  cases h2:k==2 with
  |true=>
   have hl:=ad8 h.2 (.inr (.inl (by simpa using h2)));have:ks=[]:=List.length_eq_zero_iff.1 hl;have e:k=2:=by simpa using h2
   subst this;subst e;rfl
  |false=>
  cases h3:k==3 with
  |true=>rfl
  |false=>simp only[bg,Bool.false_or];exact am8 ks h.1
def am8:∀ts:List Tn,Zv ts=true->(AY ts).isNone=NM ts
 |[],_=>rfl
 |t::ts,h=>by
  rw[Zv,xw] at h;have h1:=arG t h.1;have h2:=am8 ts h.2;rw[AY,NM,<-h1,<-h2];cases Et t with
  |none=>rfl
  |some a=>cases AY ts<;>rfl
end
def Za(l:List Bool):au:=l.map λb=>[.bool b]
def arH(l:List Bool):(Za l).length=l.length:=by simp[Za]
def arI(l:List Bool)(j:Nat):(Za l)[j]? =(l[j]?).map λb=>[D.bool b]:=by simp[Za]
def awR(l:List Bool):ay (Za l)=true:=by simp only[ay,Za,List.all_map,List.all_eq_true];intro x _;rfl
def aBF(l:List Nd)(L:List Bool)(i:Nat):Prop:=L.length=i/\∀b u,Lies l b u->b+sizes u.kids<i->L[b+sizes u.kids]? =some (aku u)
def abL:∀a b:List Tn,NM (a++b)=(NM a||NM b)
 |[],b=>rfl
 |t::a,b=>by rw[VE,NM,NM,abL a b,Bool.or_assoc]
def aBG{l:List Nd}{o:Bool}{L:List Bool}{i:Nat}(hI:aBF l L i)(hl:l.length<=90000000){b:Nat}{u:Tn}(hu:Lies l b u)(hi:b+sizes u.kids=i)(is:Bool):
  M.MN (dG o l) (i:Int) (Za L) (is,0)=some (is||NM u.kids,(u.kids.length:Int)):=by
 obtain⟨k,n,x,y,ks⟩:=u;have hroot:l[b+sizes ks]? =some ⟨k,n,x,y,ends ks b⟩:=hu.root;simp only[Tn.kids] at hi|-;rw[hi] at hroot;have hlt:=hu.lt;rw[Tn.size] at hlt;have aK6:=jr ks;have hloop:=ji (b:=M.Ia (dG o l) (i:Int) (Za L)) (t:=(is||NM ks,(ks.length:Int))) (λj=>(is||NM (ks.take j),(j:Int))) ks.length
  (by
   intro j hj;obtain⟨t,ht⟩:∃t,ks[j]? =some t:=⟨ks[j],by simp⟩
   have he:=YZ (b:=b) ht;have hst:=KL ht;have hts:=t.uf;have hLt:=hI.2 _ t (Lies.RG hu ht) ak;rw[fV ht,abL,<-Bool.or_assoc];generalize (is||NM (ks.take j))=c;simp only[M.Ia,M.Au,bC,vG,hroot,Oa,ah,cD3,bf,eH,nI,he,NV,VO,arI,hLt];rw[zdt ak,aK,aB ak ak];cases c with
   |true=>rfl
   |false=>simp only[bg,NM,Bool.or_false,Bool.false_or];rfl)
  (by simp only[M.Ia,M.Au,bC,vG,hroot,Oa,ah,cD3,bf,eH];rw[rH ak,bg,List.take_length]) 0 (Nat.zero_le _)
 rw[pU,List.take_zero,NM,Bool.or_false] at hloop;exact hloop
def aBH{t:Tn}{o:Bool}(h:t.size<=90000000):∃L,aBF (t.flat 0) L t.size/\M.zn (dG o (t.flat 0))=some (Za L):=by
 have key:∀(m i:Nat) (L:List Bool),t.size - i=m->i<=t.size->aBF (t.flat 0) L i->∃L',aBF (t.flat 0) L' t.size/\dU (M.Az (dG o (t.flat 0))) ((i:Int),Za L)=some ((t.size:Int),Za L'):=by
  intro m;induction m with
  |zero=>intro i L hm hi hI;have:i=t.size:=ak;subst this;refine⟨L,hI,bP ?_⟩;simp only[jU,M.Az,M.Aw,jy,t.flat_length];rw[rH ak,bg]
  |succ m ih=>
   intro i L hm hi hI;have hlt:i<t.size:=ak;obtain⟨b,u,hu,hbi⟩:=aGx hlt;have hroot:=Lies.root' hu;rw[hbi] at hroot;have hin:=λb u hu hbi=>aBG (o:=o) hI (Y9 h).1 (b:=b) (u:=u) hu hbi (u.kind==3)
   have hin0:=hin b u hu hbi;have hL:=hI.1;have hstep:M.Az (dG o (t.flat 0)) ((i:Int),Za L)=some (.inl (((i+1:Nat):Int),Za (L++[u.kind==3||NM u.kids]))):=by simp only[jU,M.Az,M.Aw,jy,t.flat_length,bC,vG,hroot,Oa,ah,cD0,hin0,arH,JU];rw[zdt ak,aK,aS ak,aK,aS ak,aK,aB ak ak];simp[Za]
   rw[dN hstep];refine ih (i+1) _ ak hlt ⟨by simp[hL],λb2 u2 hu2 hb2=> ?_⟩
   by_cases hc:b2+sizes u2.kids<i
   ·rw[List.getElem?_append_left ak];exact hI.2 b2 u2 hu2 hc
   ·have hb2:b2+sizes u2.kids=i:=ak;have h2:=hin b2 u2 hu2 hb2;have hr2:=Lies.root' hu2;rw[hb2,hroot] at hr2;simp only[jF,Nd.mk.injEq] at hr2;rw[<-hr2.1,hin0] at h2;simp only[jF,nT] at h2;rw[hb2,List.getElem?_append_right ak,hL,Nat.sub_self,List.getElem?_cons_zero,h2.1,hr2.1];cases u2;rfl
 obtain⟨L,h1,h2⟩:=key t.size 0 [] rfl (Nat.zero_le _) ⟨rfl,λ_ _ _ h=>absurd h (Nat.not_lt_zero _)⟩;have e0:Za []=[]:=rfl;rw[pU,e0] at h2;refine⟨L,h1, ?_⟩;simp only[M.zn,M.O8,M.MO,h2,ah,awR,aK]
def isI(l:List Nd)(p:Pc)(r:Row):Prop:=∃b,Lies l b p.1/\r=[.int .i64 ((b+sizes p.1.kids:Nat):Int),.int .i64 p.2.1,.bool p.2.2]
def RU(l:List Nd):List Pc->au->Prop
 |[],rows=>rows=[]
 |p::ps,rows=>∃r rs,rows=r::rs/\isI l p r/\RU l ps rs
def PZ{l:List Nd}:∀{ts:List Pc} {rows:au},RU l ts rows->rows.length=ts.length
 |[],_,h=>by rw[RU] at h;rw[h];rfl
 |t::ts,_,⟨r,rs,e,_,h2⟩=>by subst e;rw[mQ,PZ h2,mQ]
def Xu{l:List Nd}:∀{a b:List Pc} {ra rb:au},RU l a ra->RU l b rb->RU l (a++b) (ra++rb)
 |[],_,_,_,h,h2=>by rw[RU] at h;subst h;exact h2
 |t::ts,_,_,_,⟨r,rs,e,h1,h2⟩,h3=>by subst e;exact⟨r,_,rfl,h1,Xu h2 h3⟩
def am9{l:List Nd}:∀{ps:List Pc} {rows:au},RU l ps rows->rows.all (λr=>r.all D.flat)=true
 |[],_,h=>by rw[RU] at h;subst h;rfl
 |p::ps,_,⟨r,rs,e,⟨b,_,e1⟩,h2⟩=>by subst e;subst e1;rw[List.all_cons,am9 h2];rfl
def acT{l:List Nd}{ps:List Pc}{rows:au}(h:RU l ps rows):ay rows.reverse=true:=by rw[ay,List.all_reverse];exact am9 h
def avg{l:List Nd}{b:Nat}{k n:Int}{x y:aA}{ks:List Tn}(hu:Lies l b (.mk k n x y ks))(n':Int)(x':aA)(k' ii:Int)(ff:Bool){st:List Pc}{rows:au}(hst:RU l st rows)(hl:l.length<=90000000)(hs:st.length<=1000000000):
  ∃ps,RU l (ks.map λt=>(t,ii,ff)) ps/\M.kY rows.reverse k' n' x' (encI (ends ks b)) ii ff=some (ps++rows).reverse:=by
 have hlt:=hu.lt;rw[Tn.size] at hlt;have aK6:=jr ks;have hrl:=PZ hst;have aKT:∀j t,ks[j]? =some t->isI l (t,ii,ff) [.int .i64 ((b+sizes (ks.take j)+sizes t.kids:Nat):Int),.int .i64 ii,.bool ff]:=λj t ht=>⟨_,Lies.RG hu ht,rfl⟩
 have key:∀(j:Nat),j<=ks.length->∀ps,RU l ((ks.drop j).map λt=>(t,ii,ff)) ps->∃ps',RU l (ks.map λt=>(t,ii,ff)) ps'/\
   dU (M.JG ii ff k' n' x' (encI (ends ks b))) ((j:Int) - 1,(ps++rows).reverse)=some (-1,(ps'++rows).reverse):=by
  intro j;induction j with
  |zero=>intro _ ps hps;refine⟨ps,hps,bP ?_⟩;simp only[jU,M.JG,M.Dq];rw[rH ak,bg];rfl
  |succ j ihj=>
   intro hj ps hps;obtain⟨t,ht⟩:∃t,ks[j]? =some t:=⟨ks[j],by simp⟩
   have he:=YZ (b:=b) ht;have hpl:=PZ hps;rw[zaP,List.length_drop] at hpl;have hdr:ks.drop j=t::ks.drop (j+1):=by obtain⟨h1,h2⟩:=PN.1 ht;rw[List.drop_eq_getElem_cons h1,h2]
   have hlen:(ps++rows).reverse.length<=2000000000:=by rw[List.length_reverse,rJ];omega
   obtain⟨ps',h1,h2⟩:=ihj ak ([.int .i64 ((b+sizes (ks.take j)+sizes t.kids:Nat):Int),.int .i64 ii,.bool ff]::ps) (by rw[hdr];exact⟨_,_,rfl,aKT j t ht,hps⟩);refine⟨ps',h1, ?_⟩;rw[show(((j+1:Nat):Int) - 1)=(j:Int) by omega,<-h2];refine dN ?_;simp only[jU,M.JG,M.Dq,bC,nI,he,Oa,ah,NV,JU];rw[zdt ak,aK,aS ak,aK,aS ak,aK,aB ak ak];simp
 obtain⟨ps,h1,h2⟩:=key ks.length (zaO _) [] (by rw[List.drop_length];rfl);rw[List.nil_append] at h2;refine⟨ps,h1, ?_⟩;simp only[M.kY,M.Ro,M.Pg,bf,eH];rw[aB ak ak,h2];simp only[ah,acT (Xu h1 hst),aK]
def cost(p:Pc):Nat×Bool:=bif p.2.2 then(((Et p.1).getD []).length,false) else(bh p.1)
def fbs:List Pc->Nat×Bool
 |[]=>(0,false)
 |p::ps=>bif(cost p).2 then cost p else((cost p).1+(fbs ps).1,(fbs ps).2)
def akv:∀a b:List Pc,fbs (a++b)=bif(fbs a).2 then fbs a else((fbs a).1+(fbs b).1,(fbs b).2)
 |[],b=>by simp[fbs]
 |t::a,b=>by
  rw[VE,fbs,fbs,akv a b];cases h:(cost t).2 with
  |true=>simp[h]
  |false=>simp only[bg];cases h2:(fbs a).2<;>simp[Nat.add_assoc,h2]
def avh(i:Int):∀ts:List Tn,fbs (ts.map λt=>(t,i,false))=WM ts
 |[]=>rfl
 |t::ts=>by rw[PO,fbs,WM,avh i ts];rfl
def arJ(i:Int):∀(ts:List Tn) (s:aA),AY ts=some s->fbs (ts.map λt=>(t,i,true))=(s.length,false)
 |[],s,h=>by cases h;rfl
 |t::ts,s,h=>by
  rw[AY] at h;cases ha:Et t with
  |none=>rw[ha] at h;cases h
  |some a=>
   rw[ha] at h;cases hb:AY ts with
   |none=>rw[hb] at h;cases h
   |some b=>rw[hb] at h;cases h;rw[PO,fbs,arJ i ts b hb];simp[cost,ha]
def arK:∀(st:List Pc),(∀p,p∈st->p.2.2=false)->fbs st=WM (Gf st)
 |[],_=>rfl
 |p::st,h=>by
  have e:=h p zmf;have ec:cost p=(bh p.1):=by rw[cost,e];rfl
  have:=arK st λq hq=>h q (zmm _ hq)
  rw[fbs,this,ec];rfl
def RInv(st:List Pc):Prop:=∀p,p∈st->dOk p.1=true/\(p.2.2=true->∃s,Et p.1=some s)
def akw:∀{ts:List Tn} {s:aA} {t:Tn},AY ts=some s->t∈ts->∃a,Et t=some a
 |[],_,_,_,h=>by cases h
 |u::ts,s,t,h,ht=>by
  rw[AY] at h;cases ha:Et u with
  |none=>rw[ha] at h;cases h
  |some a=>
   rw[ha] at h;cases hb:AY ts with
   |none=>rw[hb] at h;cases h
   |some b=>
    rcases List.mem_cons.1 ht with rfl|ht
    ·exact⟨a,ha⟩
    ·exact akw hb ht
def acU{k n:Int}{x y:aA}{ks:List Tn}(h1:(k==1)=false)(h2:(k==2)=false)(h3:(k==3)=false):Et (.mk k n x y ks)=AY ks:=by rw[Et,h1,h2,h3];rfl
def RInv.kids{k n:Int}{x y:aA}{ks:List Tn}{i:Int}{f:Bool}{st:List Pc}(h:RInv ((.mk k n x y ks,i,f)::st))(h1:(k==1)=false)(h2:(k==2)=false)(h3:(k==3)=false)(j:Int)(g:Bool)
  (hg:g=true->∃s,Et (.mk k n x y ks)=some s):RInv (ks.map (λt=>(t,j,g))++st):=by
 intro p hp;rcases List.mem_append.1 hp with hp|hp
 ·obtain⟨t,ht,rfl⟩:=List.mem_map.1 hp;obtain⟨h4,h5⟩:=h _ zmf;rw[dOk,xw] at h4;refine⟨ad6 h4.1 ht,λe=> ?_⟩;obtain⟨s,hs⟩:=hg e;rw[acU h1 h2 h3] at hs;exact akw hs ht
 ·exact h p (zmm _ hp)
def aBI{l:List Nd}{o:Bool}(hl:l.length<=90000000){b:Nat}{k n:Int}{x y:aA}{ks:List Tn}(hu:Lies l b (.mk k n x y ks))(rest:au)(room:Int)(at_:Int){ii:Int}{f:Bool}{st:List Pc}{rows:au}(hst:RU l st rows)(hs:st.length<=1000000000)
  (hr:0<=room) (hx:x.length<=20000000000000) (hr2:room<=40000000000000) (hdn:Yp k n x ks.length=true) (arL:f=true->(k==3)=false):
  ∃ps,RU l (ks.map λt=>(t,ii,f)) ps/\
  M.gX (dG o l) rest (room,at_,([.int .i64 ((b+sizes ks:Nat):Int),.int .i64 ii,.bool f]::rows).reverse)=
   some (bif k==1 then .inl (room - (x.length:Int),at_,(ps++rows).reverse) else bif k==2 then(bif !f then .inr (.inl ()) else .inl (room - 1,at_,(ps++rows).reverse)) else bif k==3 then .inr (.inl ()) else .inl (room,at_,(ps++rows).reverse)):=by
 obtain⟨ps,hps,hkids⟩:=avg (l:=l) hu n x k ii f hst hl hs;refine⟨ps,hps, ?_⟩;have hroot:l[b+sizes ks]? =some ⟨k,n,x,y,ends ks b⟩:=hu.root;have hrl:=PZ hst;generalize hR:[D.int .i64 ((b+sizes ks:Nat):Int),.int .i64 ii,.bool f]=R;have c0:bM .i64 R 0=some ((b+sizes ks:Nat):Int):=by rw[<-hR];rfl
 have c1:bM .i64 R 1=some ii:=by rw[<-hR];rfl
 have c2:Sj R 2=some f:=by rw[<-hR];rfl
 have hlen:((R::rows).reverse.length:Int)=(rows.length:Int)+1:=by simp
 have aBD:i64.wrap ((rows.length:Int)+1 - 1)=(rows.length:Int):=(aB ak ak).trans ak;have hget:(R::rows).reverse[rows.length]? =some R:=by rw[List.reverse_cons];exact ahD rows R
 have htk:(R::rows).reverse.take rows.length=rows.reverse:=by rw[List.reverse_cons];exact List.take_left' (by simp)
 have hd:(decide ((0:Int)<=(rows.length:Int)) && decide ((rows.length:Int)<=(rows.length:Int)+1))=true:=by simp;omega
 have hz:(((rows.length:Int)+1)==0)=false:=II.2 ak;have hge:decide (room>=0)=true:=zdt hr;have hfl:=acT hst;have aIM:(k=1\/k=2\/k=3)->ps=[]:=by intro hk;have hc:=ad8 hdn hk;have:ks=[]:=List.length_eq_zero_iff.1 hc;subst this;exact hps
 have hwa:i64.wrap (room - (x.length:Int))=room - (x.length:Int):=aB ak ak;have hwb:i64.wrap (room - 1)=room - 1:=aB ak ak;simp only[jU,M.gX,M.oD,hwa,hwb,hge,hlen,hz,aBD,bC,VO,hget,sb,c0,c1,c2,hd,aK,bg,vG,hroot,Oa,cD0,cD1,cD2,cD3,htk,hfl,hkids];cases h1:k==1 with
 |true=>rw[aIM (.inl (by simpa using h1))];rfl
 |false=>
 cases h2:k==2 with
 |true=>rw[aIM (.inr (.inl (by simpa using h2)))];cases f<;>rfl
 |false=>cases h3:k==3<;>rfl
def aGy{l:List Nd}{o:Bool}(hl:l.length<=90000000){all:au}(hall:all.length<=1000000000):∀(m:Nat) (us rs:List Pc) (rows rws pre:au) (room:Int),sizes (Gf us)+sizes (Gf rs)<=m->m<=1000000000->RU l us rows->RU l rs rws->all=pre++rws->
  RInv (us++rs)-> -50000000000000<=room->room<=40000000000000->uT (Gf us)+uT (Gf rs)<=20000000000000->
  (decide (((fbs (us++rs)).1:Int)<=room)=true/\dU (M.gX (dG o l) all.reverse) (room,(rws.length:Int),rows.reverse)=some (.inl ()))\/
  (decide (((fbs (us++rs)).1:Int)<=room)=false/\∃s,dU (M.gX (dG o l) all.reverse) (room,(rws.length:Int),rows.reverse)=some (.inr s)):=by
 intro m;induction m with
 |zero=>
  intro us rs rows rws pre room hm hmb hU hR ha hI hr0 hr1 htx;have hu0:us=[]:=by
   cases us with
   |nil=>rfl
   |cons p us=>have:=p.1.size_pos;simp only[Gf,PO,sizes] at hm;omega
  have a7S:rs=[]:=by
   cases rs with
   |nil=>rfl
   |cons p us=>have:=p.1.size_pos;simp only[Gf,PO,sizes] at hm;omega
  subst hu0;subst a7S;rw[RU] at hU hR;subst hU;subst hR
  by_cases hr:0<=room
  ·refine .inl ⟨zdt (by simpa[fbs] using hr),bP ?_⟩;simp only[jU,M.gX,M.oD,zdt (show room>=0 from hr)];rfl
  ·refine .inr ⟨rH (by simp[fbs];omega),(room,0,[]),bP ?_⟩;simp only[jU,M.gX,M.oD,rH (show¬room>=0 by omega)];rfl
 |succ m ih=>
  intro us rs rows rws pre room hm hmb hU hR ha hI hr0 hr1 htx
  by_cases hr:0<=room
  case neg=>refine .inr ⟨rH ak,(room,(rws.length:Int),rows.reverse),bP ?_⟩;simp only[jU,M.gX,M.oD,rH (show¬room>=0 by omega)];rfl
  have top:∀(p:Pc) (us rs:List Pc) (rows rws pre:au) (r:Row),sizes (Gf (p::us))+sizes (Gf rs)<=m+1->isI l p r->RU l us rows->RU l rs rws->all=pre++rws->RInv (p::us++rs)->uT (Gf (p::us))+uT (Gf rs)<=20000000000000->
    ∀R,M.gX (dG o l) all.reverse (room,(rws.length:Int),(r::rows).reverse)=R->
    (∀q:(Int×Int×au)⊕((Unit)⊕(Int×Int×au)),R=some q->
     (decide (((fbs (p::us++rs)).1:Int)<=room)=true/\q=.inr (.inl ()))\/
     (∃s,q=.inl s/\((decide (((fbs (p::us++rs)).1:Int)<=room)=true/\dU (M.gX (dG o l) all.reverse) s=some (.inl ()))\/
      (decide (((fbs (p::us++rs)).1:Int)<=room)=false/\∃s',dU (M.gX (dG o l) all.reverse) s=some (.inr s')))))/\R≠none:=by
   intro p us rs rows rws pre r hm hp hU hR ha hI htx R hRd;obtain⟨t,ii,f⟩:=p;obtain⟨k,n,x,y,ks⟩:=t;obtain⟨b,hu,rfl⟩:=hp;simp only[Tn.kids] at hu hRd;obtain⟨hd0,hfl⟩:=hI _ zmf;simp only at hd0 hfl;have hd1:=hd0;rw[dOk,xw] at hd1;have e1:Gf ((Tn.mk k n x y ks,ii,f)::us)=Tn.mk k n x y ks::Gf us:=rfl;rw[e1,sizes,Tn.size] at hm;rw[e1,uT,txs] at htx;have hul:=aa5 us;have arL:f=true->(k==3)=false:=by
    intro e;obtain⟨s,hs⟩:=hfl e;cases h3:k==3 with
    |false=>rfl
    |true=>
     have e3:k=3:=by simpa using h3
     subst e3;cases hs
   obtain⟨ps,hps,hone⟩:=aBI (o:=o) hl hu all.reverse room (rws.length:Int) (ii:=ii) (f:=f) hU ak hr ak hr1 hd1.2 arL;rw[hone] at hRd;subst hRd;refine⟨λq hq=> ?_,by simp⟩;simp only[jF] at hq;subst hq;have hIr:RInv (us++rs):=λp hp=>hI p (zmm _ hp)
   rw[VE,fbs];cases h1:k==1 with
   |true=>
    have ek:k=1:=by simpa using h1
    have hk0:ks=[]:=List.length_eq_zero_iff.1 (ad8 hd1.2 (.inl ek));subst hk0;have hc:cost (Tn.mk k n x y [],ii,f)=(x.length,false):=by subst ek;cases f<;>simp[cost,Et,bh,WM]
    have hps0:ps=[]:=hps;subst hps0;simp only[aK,List.nil_append,hc,bg];refine .inr ⟨_,rfl, ?_⟩;have:=ih us rs rows rws pre (room - (x.length:Int)) ak ak hU hR ha hIr ak ak ak;have hdd:decide (((x.length+(fbs (us++rs)).1:Nat):Int)<=room)=decide (((fbs (us++rs)).1:Int)<=room - (x.length:Int)):=by rw[Bool.eq_iff_iff,decide_eq_true_eq,decide_eq_true_eq];omega
    rw[hdd];exact this
   |false=>
   cases h2:k==2 with
   |true=>
    have ek:k=2:=by simpa using h2
    have hk0:ks=[]:=List.length_eq_zero_iff.1 (ad8 hd1.2 (.inr (.inl ek)));subst hk0;cases hf:f with
    |false=>
     have hc:cost (Tn.mk k n x y [],ii,false)=(0,true):=by subst ek;simp[cost,bh]
     simp only[hc,aK];exact .inl ⟨zdt ak,rfl⟩
    |true=>
     have hc:cost (Tn.mk k n x y [],ii,true)=(1,false):=by subst ek;simp[cost,Et]
     have hps0:ps=[]:=hps;subst hps0;simp only[aK,bg,List.nil_append,hc,zaN];refine .inr ⟨_,rfl, ?_⟩;have:=ih us rs rows rws pre (room - 1) ak ak hU hR ha hIr ak ak ak;have hdd:decide (((1+(fbs (us++rs)).1:Nat):Int)<=room)=decide (((fbs (us++rs)).1:Int)<=room - 1):=by rw[Bool.eq_iff_iff,decide_eq_true_eq,decide_eq_true_eq];omega
     rw[hdd];exact this
   |false=>
   cases h3:k==3 with
   |true=>
    have ek:k=3:=by simpa using h3
    have hf:f=false:=by
     cases hf:f with
     |false=>rfl
     |true=>rw[arL hf] at h3;cases h3
    subst hf;have hc:cost (Tn.mk k n x y ks,ii,false)=(0,true):=by subst ek;simp[cost,bh]
    simp only[hc,aK];exact .inl ⟨zdt ak,rfl⟩
   |false=>
    simp only[bg];refine .inr ⟨_,rfl, ?_⟩;have hIk:=hI.kids h1 h2 h3 ii f hfl;have:=ih (ks.map (λt=>(t,ii,f))++us) rs (ps++rows) rws pre room (by rw[ad7,jd];omega) ak (Xu hps hU) hR ha (by rw[JR];exact hIk) ak ak (by rw[ad7,UJ];omega);have hcf:fbs (ks.map (λt=>(t,ii,f)))=cost (Tn.mk k n x y ks,ii,f):=by
     cases hf:f with
     |true=>rw[hf] at hfl;obtain⟨s,hs⟩:=hfl rfl;have hs':=hs;rw[acU h1 h2 h3] at hs';rw[arJ ii ks s hs',cost,hs];rfl
     |false=>rw[avh,cost,bh,h1,h2,h3];simp
    rw[JR,akv,hcf] at this;exact this
  cases us with
  |cons p us=>
   obtain⟨r,rows',rfl,hp,hU'⟩:=hU;obtain⟨t1,t2⟩:=top p us rs rows' rws pre r hm hp hU' hR ha hI htx _ rfl;cases hb:M.gX (dG o l) all.reverse (room,(rws.length:Int),(r::rows').reverse) with
   |none=>exact absurd hb t2
   |some q=>
    rcases t1 q hb with⟨h1,rfl⟩|⟨s,rfl,h1⟩
    ·exact .inl ⟨h1,bP hb⟩
    ·rw[dN hb];exact h1
  |nil=>
   rw[RU] at hU;subst hU;cases rs with
   |nil=>rw[RU] at hR;subst hR;refine .inl ⟨zdt (by simpa[fbs] using hr),bP ?_⟩;simp only[jU,M.gX,M.oD,zdt (show room>=0 from hr)];rfl
   |cons p rs=>
    obtain⟨r,alu,rfl,hp,hR'⟩:=hR;have a8J:=aa5 rs;have hrl:=PZ hR';have hm':sizes (Gf [p])+sizes (Gf rs)<=m+1:=by simp only[Gf,PO,List.map_nil,sizes] at hm|-;omega
    have a7T:uT (Gf [p])+uT (Gf rs)<=20000000000000:=by simp only[Gf,PO,List.map_nil,uT] at htx|-;omega
    obtain⟨t1,t2⟩:=top p [] rs [] alu (pre++[r]) r hm' hp rfl hR' (by rw[ha];simp) hI a7T _ rfl;have hsame:M.gX (dG o l) all.reverse (room,(((r::alu).length:Nat):Int),[].reverse)=M.gX (dG o l) all.reverse (room,(alu.length:Int),[r].reverse):=by
     obtain⟨b,hu,rfl⟩:=hp;have aIN:all.reverse[alu.length]? =some [.int .i64 ((b+sizes p.1.kids:Nat):Int),.int .i64 p.2.1,.bool p.2.2]:=by rw[ha,List.reverse_append,List.reverse_cons,JR,List.getElem?_append_right (by simp)];simp
     generalize hR:[D.int .i64 ((b+sizes p.1.kids:Nat):Int),.int .i64 p.2.1,.bool p.2.2]=R at aIN|-;have c0:bM .i64 R 0=some ((b+sizes p.1.kids:Nat):Int):=by rw[<-hR];rfl
     have c1:bM .i64 R 1=some p.2.1:=by rw[<-hR];rfl
     have c2:Sj R 2=some p.2.2:=by rw[<-hR];rfl
     have hge:decide (room>=0)=true:=zdt hr;have hl1:(((R::alu).length:Nat):Int)=(alu.length:Int)+1:=by simp
     have hz:(((alu.length:Int)+1)==0)=false:=II.2 ak;have hw1:i64.wrap ((alu.length:Int)+1 - 1)=(alu.length:Int):=(aB ak ak).trans ak;have hb1:Nat.ble ((0+1) * 24) 140737488355328=true:=aS ak;have hb2:Nat.ble (0+1) 140737488355328=true:=aS ak;have hz0:(((0:Nat):Int)==0)=true:=rfl;have hz1:(((1:Nat):Int)==0)=false:=rfl;have hq0:i64.wrap (((1:Nat):Int) - 1)=((0:Nat):Int):=(aB ak ak).trans ak;have hg0:([R]:au)[0]? =some R:=rfl;simp only[jU,M.gX,M.oD,List.reverse_nil,List.reverse_singleton,hge,aK,bg,hl1,hz,hz0,hz1,hw1,bC,aIN,sb,c0,c1,c2,List.nil_append,uH,JU,hb1,hb2,hR,hq0,hg0,VO]
    cases hb:M.gX (dG o l) all.reverse (room,(alu.length:Int),[r].reverse) with
    |none=>exact absurd hb t2
    |some q=>
     rcases t1 q hb with⟨h1,rfl⟩|⟨s,rfl,h1⟩
     ·exact .inl ⟨h1,bP (hsame.trans hb)⟩
     ·rw[dN (hsame.trans hb)];exact h1
def aBJ(ii:Int)(s:aA)(h0:0<=ii)(h1:ii<=200000)(hs:s.length<=80000000000000):M.vZ (s.map byteRow) ii=some ((brk s ii).map byteRow):=by
 obtain⟨n,rfl⟩:∃n:Nat,ii=n:=⟨ii.toNat,ak⟩
 have hloop:=ji (b:=M.Ib (n:Int)) (t:=((n:Int),(s++(10::List.replicate n 32)).map byteRow)) (λi=>((i:Int),(s++(10::List.replicate i 32)).map byteRow)) n
  (by
   intro i hi;have hlen:((s++(10::List.replicate i (32:UInt8))).map byteRow).length=s.length+(i+1):=by simp
   have e32:[[D.int .u8 32]]=[byteRow 32]:=rfl;simp only[M.Ib,M.AA,hlen];rw[zdt ak,aK,aS ak,aK,aS ak,aK,aB ak ak,e32,<-List.map_singleton,<-List.map_append,JR,VE,<-List.replicate_succ'];rfl)
  (by simp only[M.Ib,M.AA];rw[rH ak,bg]) 0 (Nat.zero_le _)
 have e10:s.map byteRow++[[D.int .u8 10]]=(s++(10::List.replicate 0 32)).map byteRow:=by simp[byteRow]
 rw[pU] at hloop;simp only[M.vZ,M.O9,zaP,M.MP,e10,hloop,ah,KX,aK];rw[aS ak,aK,aS ak,aK];rfl
section
variable {l:List Nd} {o:Bool} {b:Nat} {k n i w col:Int} {x y:aA} {ks:List Tn} {f:Bool} {rs out:au} {L:List Bool}
def aK8(hl:rs.length<=1000000000)(hu:Lies l b (.mk k n x y ks))(hf:ay rs.reverse=true)(hL:L[b+sizes ks]? =some (aku (.mk k n x y ks)))(u:Tn)(h5:k=5->ks=[u]):M.zI (dG o l) w (Za L) (col,out,([.int .i64 ((b+sizes ks:Nat):Int),.int .i64 i,.bool f]::rs).reverse)=
  (bif k==1 then(bif((out.length+(x.map byteRow).length) * 1).ble 140737488355328 then(bif(out.length+(x.map byteRow).length).ble 140737488355328 then some (.inl (i64.wrap (col+(x.length:Int)),out++x.map byteRow,rs.reverse)) else none) else none) else
   bif k==2||k==3 then(bif f then(bif((out.length+1) * 1).ble 140737488355328 then(bif(out.length+1).ble 140737488355328 then some (.inl (i64.wrap (col+1),out++[[D.int IntKind.u8 32]],rs.reverse)) else none) else none) else
    (bif ay out then((M.vZ out i).bind λr=>some (.inl (i,r,rs.reverse))) else none)) else
   bif k==5 then(bif f then((M.kY rs.reverse k n x (encI (ends ks b)) i true).bind λr=>some (.inl (col,out,r))) else
    (bif !(aku (.mk k n x y ks)) then((M.yP (dG o l) rs.reverse ((b+sizes u.kids:Nat):Int) i true (i64.wrap (w - col))).bind λq=>(M.kY rs.reverse k n x (encI (ends ks b)) i q).bind λr=>some (.inl (col,out,r))) else
     ((M.kY rs.reverse k n x (encI (ends ks b)) i false).bind λr=>some (.inl (col,out,r))))) else
   ((M.kY rs.reverse k n x (encI (ends ks b)) (i64.wrap (i+n)) f).bind λr=>some (.inl (col,out,r)))):=by
 have hroot:l[b+sizes ks]? =some ⟨k,n,x,y,ends ks b⟩:=hu.root;generalize hR:[D.int .i64 ((b+sizes ks:Nat):Int),.int .i64 i,.bool f]=R;have c0:bM .i64 R 0=some ((b+sizes ks:Nat):Int):=by rw[<-hR];rfl
 have c1:bM .i64 R 1=some i:=by rw[<-hR];rfl
 have c2:Sj R 2=some f:=by rw[<-hR];rfl
 have cb:∀z:Bool,Sj [D.bool z] 0=some z:=λ_=>rfl
 have hlen:((R::rs).reverse.length:Int)=(rs.length:Int)+1:=by simp
 have aBD:i64.wrap ((rs.length:Int)+1 - 1)=(rs.length:Int):=(aB ak ak).trans ak;have hget:(R::rs).reverse[rs.length]? =some R:=by rw[List.reverse_cons];exact ahD rs R
 have htk:(R::rs).reverse.take rs.length=rs.reverse:=by rw[List.reverse_cons];exact List.take_left' (by simp)
 have hd:(decide ((0:Int)<=(rs.length:Int)) && decide ((rs.length:Int)<=(rs.length:Int)+1))=true:=by simp;omega
 have hgt:decide ((rs.length:Int)+1>0)=true:=zdt ak;simp only[M.zI,M.MQ,M.JH,hlen,aBD,hgt,bC,VO,hget,sb,c0,c1,c2,hd,aK,htk,vG,hroot,Oa,cD0,cD1,cD2,cD3,hf,arI,hL,cb];cases h1:k==1 with
 |true=>rfl
 |false=>
 cases h2:k==2 with
 |true=>rfl
 |false=>
 cases h3:k==3 with
 |true=>rfl
 |false=>
 cases h5':k==5 with
 |false=>rfl
 |true=>
  have hks:=h5 (by simpa using h5');subst hks;have e0:idx (encI (ends [u] b)) 0=some [D.int .i64 ((b+sizes u.kids:Nat):Int)]:=by have:=bC (encI (ends [u] b)) 0;rw[pU] at this;rw[this,nI,YZ (ks:=[u]) (j:=0) (t:=u) rfl];rfl
  cases f with
  |true=>rfl
  |false=>
   cases aku (.mk k n x y [u]) with
   |true=>rfl
   |false=>simp only[bg,Bool.not_false,aK,e0,ah,NV,Bool.or_self]
end
def alv(st:List Pc):Prop:=∃a c,st=a++c/\(∀p,p∈a->p.2.2=true)/\∀p,p∈c->p.2.2=false
def alv.aYm{t:Tn}{i:Int}{st:List Pc}(h:alv ((t,i,false)::st)):∀p,p∈st->p.2.2=false:=by
 obtain⟨a,c,e,h1,h2⟩:=h;cases a with
 |nil=>rw[List.nil_append] at e;intro p hp;exact h2 p (by rw[<-e];exact zmm _ hp)
 |cons q a=>rw[VE] at e;cases e;exact absurd (h1 _ zmf) (by simp)
def alv.tail{p:Pc}{st:List Pc}(h:alv (p::st)):alv st:=by
 obtain⟨a,c,e,h1,h2⟩:=h;cases a with
 |nil=>rw[List.nil_append] at e;exact⟨[],st,rfl,(λ_ h=>by cases h),λq hq=>h2 q (by rw[<-e];exact zmm _ hq)⟩
 |cons q a=>rw[VE] at e;cases e;exact⟨a,c,rfl,λq hq=>h1 q (zmm _ hq),h2⟩
def alv.kids{t:Tn}{i:Int}{f:Bool}{st:List Pc}(h:alv ((t,i,f)::st))(ks:List Tn)(j:Int)(g:Bool)(hg:f=true->g=true):alv (ks.map (λt=>(t,j,g))++st):=by
 cases g with
 |true=>
  obtain⟨a,c,e,h1,h2⟩:=h.tail;refine⟨ks.map (λt=>(t,j,true))++a,c,by rw[e,JR],λp hp=> ?_,h2⟩;rcases List.mem_append.1 hp with hp|hp
  ·obtain⟨t,_,rfl⟩:=List.mem_map.1 hp;rfl
  ·exact h1 p hp
 |false=>
  cases f with
  |true=>exact absurd (hg rfl) (by simp)
  |false=>
   have hn:=h.aYm;refine⟨[],ks.map (λt=>(t,j,false))++st,rfl,(λ_ h=>by cases h),λp hp=> ?_⟩;rcases List.mem_append.1 hp with hp|hp
   ·obtain⟨t,_,rfl⟩:=List.mem_map.1 hp;rfl
   ·exact hn p hp
structure atL(l:List Nd)(m:Nat)(st:List Pc)(rows:au)(s:aA)(col:Int):Prop where
 sz:sizes (Gf st)<=m
 is:RU l st rows
 inv:aBC st
 rin:RInv st
 fin:alv st
 pos:0<=col
 len:s.length+(uT (Gf st)+m * 200001)<=40000000000000
 col:col+(uT (Gf st)+m * 200001)<=40000000000000
 tx:uT (Gf st)<=10000000000000
def atL.rest{l:List Nd}{m:Nat}{k n:Int}{x y:aA}{ks:List Tn}{i:Int}{f:Bool}{st:List Pc}{r:Row}{rs:au}{s s':aA}{col col':Int}(h:atL l (m+1) ((.mk k n x y ks,i,f)::st) (r::rs) s col)
  (h0:0<=col') (h1:s'.length<=s.length+(x.length+200001)) (h2:col'<=col+(x.length+200001)):atL l m st rs s' col':=by
 obtain⟨a1,⟨r',rs',e,_,a2⟩,a3,b1,b2,a4,a5,a6,a7⟩:=h;cases e;simp only[Gf,PO,sizes,Tn.size,uT,txs] at a1 a5 a6 a7;refine⟨?_,a2,λp hp=>a3 p (zmm _ hp),λp hp=>b1 p (zmm _ hp),b2.tail,h0, ?_, ?_, ?_⟩<;>simp only[Gf]<;>omega
def atL.kids{l:List Nd}{m:Nat}{k n:Int}{x y:aA}{ks:List Tn}{i:Int}{f:Bool}{st:List Pc}{r:Row}{rs ps:au}{s:aA}{col:Int}(h:atL l (m+1) ((.mk k n x y ks,i,f)::st) (r::rs) s col)
  {j:Int} {g:Bool} (h1:i<=j) (h2:j<=i+40) (hp:RU l (ks.map λt=>(t,j,g)) ps) (k1:(k==1)=false) (k2:(k==2)=false) (k3:(k==3)=false) (hg:g=true->∃s,Et (.mk k n x y ks)=some s) (hfg:f=true->g=true):
  atL l m (ks.map (λt=>(t,j,g))++st) (ps++rs) s col:=by
 obtain⟨a1,⟨r',rs',e,_,a2⟩,a3,b1,b2,a4,a5,a6,a7⟩:=h;cases e;simp only[Gf,PO,sizes,Tn.size,uT,txs] at a1 a5 a6 a7;refine⟨?_,Xu hp a2,a3.kids j g h1 h2,b1.kids k1 k2 k3 j g hg,b2.kids ks j g hfg,a4, ?_, ?_, ?_⟩<;>rw[ad7]<;>simp only[Gf,jd,UJ]<;>omega
def aGz(T:Tn)(o:Bool)(hT:T.size<=4000)(L:List Bool)(hL:aBF (T.flat 0) L T.size)(w:Int)(hw0:0<=w)(hw1:w<=10000):∀(m:Nat) (st:List Pc) (rows:au) (s:aA) (col:Int),m<=4000->atL (T.flat 0) m st rows s col->
  ∃col',dU (M.zI (dG o (T.flat 0)) w (Za L)) (col,s.map byteRow,rows.reverse)=some (col',(lay w m st s col).map byteRow,[]):=by
 intro m;induction m with
 |zero=>
  intro st rows s col hmb hH;cases st with
  |cons p st=>have:=p.1.size_pos;have:=hH.sz;simp only[Gf,PO,sizes] at this;omega
  |nil=>have hP:=hH.is;rw[RU] at hP;subst hP;exact⟨col,bP rfl⟩
 |succ m ih=>
  intro st rows s col hmb hH;cases st with
  |nil=>have hP:=hH.is;rw[RU] at hP;subst hP;exact⟨col,bP rfl⟩
  |cons p st=>
   obtain⟨t,i,f⟩:=p;obtain⟨k,n,x,y,ks⟩:=t;obtain⟨r,rs,rfl,⟨b,hu,rfl⟩,hPs⟩:=hH.is;obtain⟨hd0,hi0,hi1⟩:=hH.inv _ zmf;obtain⟨_,aBK⟩:=hH.rin _ zmf;simp only[Tn.kids] at hd0 hi0 hi1 hu aBK hH|-;have hsz:=hH.sz;have hln:=hH.len;have hcl:=hH.col;have htx:=hH.tx;have hps:=hH.pos;have hrl:=PZ hPs;have aK4:=aa5 st;have aK6:=jr ks;have hlt:=hu.lt;rw[T.flat_length,Tn.size] at hlt;have e1:Gf ((Tn.mk k n x y ks,i,f)::st)=Tn.mk k n x y ks::Gf st:=rfl;rw[e1,sizes,Tn.size] at hsz;rw[e1,uT,txs] at hln hcl htx;rw[Tn.size] at hi1;have hd1:=hd0;rw[dOk,xw] at hd1;have hLb:=hL.2 b _ hu (by simp only[Tn.kids];omega);simp only[Tn.kids] at hLb;have aYn:(T.flat 0).length<=90000000:=by rw[T.flat_length];omega
   obtain⟨u,hu5⟩:∃u,k=5->ks=[u]:=by
    cases ks with
    |nil=>exact⟨.mk 0 0 [] [] [],λe=>absurd (aBE hd1.2 e) (by simp)⟩
    |cons v vs=>exact⟨v,λe=>by have:=aBE hd1.2 e;cases vs with
      |nil=>rfl
      |cons _ _=>simp at this⟩
   have hb:=aK8 (o:=o) (i:=i) (w:=w) (col:=col) (f:=f) (rs:=rs) (out:=s.map byteRow) (L:=L) ak hu (acT hPs) hLb u hu5;have hkids:=fun(ii:Int) (ff:Bool)=>avg hu n x k ii ff hPs aYn ak
   generalize ([.int .i64 ((b+sizes ks:Nat):Int),.int .i64 i,.bool f]:Row)=R at hb hH|-;have hbr:=aBJ i s hi0 ak ak;have hbl:(brk s i).length<=s.length+(x.length+200001):=by rw[brk,rJ,mQ,List.length_replicate];omega
   simp only[KX,aK,zaP] at hb;rw[lay];cases h1:k==1 with
   |true=>rw[h1,aK,aS ak,aK,aS ak,aK,aB ak ak,<-List.map_append] at hb;rw[dN hb,aK];exact ih st rs (s++x) _ ak (hH.rest ak (by rw[rJ];omega) ak)
   |false=>
   rw[h1,bg] at hb;rw[bg];cases h23:(k==2||k==3) with
   |true=>
    rw[h23,aK] at hb;cases hf:f with
    |true=>
     have h2:(k==2)=true:=by
      cases h2:k==2 with
      |true=>rfl
      |false=>
       rw[h2,Bool.false_or] at h23;have ek:k=3:=by simpa using h23
       obtain⟨s',hs'⟩:=aBK hf;subst ek;cases hs'
     have e32:[[D.int .u8 32]]=[byteRow 32]:=rfl;rw[hf,aK,aS ak,aK,aS ak,aK,aB ak ak,e32,<-List.map_singleton,<-List.map_append] at hb;rw[dN hb,h2,Bool.and_self,aK];rw[hf] at hH;exact ih st rs (s++[32]) _ ak (hH.rest ak (by rw[rJ,JU];omega) ak)
    |false=>rw[hf,bg,hbr,ah] at hb;rw[dN hb,Bool.and_false,bg,aK];rw[hf] at hH;exact ih st rs (brk s i) i ak (hH.rest hi0 hbl ak)
   |false=>
   rw[h23,bg] at hb;obtain⟨h2,h3⟩:(k==2)=false/\(k==3)=false:=by simpa using h23
   rw[h2,Bool.false_and,bg,bg];have go:∀(j:Int) (g:Bool),i<=j->j<=i+40->(g=true->∃s,Et (.mk k n x y ks)=some s)->(f=true->g=true)->∀ps,RU (T.flat 0) (ks.map λt=>(t,j,g)) ps->M.zI (dG o (T.flat 0)) w (Za L) (col,s.map byteRow,(R::rs).reverse)=some (.inl (col,s.map byteRow,(ps++rs).reverse))->
     ∃col',dU (M.zI (dG o (T.flat 0)) w (Za L)) (col,s.map byteRow,(R::rs).reverse)=some (col',(lay w m (ks.map (λt=>(t,j,g))++st) s col).map byteRow,[]):=by
    intro j g hj1 hj2 hg hfg ps hps hstep;rw[dN hstep];exact ih _ (ps++rs) s col ak (hH.kids hj1 hj2 hps h1 h2 h3 hg hfg)
   cases h4:k==4 with
   |true=>
    have ek:k=4:=by simpa using h4
    have h5:(k==5)=false:=by rw[ek];rfl
    rw[ek] at hd1;obtain⟨hn0,hn1⟩:=avf hd1.2;obtain⟨ps,hps,hpush⟩:=hkids (i+n) f;rw[h5,bg,aB ak ak,hpush,ah] at hb;rw[aK];exact go (i+n) f ak ak aBK (λe=>e) ps hps hb
   |false=>
   rw[bg];cases h5:k==5 with
   |true=>
    rw[h5,aK] at hb;rw[aK];have ek:k=5:=by simpa using h5
    cases hf:f with
    |true=>obtain⟨ps,hps,hpush⟩:=hkids i true;rw[hf,aK,hpush,ah] at hb;rw[Bool.true_or];exact go i true ak ak (λ_=>aBK hf) (λ_=>rfl) ps hps hb
    |false=>
     rw[hf,bg] at hb;rw[Bool.false_or];have hks:=hu5 ek;have arL:=arG (.mk k n x y ks) hd0;rw[<-arL] at hb;cases hx:Et (.mk k n x y ks) with
     |none=>
      rw[hx] at hb;obtain⟨ps,hps,hpush⟩:=hkids i false;simp only[Option.isNone_none,zaN,bg,hpush,ah] at hb;have aK9:akl w col (.mk k n x y ks) st=false:=by rw[akl,hx]
      rw[aK9];exact go i false ak ak (λe=>by cases e) (λe=>by rw[hf] at e;cases e) ps hps hb
     |some a=>
      rw[hx] at hb;have hal:=ad5 _ a hx;rw[txs,Tn.size] at hal;have hn:=alv.aYm (t:=.mk k n x y ks) (i:=i) (st:=st) (by have:=hH.fin;rw[hf] at this;exact this);have hxk:=hx;rw[acU h1 h2 h3,hks] at hxk;have hfu:∃a',Et u=some a'/\a'.length=a.length:=by
       rw[AY,AY] at hxk;cases hq:Et u with
       |none=>rw[hq] at hxk;cases hxk
       |some a'=>rw[hq] at hxk;cases hxk;exact⟨a',rfl,by simp⟩
      obtain⟨a',ha',hla⟩:=hfu;have hsu:sizes ks=u.size:=by rw[hks];simp[sizes]
      have htu:uT ks=txs u:=by rw[hks];simp[uT]
      have hmu:u∈ks:=by rw[hks];exact zmf
      have a7U:RU (T.flat 0) [(u,i,true)] [[.int .i64 ((b+sizes u.kids:Nat):Int),.int .i64 i,.bool true]]:=by have:=Lies.RG hu (j:=0) (t:=u) (by rw[hks];rfl);exact⟨_,[],rfl,⟨b,by simpa[sizes] using this,rfl⟩,rfl⟩
      have aBB:=akp (Gf st);have hfit:=aGy (l:=T.flat 0) (o:=o) aYn (all:=rs) ak (sizes (Gf [(u,i,true)])+sizes (Gf st)) [(u,i,true)] st _ rs [] (w - col) (zaO _) (by simp only[Gf,PO,List.map_nil,sizes];simp only[Gf] at hsz;omega) a7U hPs rfl
       (λp hp=>by
        rcases List.mem_append.1 hp with hp|hp
        ·simp only[List.mem_singleton] at hp;subst hp;exact⟨ad6 hd1.1 hmu,λ_=>⟨a',ha'⟩⟩
        ·exact hH.rin p (zmm _ hp)) ak ak (by simp only[Gf,PO,List.map_nil,uT];simp only[Gf] at htx;omega)
      have hfb:(fbs ([(u,i,true)]++st)).1=a.length+(WM (Gf st)).1:=by rw[List.singleton_append,fbs,arK st hn];simp[cost,ha',hla]
      rw[hfb] at hfit;have aK9:akl w col (.mk k n x y ks) st=decide (((a.length+(WM (Gf st)).1:Nat):Int)<=w - col):=by rw[akl,hx];simp only[Int.natCast_add];rfl
      have hrun:M.yP (dG o (T.flat 0)) rs.reverse ((b+sizes u.kids:Nat):Int) i true (w - col)=some (akl w col (.mk k n x y ks) st):=by
       rw[aK9];simp only[M.yP,M.Rq,List.length_reverse,M.Ph];rw[List.reverse_singleton] at hfit;rcases hfit with⟨q1,q2⟩|⟨q1,s',q2⟩
       ·rw[q2,q1];rfl
       ·rw[q2,q1];rfl
      obtain⟨ps,hps,hpush⟩:=hkids i (akl w col (.mk k n x y ks) st);simp only[Option.isNone_some,Bool.not_false,aK] at hb;rw[aB ak ak,hrun,ah,hpush,ah] at hb;exact go i _ ak ak (λ_=>⟨a,hx⟩) (λe=>by rw[hf] at e;cases e) ps hps hb
   |false=>have hn0:=aK7 hd1.2 h1 h2 h3 h4 h5;rw[h5,bg,hn0,Int.add_zero,aB ak ak] at hb;rw[bg];obtain⟨ps,hps,hpush⟩:=hkids i f;rw[hn0] at hpush;rw[hpush,ah] at hb;exact go i f ak ak aBK (λe=>e) ps hps hb
def akx{t:Tn}{o:Bool}(w:Int)(h:t.size<=90000000)(hx:∀n,n∈t.flat 0->n.text.length<=1000000000):M.zo (dG o (t.flat 0)) w=some (rnR t w):=by
 simp only[M.zo,M.N9,als (o:=o) h hx,ah,RD,rnR,render];have aBB:Nat.ble t.size 4000=decide (t.size<=4000):=by rw[Bool.eq_iff_iff,decide_eq_true_eq];exact Iff.of_eq Nat.ble_eq
 rw[aBB,Bool.and_comm (decide (t.size<=4000))];cases hd:(dOk t) && decide (t.size<=4000) with
 |false=>rfl
 |true=>
  cases hw:decide (0<=w) && decide (w<=10000) with
  |false=>rfl
  |true=>
   simp only[xw,decide_eq_true_eq] at hd hw;have htx:=atJ 1000000000 t 0 hx;obtain⟨L,hL,hLr⟩:=aBH (o:=o) h;have hp:=t.size_pos;have hs:=t.uf;simp only[zaN,bg,Bool.and_self,aK,flR,hLr,ah,jy,t.flat_length];obtain⟨col',hl⟩:=aGz t o hd.2 L hL w hw.1 hw.2 t.size [(t,0,false)] [[.int .i64 ((0+sizes t.kids:Nat):Int),.int .i64 0,.bool false]] [] 0 hd.2
    ⟨by simp[Gf,sizes],⟨_,[],rfl,⟨0,Lies.whole t,rfl⟩,rfl⟩,(λp hp=>by simp only[List.mem_singleton] at hp;subst hp;refine⟨hd.1,Int.le_refl 0, ?_⟩;simp only;omega),(λp hp=>by simp only[List.mem_singleton] at hp;subst hp;exact⟨hd.1,λe=>by cases e⟩),
     ⟨[],_,rfl,(λ_ h=>by cases h),(λp hp=>by simp only[List.mem_singleton] at hp;subst hp;rfl)⟩,Int.le_refl 0,
     by simp only[Gf,PO,List.map_nil,uT,uH];omega,by simp only[Gf,PO,List.map_nil,uT];omega,by simp only[Gf,PO,List.map_nil,uT];omega⟩
   rw[List.reverse_singleton] at hl;have e0:([]:aA).map byteRow=[]:=rfl;have ew:i64.wrap ((t.size:Int) - 1)=((0+sizes t.kids:Nat):Int):=(aB ak ak).trans ak;rw[e0] at hl;simp only[ew,M.Rt,hl,ah,bytesOf_map]
def ag3(w:Int):M.zo [] w=some ([],false):=by simp only[M.zo,M.N9,am5.2,ah];rfl
def UK(c:aA):List (aA)->List (aA)
 |[]=>[c]
 |h::t=>(c++h)::t
def jV:aA->List (aA)
 |[]=>[[]]
 |c::l=>if c=10 then[]::jV l else UK [c] (jV l)
def ana(a b:aA)(l:List (aA)):UK a (UK b l)=UK (a++b) l:=by cases l<;>simp[UK]
def ae9{l:List (aA)}(h:l≠[]):UK [] l=l:=by
 cases l with
 |nil=>exact absurd rfl h
 |cons x l=>rfl
def KY:∀l,jV l≠[]
 |[]=>by simp[jV]
 |c::l=>by
  rw[jV];split
  ·simp
  ·cases h:jV l<;>simp[UK]
def Xv:∀(a b:aA),(10:UInt8) ∉ a->jV (a++b)=UK a (jV b)
 |[],b,_=>(ae9 (KY b)).symm
 |c::a,b,h=>by
  have hc:¬c=10:=λe=>h (by simp[e])
  rw[VE,jV,if_neg hc,Xv a b (λhx=>h (by simp[hx])),ana];rfl
def aaL:∀l,(jV l).length<=l.length+1
 |[]=>by simp[jV]
 |c::l=>by
  have:=aaL l;rw[jV];split
  ·simp only[mQ];omega
  ·cases h:jV l with
   |nil=>simp[UK]
   |cons x t=>rw[h] at this;simp only[UK,mQ] at this|-;omega
def anb:∀(k:Nat) (s:aA),s.count 10<=k->Lib.splitK [10] 0 k s=jV s
 |0,s,h=>by
  have hn:(10:UInt8) ∉ s:=λhx=>by have:=List.count_pos_iff.2 hx;omega
  have:=Xv s [] hn;rw[List.append_nil] at this;rw[this,Lib.splitK];simp[jV,UK]
 |k+1,s,h=>by
  have hge:=Lib.indexByte_ge s 10;rw[Lib.splitK,Lib.index_one]
  by_cases hm:Lib.indexByte s 10= -1
  ·rw[if_pos (by rw[hm];rfl)];have hn:(10:UInt8) ∉ s:=λhx=>by obtain⟨i,hi⟩:=List.mem_iff_getElem?.1 hx;exact Lib.indexByte_none hm i hi
   have:=Xv s [] hn;rw[List.append_nil] at this;rw[this];simp[jV,UK]
  ·rw[if_neg (by simpa using hm)];obtain⟨i,hi⟩:∃i:Nat,Lib.indexByte s 10=i:=⟨(Lib.indexByte s 10).toNat,ak⟩
   obtain⟨h1,h2⟩:=Lib.indexByte_some hi;have hil:=(PN.1 h1).1;rw[hi,VO,Nat.add_zero,JU];have hs:s=s.take i++10::s.drop (i+1):=by
    have h3:s[i]=10:=by have:=List.getElem?_eq_getElem hil;rw[this] at h1;exact Option.some.inj h1
    rw[<-h3,<-List.drop_eq_getElem_cons hil,List.take_append_drop]
   have hn:(10:UInt8) ∉ s.take i:=λhx=>by obtain⟨j,hj⟩:=List.mem_iff_getElem?.1 hx;have hjl:=(PN.1 hj).1;rw[VF] at hjl;rw[List.getElem?_take,if_pos ak] at hj;exact h2 j ak hj
   have hc:(s.drop (i+1)).count 10<=k:=by have:=congrArg (List.count 10) hs;rw[List.count_append,List.count_cons] at this;simp at this;omega
   rw[anb k _ hc]
   conv=>rhs;rw[hs]
   rw[Xv _ _ hn,jV,if_pos rfl];simp[UK]
def awS(s:aA):acs s [10]=jV s:=by rw[acs,Lib.splitB_data];refine anb _ _ ?_;show s.count 10<=Lib.count s [10];rw[Lib.count_one];exact zaO _
def RV(s:aA):List (aA):=if(jV s).getLast? =some [] then(jV s).dropLast else jV s
@[simp] theorem awT(l:List (aA)):ay (encS l)=true:=by simp only[ay,encS,List.all_map,List.all_eq_true];intro x _;rfl
def awU(l:List (aA))(n:Nat):(encS l).take n=encS (l.take n):=by simp[encS,List.map_take]
def arM(s:aA):(RV s).length<=s.length+1:=by
 have:=aaL s;unfold RV;split
 ·rw[List.length_dropLast];omega
 ·exact this
def ag4(s:aA)(h:s.length<=1048576):M.BZ s=some (encS (RV s)):=by
 have hlen:=aaL s;have hpos:=List.length_pos_iff.2 (KY s);have hb:Nat.blt s.length 4294967281=true:=by rw[Nat.blt_eq];omega
 have hi:(((jV s).length:Nat):Int) - 1=(((jV s).length - 1:Nat):Int):=ak;have hl:(jV s)[(jV s).length - 1]? =(jV s).getLast? :=(List.getLast?_eq_getElem?).symm;obtain⟨z,hz⟩:∃z,(jV s).getLast? =some z:=⟨_,List.getLast?_eq_some_getLast (KY s)⟩
 simp only[M.BZ,M.Rw,M.strings_Split,hb,awS,zu,JU];rw[show(true && Nat.ble 1 1)=true from rfl,aK,ah,zu,aB ak ak,hi,bC,VO,WG,hl,hz];simp only[Oa,ah,cS0,awU,awT,aK];rw[RV,hz]
 by_cases hzz:z=[]
 ·subst hzz;rw[if_pos rfl,zdt ak,zdt ak,List.dropLast_eq_take];rfl
 ·rw[if_neg (by simpa using hzz)];have:(z==[])=false:=by simpa using hzz
  rw[this];rfl
section
variable (p:UInt8->Bool)
def xA(f:Bool)(s:aA):Bool:=match s.getLast? with
 |none=>f
 |some c=>p c
def XL:Bool->aA->Bool
 |_,[]=>true
 |f,c::l=>(bif c==10 then f else true) && XL (p c) l
mutual
def chk:Bool->Tn->Option Bool
 |f,.mk k _ x _ ks=>bif k==1 then some (xA p f x) else bif k==2||k==3 then(bif f then some false else none) else Jc f ks
def Jc:Bool->List Tn->Option Bool
 |f,[]=>some f
 |f,t::ts=>match chk f t with
  |none=>none
  |some g=>Jc g ts
end
end
section
variable {p:UInt8->Bool}
def aBL(f:Bool):xA p f []=f:=rfl
def Yr(f:Bool)(a b:aA):xA p f (a++b)=xA p (xA p f a) b:=by unfold xA;rw[List.getLast?_append];cases b.getLast?<;>rfl
def Yt(f:Bool)(c:UInt8):xA p f [c]=p c:=rfl
def ad9:∀(a b:aA) (f:Bool),XL p f (a++b)=(XL p f a && XL p (xA p f a) b)
 |[],b,f=>by rw[List.nil_append,XL,Bool.true_and,aBL]
 |c::a,b,f=>by
  have:xA p f (c::a)=xA p (p c) a:=by rw[<-List.singleton_append,Yr,Yt]
  rw[VE,XL,XL,ad9 a b (p c),this,Bool.and_assoc]
def anc:∀{x:aA} {f:Bool},hasB 10 x=false->XL p f x=true
 |[],f,_=>rfl
 |c::l,f,h=>by simp only[hasB,List.any_cons,Bool.or_eq_false_iff] at h;rw[XL,h.1,bg,Bool.true_and];exact anc (by simp only[hasB];exact h.2)
def af9:∀(n:Nat) (f:Bool),XL p f (List.replicate n 32)=true
 |0,f=>rfl
 |n+1,f=>by rw[List.replicate_succ,XL,af9 n];rfl
def arN:∀(a b:List Tn) (f:Bool),Jc p f (a++b)=(match Jc p f a with
  |none=>none
  |some g=>Jc p g b)
 |[],b,f=>by rw[List.nil_append,Jc]
 |t::a,b,f=>by
  rw[VE,Jc,Jc];cases chk p f t with
  |none=>rfl
  |some g=>exact arN a b g
def arO:∀a b:List Tn,Zv (a++b)=(Zv a && Zv b)
 |[],b=>by rw[List.nil_append,Zv,Bool.true_and]
 |t::a,b=>by rw[VE,Zv,Zv,arO a b,Bool.and_assoc]
def map_fst(ks:List Tn)(g:Tn->Int)(f:Bool):(ks.map λt=>((t,g t,f):Pc)).map (·.1)=ks:=by rw[List.map_map];exact List.map_id _
def WO(ks:List Tn)(i:Int)(f:Bool)(st:List Pc):((ks.map λt=>((t,i,f):Pc))++st).map (·.1)=ks++st.map (·.1):=by rw[List.map_append,map_fst ks (λ_=>i) f]
def aky(w:Int):∀(n:Nat) (st:List Pc) (out:aA) (col:Int) (f:Bool),XL p false out=true->(f=true->xA p false out=true)->(Jc p f (st.map (·.1))).isSome=true->Zv (st.map (·.1))=true->XL p false (lay w n st out col)=true
 |0,st,out,col,f,h1,h2,h3,h4=>by rw[lay];exact h1
 |n+1,[],out,col,f,h1,h2,h3,h4=>by rw[lay];exact h1
 |n+1,(.mk k m x y ks,i,b)::st,out,col,f,h1,h2,h3,h4=>by
  rw[lay];rw[PO,Zv,dOk,xw,xw] at h4;rw[PO,Jc] at h3;simp only[chk] at h3;have deep:∀(i':Int) (b':Bool),(k==1)=false->(k==2||k==3)=false->XL p false (lay w n (ks.map (λt=>(t,i',b'))++st) out col)=true:=by
   intro i' b' e1 e2;refine aky w n _ out col f h1 h2 ?_ ?_
   ·rw[WO,arN];rw[e1,bg,e2,bg] at h3;exact h3
   ·rw[WO,arO,h4.1.1,h4.2];rfl
  cases e1:k==1 with
  |true=>
   rw[aK];have hx:hasB 10 x=false:=by
    have:=h4.1.2;have hk:k=1:=by simpa using e1
    subst hk;cases hh:hasB 10 x with
    |false=>rfl
    |true=>exfalso;unfold Yp at this;rw[hh] at this;revert this;cases m==0<;>simp
   rw[e1,aK] at h3;refine aky w n st _ _ (xA p f x) ?_ ?_ h3 h4.2
   ·rw[ad9,h1,anc hx];rfl
   ·intro hf;rw[Yr];unfold xA at hf|-;cases hg:x.getLast? with
    |none=>rw[hg] at hf;exact h2 hf
    |some c=>rw[hg] at hf;exact hf
  |false=>
   rw[bg];cases e23:k==2||k==3 with
   |true=>
    rw[e1,bg,e23,aK] at h3;have hf:f=true:=by
     cases f with
     |true=>rfl
     |false=>simp at h3
    rw[hf,aK] at h3;have hb:XL p false (lay w n st (brk out i) i)=true:=by refine aky w n st _ _ false ?_ (λh=>by cases h) h3 h4.2;rw[brk,ad9,h1,XL,h2 hf,af9];rfl
    cases e2:(k==2 && b) with
    |true=>rw[aK];refine aky w n st _ _ false ?_ (λh=>by cases h) h3 h4.2;rw[ad9,h1,XL,XL];rfl
    |false=>rw[bg,aK];exact hb
   |false=>
    have e2:(k==2 && b)=false:=by rw[Bool.or_eq_false_iff] at e23;rw[e23.1];rfl
    rw[e2,bg,bg];cases k==4 with
    |true=>exact deep _ _ e1 e23
    |false=>
     cases k==5 with
     |true=>exact deep _ _ e1 e23
     |false=>exact deep _ _ e1 e23
def akz(w:Int)(b:Bool):∀(n:Nat) (st:List Pc) (out:aA) (col:Int),sizes (st.map (·.1))+1<=n->∃o,lay w n (st++[(IG,0,b)]) out col=o++[10]
 |0,st,out,col,h=>absurd h (Nat.not_succ_le_zero _)
 |n+1,[],out,col,h=>by refine⟨out, ?_⟩;rw[List.nil_append,IG,lay];cases n<;>rfl
 |n+1,(.mk k m x y ks,i,f)::st,out,col,h=>by
  rw[PO,sizes,Tn.size] at h;rw[VE,lay];have step:∀o c,∃r,lay w n (st++[(IG,0,b)]) o c=r++[10]:=λo c=>akz w b n st o c ak
  have deep:∀(i':Int) (b':Bool),∃r,lay w n (ks.map (λt=>(t,i',b'))++(st++[(IG,0,b)])) out col=r++[10]:=by intro i' b';rw[<-JR];exact akz w b n _ out col (by rw[WO,jd];omega)
  cases k==1 with
  |true=>exact step _ _
  |false=>
   cases(k==2 && f) with
   |true=>exact step _ _
   |false=>
    cases(k==2||k==3) with
    |true=>exact step _ _
    |false=>
     cases k==4 with
     |true=>exact deep _ _
     |false=>
      cases k==5 with
      |true=>exact deep _ _
      |false=>exact deep _ _
def aaM:List Tn->Nat
 |[]=>0
 |t::ts=>(bif t.kind==3 then 1 else 0)+aaM ts
def akA:∀a b:List Tn,aaM (a++b)=aaM a+aaM b
 |[],b=>by rw[List.nil_append,aaM,Nat.zero_add]
 |t::a,b=>by rw[VE,aaM,aaM,akA a b,Nat.add_assoc]
def aa6(w:Int):∀(n:Nat) (st:List Pc) (out:aA) (col:Int),sizes (st.map (·.1))<=n->out.count 10+aaM (st.map (·.1))<=(lay w n st out col).count 10
 |0,[],out,col,h=>by simp[lay,aaM]
 |0,(t,i,f)::st,out,col,h=>by rw[PO,sizes] at h;have:=t.size_pos;simp only at h;omega
 |n+1,[],out,col,h=>by simp[lay,aaM]
 |n+1,(.mk k m x y ks,i,f)::st,out,col,h=>by
  rw[PO,sizes,Tn.size] at h;rw[lay,PO,aaM,Tn.kind];have step:∀o c,out.count 10<=o.count 10->out.count 10+aaM (st.map (·.1))<=(lay w n st o c).count 10:=λo c ho=>by have:=aa6 w n st o c ak;omega
  have deep:∀(i':Int) (b':Bool),out.count 10+aaM (st.map (·.1))<=(lay w n (ks.map (λt=>(t,i',b'))++st) out col).count 10:=by intro i' b';have:=aa6 w n (ks.map (λt=>(t,i',b'))++st) out col (by rw[WO,jd];omega);rw[WO,akA] at this;omega
  have hb:out.count 10+(1+aaM (st.map (·.1)))<=(lay w n st (brk out i) i).count 10:=by
   have:=aa6 w n st (brk out i) i ak;have hc:(brk out i).count 10=out.count 10+1:=by rw[brk,List.count_append,List.count_cons,List.count_replicate];simp
   omega
  cases e3:k==3 with
  |true=>
   have hk:k=3:=by simpa using e3
   subst hk;exact hb
  |false=>
   rw[bg,Nat.zero_add];cases k==1 with
   |true=>exact step _ _ (by rw[List.count_append];omega)
   |false=>
    cases(k==2 && f) with
    |true=>exact step _ _ (by rw[List.count_append];omega)
    |false=>
     cases(k==2||false) with
     |true=>have:=hb;show _<=(lay w n st (brk out i) i).count 10;omega
     |false=>
      cases k==4 with
      |true=>exact deep _ _
      |false=>
       cases k==5 with
       |true=>exact deep _ _
       |false=>exact deep _ _
end
set_option maxHeartbeats 400000
mutual
def gl(p:UInt8->Bool):Tn->Prop
 | .mk k op x y ks=>((1<=k/\k<=4)\/k=13\/k=27\/k=34->xA p false x=true)/\(k=10->op≠1)/\gls p ks
def gls(p:UInt8->Bool):List Tn->Prop
 |[]=>True
 |t::ts=>gl p t/\gls p ts
end
def VB{p:UInt8->Bool}:∀{ks:List Tn},gls p ks↔∀t,t∈ks->gl p t
 |[]=>by rw[gls];simp
 |t::ts=>by rw[gls,VB];simp
structure ane(p:UInt8->Bool):Prop where
 any:∀c:UInt8,c≠10->c≠32->p c=true
 spell:∀op,op≠1->xA p true (spell op)=true
def gd(p:UInt8->Bool)(d:Tn):Prop:=∀f,chk p f d=some true
section
variable {p:UInt8->Bool} (hp:ane p)
def aLa(f:Bool)(s:aA):chk p f (jC s)=some (xA p f s):=rfl
def DJ(f:Bool)(l:List Tn):chk p f (lV l)=Jc p f l:=rfl
def aea(f:Bool)(d:Tn):Jc p f [d]=chk p f d:=by rw[Jc];cases chk p f d<;>rfl
def avi(f:Bool)(d:Tn):chk p f (alo d)=chk p f d:=aea f d
def akB(f:Bool)(d:Tn):chk p f (WI d)=chk p f d:=aea f d
def arP:chk p true UD=some false:=rfl
def akC:chk p true IG=some false:=rfl
def UL{f:Bool}{x:aA}(h:xA p false x=true):xA p f x=true:=by
 unfold xA at h|-;cases hx:x.getLast? with
 |none=>rw[hx] at h;cases h
 |some c=>rw[hx] at h;exact h
def akD{f:Bool}(x:aA)(c:UInt8):xA p f (x++[c])=p c:=by rw[Yr,Yt]
def Bz{f g:Bool}{d:Tn}{l:List Tn}(h:chk p f d=some g):Jc p f (d::l)=Jc p g l:=by rw[Jc,h]
def uI{f:Bool}{d:Tn}{l:List Tn}(h:gd p d):Jc p f (d::l)=Jc p true l:=Bz (h f)
def yU{f:Bool}{s:aA}{l:List Tn}:Jc p f (jC s::l)=Jc p (xA p f s) l:=rfl
def F6{f:Bool}:Jc p f []=some f:=rfl
include hp in
theorem aga(c:UInt8)(h:(c !=10 && c !=32)=true):p c=true:=by simp only[xw,bne_iff_ne,ne_eq] at h;exact hp.any c h.1 h.2
include hp in
theorem arQ:∀(L:List Tn),(∀d,d∈L->gd p d)->Jc p true (RH false L)=some true
 |[],_=>rfl
 |x::l,h=>by rw[RH,bg];show Jc p true (jC [44]::UD::x::RH false l)=some true;rw[yU,Yt,aga hp 44 rfl,Bz arP,uI (h x (by simp)),arQ l λd hd=>h d (by simp[hd])]
include hp in
theorem afa(f:Bool)(L:List Tn)(h:∀d,d∈L->gd p d):∃g,chk p f (Yl L)=some g/\(L≠[]->g=true):=by
 rw[Yl,avi,akB,DJ];cases L with
 |nil=>exact⟨f,rfl,λh=>absurd rfl h⟩
 |cons x l=>refine⟨true, ?_,λ_=>rfl⟩;rw[RH,aK,List.singleton_append,uI (h x (by simp)),arQ hp l λd hd=>h d (by simp[hd])]
theorem Pm{L:List Tn}(h:∀d,d∈L->gd p d){j:Nat}(hj:j<L.length):gd p (oP L j):=by
 obtain⟨x,hx⟩:∃x,L[j]? =some x:=⟨L[j],by simp[hj]⟩
 have:oP L j=x:=by simp[oP,hx]
 rw[this];exact h x (AU hx)
include hp in
theorem aBM{d:Tn}(h:gd p d):gd p (lV [jC [40],d,jC [41]]):=λf=>by rw[DJ,yU,uI h,yU,F6,Yt,aga hp 41 rfl]
include hp in
theorem aoH{a b:aA}{L:List Tn}(c:UInt8)(hc:(c !=10 && c !=32)=true)(h:∀d,d∈L->gd p d):gd p (lV [jC a,Yl L,jC (b++[c])]):=λf=>by obtain⟨g,h1,_⟩:=afa hp (xA p f a) L h;rw[DJ,yU,Bz h1,yU,F6,akD,aga hp c hc]
include hp in
theorem aGA(k op:Int)(n:Nat)(x:aA)(g:Bool){L:List Tn}(hk:1<=k/\k<=15)(hx:(1<=k/\k<=4)\/k=13->xA p false x=true)(h:∀d,d∈L->gd p d)
  (h1:k=6\/k=9\/k=10\/k=11->1<=L.length) (h2:k=12\/k=15->2<=L.length) (h3:k=14->3<=L.length) (h4:k=13->1<=L.length) (h5:k=10->op≠1):gd p (Zu k op n x g L):=by
 have two:∀(a:aA) {d:Tn},gd p d->gd p (lV [jC a,d]):=λa d hd f=>by rw[DJ,yU,uI hd,F6]
 have mid:∀{d e:Tn} (a:aA),gd p d->gd p e->gd p (lV [d,jC a,e]):=λa hd he f=>by rw[DJ,uI hd,yU,uI he,F6]
 have hk':k=1\/k=2\/k=3\/k=4\/k=5\/k=6\/k=7\/k=8\/k=9\/k=10\/k=11\/k=12\/k=13\/k=14\/k=15:=ak;rcases hk' with rfl|rfl|rfl|rfl|rfl|rfl|rfl|rfl|rfl|rfl|rfl|rfl|rfl|rfl|rfl
 ·exact λf=>by show some (xA p f x)=some true;rw[UL (hx ak)]
 ·exact λf=>by show some (xA p f x)=some true;rw[UL (hx ak)]
 ·exact λf=>by show some (xA p f x)=some true;rw[UL (hx ak)]
 ·exact λf=>by show some (xA p f x)=some true;rw[UL (hx ak)]
 ·exact aoH hp (b:=[]) 93 rfl h
 ·exact two [36] (Pm h (h1 ak))
 ·exact aoH hp (b:=[]) 41 rfl h
 ·exact aoH hp (b:=[]) 41 rfl h
 ·exact two (spell op) (Pm h (h1 ak))
 ·intro f;show chk p f (lV [oP L 0,jC (spell op)])=some true;rw[DJ,uI (Pm h (h1 ak)),yU,F6,hp.spell op (h5 rfl)]
 ·exact two (bif g then spell op++[32] else spell op) (Pm h (h1 ak))
 ·have a:=Pm h (show 0<L.length by have:=h2 ak;omega);have b:=Pm h (show 1<L.length by have:=h2 ak;omega);show gd p (bif op==99 then lV [oP L 0,jC [32],oP L 1] else bif(op==45||op==44) then alo (WI (lV [oP L 0,jC (32::spell op),UD,oP L 1])) else lV [oP L 0,jC ((32::spell op)++[32]),oP L 1]);cases op==99 with
  |true=>exact mid [32] a b
  |false=>
   rw[bg];cases hop:(op==45||op==44) with
   |true=>
    rw[aK];intro f;have hs:xA p true (32::spell op)=true:=by
     have hc:p 124=true:=aga hp 124 rfl;have hd:p 38=true:=aga hp 38 rfl;rw[Bool.or_eq_true,beq_iff_eq,beq_iff_eq] at hop;rcases hop with rfl|rfl
     ·show p 38=true;exact hd
     ·show p 124=true;exact hc
    rw[avi,akB,DJ,uI a,yU,hs,Bz arP,uI b,F6]
   |false=>rw[bg];exact mid ((32::spell op)++[32]) a b
 ·show gd p (bif Nat.blt 1 n then lV [jC [40],Yl L,jC ([41,32,105,110,32]++x)] else lV [oP L 0,jC ([32,105,110,32]++x)]);have e:=hx (.inr rfl);cases Nat.blt 1 n with
  |true=>intro f;obtain⟨g,q1,_⟩:=afa hp (xA p f [40]) L h;rw[aK,DJ,yU,Bz q1,yU,F6,Yr,UL e]
  |false=>intro f;rw[bg,DJ,uI (Pm h (show 0<L.length by have:=h4 rfl;omega)),yU,F6,Yr,UL e]
 ·have a:=Pm h (show 0<L.length by have:=h3 rfl;omega);have b:=Pm h (show 1<L.length by have:=h3 rfl;omega);have c:=Pm h (show 2<L.length by have:=h3 rfl;omega);intro f;show chk p f (lV [oP L 0,jC [32,63,32],oP L 1,jC [32,58,32],oP L 2])=some true;rw[DJ,uI a,yU,uI b,yU,uI c,F6]
 ·exact mid ((32::spell op)++[32]) (Pm h (show 0<L.length by have:=h2 ak;omega)) (Pm h (show 1<L.length by have:=h2 ak;omega))
theorem anf(k op:Int)(n:Nat)(q:Ps):∀(ts:List Tn) (j:Nat),(pG k op n q ts j).length=ts.length
 |[],j=>by rw[pG]
 |t::ts,j=>by rw[pG,mQ,anf k op n q ts,mQ]
include hp in
theorem arR(k op:Int)(n:Nat)(q:Ps):∀(ts:List Tn) (j:Nat),(∀u,u∈ts->∀q,gd p (oV u q))->∀d,d∈pG k op n q ts j->gd p d
 |[],j,_,d,hd=>by rw[pG] at hd;simp at hd
 |t::ts,j,h,d,hd=>by
  rw[pG] at hd;rcases List.mem_cons.1 hd with rfl|hd
  ·cases(qH k j||fits t.kind t.op (dO k op n j q)) with
   |true=>exact h t (by simp) _
   |false=>exact aBM hp (h t (by simp) _)
  ·exact arR k op n q ts (j+1) (λu hu=>h u (by simp[hu])) d hd
include hp in
theorem arS(t:Tn):BA t->WJ t->gl p t->∀q,gd p (oV t q):=by
 refine Tn.ind (P:=λt=>BA t->WJ t->gl p t->∀q,gd p (oV t q)) ?_ t;intro k op x y ks ih hok he hg q;rw[gl] at hg;have hc:=NI hok;have he':1<=k/\k<=15:=he;have hL:=anf k op ks.length q ks 0;rw[oV];refine aGA hp _ _ _ _ _ he' (λh=>hg.1 ak) (arR hp _ _ _ _ _ _ λu hu=> ?_) (λh=> ?_) (λh=> ?_) (λh=> ?_) (λh=> ?_) hg.2.1
 ·obtain⟨i,hi,hx⟩:=List.mem_iff_getElem.1 hu;have hk:=abH hok he (PN.2 ⟨hi,hx⟩);exact ih u hu hk.2 hk.1 (VB.1 hg.2.2 u hu)
 ·have:=hc.one ak;omega
 ·rcases h with h|h
  ·have:=hc.two (.inl h);omega
  ·have:=hc.two (.inr (.inl h));omega
 ·have:=hc.three h;omega
 ·have:=hc.some_ ak;omega
include hp in
theorem WQ{t:Tn}(h:BA t)(he:WJ t)(hg:gl p t)(q:Ps):gd p (vH t q):=by
 unfold vH;cases fits t.kind t.op q with
 |true=>exact arS hp t h he hg _
 |false=>exact aBM hp (arS hp t h he hg _)
end
section
variable {p:UInt8->Bool} (hp:ane p)
def sd(p:UInt8->Bool)(d:Tn):Prop:=∀f,∃g,chk p f d=some g
def gd.sd{d:Tn}(h:gd p d):sd p d:=λf=>⟨true,h f⟩
def JL(s:aA):sd p (jC s):=λf=>⟨_,rfl⟩
def acV{d e:Tn}(h:sd p d)(k:gd p e):gd p (lV [d,e]):=λf=>by obtain⟨g,h1⟩:=h f;rw[DJ,Bz h1,uI k,F6]
def aBN:∀(l:List Tn) (e:Tn),(∀d,d∈l->sd p d)->gd p e->∀f,Jc p f (l++[e])=some true
 |[],e,_,k,f=>by rw[List.nil_append,uI k,F6]
 |d::l,e,h,k,f=>by obtain⟨g,h1⟩:=h d (by simp) f;rw[VE,Bz h1];exact aBN l e (λx hx=>h x (by simp[hx])) k g
def aaN(l:List Tn)(e:Tn)(h:∀d,d∈l->sd p d)(k:gd p e):gd p (lV (l++[e])):=λf=>by rw[DJ];exact aBN l e h k f
include hp in
theorem agb(s:aA)(c:UInt8)(hc:(c !=10 && c !=32)=true):gd p (jC (s++[c])):=λf=>by rw[aLa,akD,aga hp c hc]
theorem ang:∀(L:List Tn),(∀d,d∈L->gd p d)->Jc p true (AX L)=some true
 |[],_=>rfl
 |x::l,h=>by rw[AX,Bz akC,uI (h x (by simp)),ang l λd hd=>h d (by simp[hd])]
include hp in
theorem aLb(L:List Tn)(h:∀d,d∈L->gd p d):gd p (ajI L):=λf=>by
 have h1:chk p true (WI (lV (AX L)))=some true:=by rw[akB,DJ,ang L h]
 rw[ajI,DJ,yU,Yt,aga hp 123 rfl,Bz h1,Bz akC,yU,F6,Yt,aga hp 125 rfl]
theorem aoI{ks:List Tn}{j:Nat}{u:Tn}(h:ks[j]? =some u):qm ks j=u:=by simp[qm,h]
theorem arU:∀{ks:List Tn} {j:Nat} {u:Tn},ks[j]? =some u->oP (lW ks) j=gZ u
 |[],j,u,h=>by simp at h
 |t::ts,0,u,h=>by rw[List.getElem?_cons_zero] at h;cases h;rw[lW];rfl
 |t::ts,j+1,u,h=>by rw[List.getElem?_cons_succ] at h;have:=arU h;rw[lW];simp only[oP,List.getElem?_cons_succ] at this|-;exact this
theorem anh:∀{ks:List Tn} {d:Tn},d∈lW ks->∃u,u∈ks/\d=gZ u
 |[],d,h=>by rw[lW] at h;simp at h
 |t::ts,d,h=>by
  rw[lW] at h;rcases List.mem_cons.1 h with rfl|h
  ·exact⟨t,by simp,rfl⟩
  ·obtain⟨u,h1,h2⟩:=anh h;exact⟨u,by simp[h1],h2⟩
include hp in
theorem aoJ(q:Ps)(L:List Tn)(h:∀t,t∈L->BA t/\WJ t/\gl p t):(∀f,∃g,chk p f (KO q L)=some g/\(L≠[]->g=true)):=λf=>by obtain⟨g,h1,h2⟩:=afa hp f (L.map λt=>vH t q) (λd hd=>by obtain⟨t,ht,rfl⟩:=List.mem_map.1 hd;have:=h t ht;exact WQ hp this.1 this.2.1 this.2.2 q);exact⟨g,h1,λhn=>h2 (by simpa using hn)⟩
include hp in
theorem avj(w:aA)(c:UInt8)(hc:(c !=10 && c !=32)=true)(ks:List Tn)(h:∀t,t∈ks->BA t/\WJ t/\gl p t):gd p (aas (w++[c]) ks):=by
 cases ks with
 |nil=>exact agb hp w c hc
 |cons t ts=>
  obtain⟨h1,h2,h3⟩:=h t (by simp);have e:(t.kind==16)=false:=by unfold WJ at h2;exact II.2 ak
  have:gd p (RI t):=by unfold RI;rw[e,bg];exact acV (JL _) (WQ hp h1 h2 h3 .top)
  exact acV (JL _) this
include hp in
theorem aLc(op:Int)(y:aA)(ks:List Tn)(h:∀t,t∈ks->BA t/\WJ t/\gl p t)(hn:y≠[]->1<=ks.length):gd p (ajJ op y ks):=by
 have hw:gd p (jC (bif op==0 then[112,114,105,110,116] else[112,114,105,110,116,102])):=by
  cases op==0 with
  |true=>exact agb hp [112,114,105,110] 116 rfl
  |false=>exact agb hp [112,114,105,110,116] 102 rfl
 unfold ajJ;generalize jC (bif op==0 then[112,114,105,110,116] else[112,114,105,110,116,102])=W at hw|-;cases hy:y==[] with
 |true=>
  simp only[aK,List.append_nil];cases ks with
  |nil=>intro f;rw[DJ];show Jc p f [W]=some true;rw[aea,hw f]
  |cons t ts=>intro f;obtain⟨g,h1,h2⟩:=aoJ hp ⟨1,false,false,true,false⟩ (t::ts) h (xA p true [32]);rw[h2 (by simp)] at h1;rw[DJ];show Jc p f [W,jC [32],KO ⟨1,false,false,true,false⟩ (t::ts)]=some true;rw[uI hw,yU,Bz h1,F6]
 |false=>
  have hy':y≠[]:=by intro e;rw[e] at hy;cases hy
  have hl:=hn hy';obtain⟨u,hu⟩:∃u,ks[ks.length - 1]? =some u:=⟨ks[ks.length - 1],by simp⟩
  obtain⟨u1,u2,u3⟩:=h u (AU hu);have he:gd p ((vH (qm ks (ks.length - 1))) ⟨9,false,false,false,false⟩):=by rw[aoI hu];exact WQ hp u1 u2 u3 _
  have ha:sd p (KO ⟨1,false,false,true,false⟩ (ks.take (ks.length - 1))):=λf=>by obtain⟨g,h1,_⟩:=aoJ hp ⟨1,false,false,true,false⟩ (ks.take (ks.length - 1)) (λt ht=>h t (List.mem_of_mem_take ht)) f;exact⟨g,h1⟩
  simp only[bg];cases Nat.blt 0 (ks.take (ks.length - 1)).length with
  |true=>
   exact aaN [_,jC [32],KO ⟨1,false,false,true,false⟩ (ks.take (ks.length - 1)),jC (([32]++y)++[32])] _ (by
    intro d hd;simp only[List.mem_cons,List.not_mem_nil,or_false] at hd;rcases hd with rfl|rfl|rfl|rfl
    ·exact hw.sd
    ·exact JL _
    ·exact ha
    ·exact JL _) he
  |false=>
   exact aaN [_,jC (([32]++y)++[32])] _ (by
    intro d hd;simp only[List.mem_cons,List.not_mem_nil,or_false] at hd;rcases hd with rfl|rfl
    ·exact hw.sd
    ·exact JL _) he
include hp in
theorem akE(t:Tn):BA t->20<=t.kind/\t.kind<=34->gl p t->gd p (gZ t):=by
 induction t using Tn.ind with
 |h k op x y ks ih=>
  intro hok hk hg;rw[gl] at hg;have hc:=NI hok;have kid:∀{j:Nat},j<ks.length->∃u,ks[j]? =some u/\qm ks j=u/\oP (lW ks) j=gZ u/\Dx (cls k op ks.length j) u.kind/\BA u/\gl p u/\u∈ks:=by
   intro j hj;obtain⟨u,hu⟩:∃u,ks[j]? =some u:=⟨ks[j],by simp⟩
   have h1:=Ej hok hu;have hm:=AU hu;exact⟨u,hu,aoI hu,arU hu,h1.1,h1.2,VB.1 hg.2.2 u hm,hm⟩
  have expr:∀{j:Nat},j<ks.length->cls k op ks.length j=0->∀q,gd p (vH (qm ks j) q):=by intro j hj hcl q;obtain⟨u,_,h2,_,h4,h5,h6,_⟩:=kid hj;rw[h2];rw[hcl] at h4;exact WQ hp h5 h4 h6 q
  have blk:∀{j:Nat},j<ks.length->cls k op ks.length j=1->gd p (oP (lW ks) j):=by intro j hj hcl;obtain⟨u,_,h2,h3,h4,h5,h6,h7⟩:=kid hj;rw[h3];rw[hcl] at h4;have h4':u.kind=33:=h4;exact ih u h7 h5 ak h6
  have all:(∀j,cls k op ks.length j=0)->∀t,t∈ks->BA t/\WJ t/\gl p t:=by intro hcl t ht;obtain⟨j,hj⟩:=List.mem_iff_getElem?.1 ht;have h1:=Ej hok hj;rw[hcl] at h1;exact⟨h1.2,h1.1,VB.1 hg.2.2 t ht⟩
  have spc:∀{j:Nat},j<ks.length->cls k op ks.length j=3->sd p (RI (qm ks j))/\∀q,sd p (bif(qm ks j).kind==16 then jC [] else vH (qm ks j) q):=by
   intro j hj hcl;obtain⟨u,_,h2,_,h4,h5,h6,_⟩:=kid hj;rw[h2];rw[hcl] at h4;unfold RI;cases h16:u.kind==16 with
   |true=>exact⟨JL _,λq=>JL _⟩
   |false=>
    have he:WJ u:=by
     rcases h4 with h4|h4
     ·rw[h4] at h16;cases h16
     ·exact h4
    exact⟨(acV (JL _) (WQ hp h5 he h6 .top)).sd,λq=>(WQ hp h5 he h6 q).sd⟩
  simp only[Tn.kind] at hk;rw[gZ];have hk':k=20\/k=21\/k=22\/k=23\/k=24\/k=25\/k=26\/k=27\/k=28\/k=29\/k=30\/k=31\/k=32\/k=33\/k=34:=ak;rcases hk' with rfl|rfl|rfl|rfl|rfl|rfl|rfl|rfl|rfl|rfl|rfl|rfl|rfl|rfl|rfl
  ·exact expr (by have:=hc.one ak;omega) (by simp[cls]) .top
  ·exact aLc hp op y ks (all λj=>by simp[cls]) (hc.prn rfl).2
  ·exact agb hp [110,101,120] 116 rfl
  ·exact avj hp [101,120,105] 116 rfl ks (all λj=>by simp[cls])
  ·exact avj hp [114,101,116,117,114] 110 rfl ks (all λj=>by simp[cls])
  ·exact agb hp [98,114,101,97] 107 rfl
  ·exact agb hp [99,111,110,116,105,110,117] 101 rfl
  ·have hx:=hg.1 ak;have ha:=all λj=>by simp[cls]
   cases ks with
   |nil=>intro f;show some (xA p f ([100,101,108,101,116,101,32]++x))=some true;rw[Yr,UL hx]
   |cons t ts=>
    refine aaN [jC (([100,101,108,101,116,101,32]++x)++[91]),KO .top (t::ts)] _ (λd hd=> ?_) (agb hp [] 93 rfl);simp only[List.mem_cons,List.not_mem_nil,or_false] at hd;rcases hd with rfl|rfl
    ·exact JL _
    ·exact λf=>by obtain⟨g,h1,_⟩:=aoJ hp .top (t::ts) ha f;exact⟨g,h1⟩
  ·have hcn:=hc.cnd rfl;have a:=expr (j:=0) ak (by simp[cls]) .top;have b:=blk (j:=1) ak (by simp[cls]);have hd:gd p (lV [jC [105,102,32,40],Dw (qm ks 0),jC [41,32],oP (lW ks) 1]):=aaN [jC [105,102,32,40],Dw (qm ks 0),jC [41,32]] _ (by
    intro d hd;simp only[List.mem_cons,List.not_mem_nil,or_false] at hd;rcases hd with rfl|rfl|rfl
    ·exact JL _
    ·exact a.sd
    ·exact JL _) b
   show gd p (bif Nat.blt 2 ks.length then lV [lV [jC [105,102,32,40],Dw (qm ks 0),jC [41,32],oP (lW ks) 1],jC [32,101,108,115,101,32],oP (lW ks) 2] else lV [jC [105,102,32,40],Dw (qm ks 0),jC [41,32],oP (lW ks) 1]);cases h2:Nat.blt 2 ks.length with
   |false=>exact hd
   |true=>
    have h2':2<ks.length:=by rw[Nat.blt_eq] at h2;exact h2
    have c:=blk (j:=2) h2' (by simp[cls]);refine aaN [_,jC [32,101,108,115,101,32]] _ (λd he=> ?_) c;simp only[List.mem_cons,List.not_mem_nil,or_false] at he;rcases he with rfl|rfl
    ·exact hd.sd
    ·exact JL _
  ·have h2:=hc.two ak;have a:=expr (j:=0) ak (by simp[cls]) .top;have b:=blk (j:=1) ak (by simp[cls]);exact aaN [jC [119,104,105,108,101,32,40],Dw (qm ks 0),jC [41,32]] _ (by
    intro d hd;simp only[List.mem_cons,List.not_mem_nil,or_false] at hd;rcases hd with rfl|rfl|rfl
    ·exact JL _
    ·exact a.sd
    ·exact JL _) b
  ·have h2:=hc.two ak;have a:=expr (j:=1) ak (by simp[cls]) .top;have b:=blk (j:=0) ak (by simp[cls]);exact aaN [jC [100,111,32],oP (lW ks) 0,jC [32,119,104,105,108,101,32,40],Dw (qm ks 1)] _ (by
    intro d hd;simp only[List.mem_cons,List.not_mem_nil,or_false] at hd;rcases hd with rfl|rfl|rfl|rfl
    ·exact JL _
    ·exact b.sd
    ·exact JL _
    ·exact a.sd) (agb hp [] 41 rfl)
  ·have h4:=hc.four rfl;have a:=spc (j:=0) ak (by simp[cls]);have b:=spc (j:=1) ak (by simp[cls]);have c:=spc (j:=2) ak (by simp[cls]);have e:=blk (j:=3) ak (by simp[cls]);exact aaN [jC [102,111,114,32,40],(bif(qm ks 0).kind==16 then jC [] else(vH (qm ks 0)) ⟨1,false,true,false,false⟩),jC [59],RI (qm ks 1),jC [59],RI (qm ks 2),jC [41,32]] _ (by
    intro d hd;simp only[List.mem_cons,List.not_mem_nil,or_false] at hd;rcases hd with rfl|rfl|rfl|rfl|rfl|rfl|rfl
    ·exact JL _
    ·exact a.2 _
    ·exact JL _
    ·exact b.1
    ·exact JL _
    ·exact c.1
    ·exact JL _) e
  ·have h1:=hc.one ak;exact acV (JL _) (blk (j:=0) ak (by simp[cls]))
  ·refine aLb hp _ λd hd=> ?_
   obtain⟨u,hu,rfl⟩:=anh hd;obtain⟨j,hj⟩:=List.mem_iff_getElem?.1 hu;have h1:=Ej hok hj;have h2:cls 33 op ks.length j=2:=by simp[cls]
   rw[h2] at h1;exact ih u hu h1.2 h1.1 (VB.1 hg.2.2 u hu)
  ·exact λf=>by show some (xA p f x)=some true;rw[UL (hg.1 ak)]
theorem akF:∀(ks:List Tn) (b f:Bool),(∀u,u∈ks->(u.kind=33/\gd p (gZ u))\/(u.kind≠33/\gd p (Dw u)))->Jc p f (yE ks b)=some (bif ks.isEmpty then f else true)
 |[],b,f,_=>rfl
 |u::l,b,f,h=>by
  have il:=akF l false true λv hv=>h v (by simp[hv])
  have e:(bif l.isEmpty then true else true)=true:=by cases l.isEmpty<;>rfl
  rw[e] at il;rw[yE];rcases h u (by simp) with⟨h1,h2⟩|⟨h1,h2⟩
  ·rw[h1];cases b with
   |true=>show Jc p f (gZ u::yE l false)=_;rw[uI h2,il];rfl
   |false=>show Jc p f (jC [32]::gZ u::yE l false)=_;rw[yU,uI h2,il];rfl
  ·have e2:(u.kind==33)=false:=II.2 h1;rw[e2];cases b with
   |true=>show Jc p f (Dw u::yE l false)=_;rw[uI h2,il];rfl
   |false=>show Jc p f (jC [44,32]::Dw u::yE l false)=_;rw[yU,uI h2,il];rfl
theorem ani:∀(L:List Tn) (f:Bool),(∀u,u∈L->gd p (itemD u))->Jc p f (tY L)=some (bif L.isEmpty then f else false)
 |[],f,_=>rfl
 |u::l,f,h=>by
  have il:=ani l false λv hv=>h v (by simp[hv])
  have e:(bif l.isEmpty then false else false)=false:=by cases l.isEmpty<;>rfl
  rw[e] at il;rw[tY,uI (h u (by simp)),Bz akC,il];rfl
end
section
variable {p:UInt8->Bool} (hp:ane p)
include hp in
theorem aGB(t:Tn):BA t->(40<=t.kind/\t.kind<=44)\/t.kind=34->gl p t->gd p (itemD t):=by
 intro hok hk hg;have hS:=akE hp t hok;obtain⟨k,op,x,y,ks⟩:=t;have hg':=hg;rw[gl] at hg;have hc:=NI hok;simp only[Tn.kind] at hk;have blk:∀{j:Nat},j<ks.length->cls k op ks.length j=1->gd p (gZ (qm ks j)):=by
  intro j hj hcl;obtain⟨u,hu⟩:∃u,ks[j]? =some u:=⟨ks[j],by simp⟩
  have h1:=Ej hok hu;rw[hcl] at h1;have h33:u.kind=33:=h1.1;rw[aoI hu];exact akE hp u h1.2 ak (VB.1 hg.2.2 u (AU hu))
 have parts:(∀j,cls k op ks.length j=0\/cls k op ks.length j=1)->∀u,u∈ks->(u.kind=33/\gd p (gZ u))\/(u.kind≠33/\gd p (Dw u)):=by
  intro hcl u hu;obtain⟨j,hj⟩:=List.mem_iff_getElem?.1 hu;have h1:=Ej hok hj;have h2:=VB.1 hg.2.2 u hu;rcases hcl j with h|h
  ·rw[h] at h1;have he:WJ u:=h1.1;refine .inr ⟨?_,WQ hp h1.2 he h2 .top⟩;unfold WJ at he;omega
  ·rw[h] at h1;have h33:u.kind=33:=h1.1;exact .inl ⟨h33,akE hp u h1.2 ak h2⟩
 have hk':k=40\/k=41\/k=42\/k=43\/k=44\/k=34:=ak;rcases hk' with rfl|rfl|rfl|rfl|rfl|rfl
 ·have:=hc.one ak;exact acV (JL _) (blk (j:=0) ak (by simp[cls]))
 ·have:=hc.one ak;exact acV (JL _) (blk (j:=0) ak (by simp[cls]))
 ·intro f;have hr:=hc.rule rfl;have hn:ks.isEmpty=false:=by
   cases ks with
   |nil=>simp at hr
   |cons a l=>rfl
  show Jc p f (yE ks true)=some true;rw[akF ks true f (parts λj=>by
   have e:cls 42 op ks.length j=if op=2\/(op=3/\j+1=ks.length) then 1 else 0:=by simp[cls]
   rw[e];split
   ·exact .inr rfl
   ·exact .inl rfl),hn]
  rfl
 ·intro f;have hr:=hc.range rfl;have hn:ks.isEmpty=false:=by
   cases ks with
   |nil=>simp at hr
   |cons a l=>rfl
  show Jc p f (yE ks true)=some true;rw[akF ks true f (parts λj=>by
   have e:cls 43 op ks.length j=if j=2 then 1 else 0:=by simp[cls]
   rw[e];split
   ·exact .inr rfl
   ·exact .inl rfl),hn]
  rfl
 ·have:=hc.some_ ak;exact acV (JL _) (blk (j:=ks.length - 1) ak (by have e:ks.length - 1+1=ks.length:=ak;simp[cls,e]))
 ·exact hS (by simp only[Tn.kind];omega) hg'
include hp in
theorem aBO{T:Tn}(hok:BA T)(hk:T.kind=45)(hg:gl p T):(chk p false (xu T)).isSome=true:=by
 obtain⟨k,op,x,y,ks⟩:=T;rw[gl] at hg;have e:(bif ks.isEmpty then false else false)=false:=by cases ks.isEmpty<;>rfl
 rw[xu,DJ];show(Jc p false (tY ks)).isSome=true;rw[ani ks false λu hu=> ?_]
 ·rfl
 ·obtain⟨j,hj⟩:=List.mem_iff_getElem?.1 hu;have h1:=Ej hok hj;have hk':k=45:=hk;have hcl:cls k op ks.length j=5:=by rw[hk'];simp[cls]
  rw[hcl] at h1;exact aGB hp u h1.2 h1.1 (VB.1 hg.2.2 u hu)
theorem agc:∀(L:List Tn),L≠[]->∃a,tY L=a++[IG]
 |[],h=>absurd rfl h
 |[t],_=>⟨[itemD t],rfl⟩
 |t::u::l,_=>by obtain⟨a,ha⟩:=agc (u::l) (by simp);exact⟨itemD t::IG::a,by rw[tY,ha];rfl⟩
theorem akG:∀(L:List Tn),L.length<=aaM (tY L)
 |[]=>zaO _
 |t::l=>by have:=akG l;have e:(bif IG.kind==3 then 1 else 0)=1:=rfl;rw[tY,aaM,aaM,e,mQ];omega
def xK(T:Tn)(w:Int):aA:=lay w (xu T).size [(xu T,0,false)] [] 0
theorem akH(T:Tn)(w:Int):xK T w=lay w (sizes (tY T.kids)) ((tY T.kids).map (λt=>(t,0,false))++[]) [] 0:=by unfold xK;rw[xu,lV,Tn.size,lay];rfl
include hp in
theorem aGC{T:Tn}(hok:BA T)(hk:T.kind=45)(hg:gl p T)(hd:dOk (xu T)=true)(w:Int):XL p false (xK T w)=true:=by
 refine aky w _ _ _ _ false rfl (λh=>by cases h) ?_ ?_
 ·show(Jc p false [xu T]).isSome=true;rw[aea];exact aBO hp hok hk hg
 ·show Zv [xu T]=true;rw[Zv,hd];rfl
theorem anj{T:Tn}(h:T.kids≠[])(w:Int):∃o,xK T w=o++[10]:=by rw[akH,List.append_nil];obtain⟨a,ha⟩:=agc T.kids h;rw[ha,List.map_append];refine akz w false _ _ _ _ ?_;rw[map_fst a (λ_=>0) false,jd];exact zaO _
theorem awV{T:Tn}(h:T.kids=[])(w:Int):xK T w=[]:=by rw[akH,h];rfl
theorem atM(T:Tn)(w:Int):T.kids.length<=(xK T w).count 10:=by rw[akH];have h1:=aa6 w (sizes (tY T.kids)) ((tY T.kids).map (λt=>(t,0,false))++[]) [] 0 (by rw[WO,jd];exact zaO _);have h2:=akG T.kids;rw[WO,akA] at h1;omega
end
def ank(c d:UInt8)(b:aA):hasB c (d::b)=((d==c)||hasB c b):=by simp[hasB]
def n10{c:UInt8}(h:(c.toNat:Int)≠10):(c==10)=false:=II.2 λe=>h (by rw[e];rfl)
def aLd{s:aA}(h:∀i:Nat,i<s.length->JQ s (i:Int)≠10):hasB 10 s=false:=by
 cases hb:hasB 10 s with
 |false=>rfl
 |true=>
  unfold hasB at hb;rw[List.any_eq_true] at hb;obtain⟨c,hc,he⟩:=hb;obtain⟨i,hi,hx⟩:=List.mem_iff_getElem.1 hc;have:=h i hi;rw[Pj,List.getElem?_eq_getElem hi,hx] at this;have aLe:c=10:=by simpa using he
  subst aLe;exact absurd rfl this
def aBP{p:UInt8->Bool}:∀{l:aA} {j:Nat},j<(l.takeWhile p).length->∃c,l[j]? =some c/\p c=true
 |[],j,h=>by simp at h
 |c::l,j,h=>by
  rw[List.takeWhile_cons] at h;cases hp:p c with
  |false=>rw[hp] at h;simp at h
  |true=>
   rw[hp] at h;simp only[if_true,mQ] at h;cases j with
   |zero=>exact⟨c,rfl,hp⟩
   |succ j=>obtain⟨d,h1,h2⟩:=aBP (p:=p) (l:=l) (j:=j) ak;exact⟨d,by rw[List.getElem?_cons_succ];exact h1,h2⟩
def aGD{b:Int}(h:isD b=true):b≠10:=by unfold isD at h;rw[xw,decide_eq_true_eq,decide_eq_true_eq] at h;omega
def ahE{s:aA}{a:Int}(h0:0<=a):∀i,a<=i->i<pz s a->JQ s i≠10:=by intro i h1 h2;unfold pz at h2;rw[if_pos h0] at h2;obtain⟨c,hc,hp⟩:=aBP (p:=λc=>isD (c.toNat:Int)) (l:=s.drop a.toNat) (j:=(i - a).toNat) ak;rw[List.getElem?_drop,show a.toNat+(i - a).toNat=i.toNat by omega] at hc;have e:i=(i.toNat:Int):=ak;rw[e,Pj,hc];exact aGD hp
def anl{s:aA}{r:Int}(h0:0<=r):∀i,r<=i->i<XF s r->JQ s i≠10:=by
 intro i h1 h2;unfold XF at h2;cases he:(JQ s r==101)||(JQ s r==69) with
 |false=>rw[he,bg] at h2;omega
 |true=>
  have hr:JQ s r≠10:=by rw[Bool.or_eq_true,beq_iff_eq,beq_iff_eq] at he;omega
  by_cases hi:i=r
  ·rw[hi];exact hr
  rw[he,aK] at h2;cases hs:(JQ s (r+1)==43)||(JQ s (r+1)==45) with
  |true=>
   have hr1:JQ s (r+1)≠10:=by rw[Bool.or_eq_true,beq_iff_eq,beq_iff_eq] at hs;omega
   rw[hs,aK] at h2
   by_cases hi1:i=r+1
   ·rw[hi1];exact hr1
   cases hd:decide (pz s (r+1+1)>r+1+1) with
   |true=>rw[hd,aK] at h2;exact ahE ak i ak h2
   |false=>rw[hd,bg] at h2;omega
  |false=>
   rw[hs,bg] at h2;cases hd:decide (pz s (r+1)>r+1) with
   |true=>rw[hd,aK] at h2;exact ahE ak i ak h2
   |false=>rw[hd,bg] at h2;omega
def aLf{s:aA}(hl:s.length<=1048576)(h:XG s 0=(s.length:Int)):hasB 10 s=false:=by
 refine aLd λi hi=> ?_
 unfold XG at h;rw[if_neg ak] at h;have r0:=KJ hl (a:=0) ak
 by_cases h1:(i:Int)<pz s 0
 ·exact ahE ak _ ak h1
 cases hp:JQ s (pz s 0)==46 with
 |true=>
  rw[hp,aK] at h;have hp':JQ s (pz s 0)≠10:=by rw[beq_iff_eq] at hp;omega
  by_cases h2:(i:Int)=pz s 0
  ·rw[h2];exact hp'
  have r1:=KJ hl (a:=pz s 0+1) ak;cases hq:(pz s 0==0) &&(pz s (pz s 0+1)==pz s 0+1) with
  |true=>rw[hq,aK] at h;omega
  |false=>
   rw[hq,bg] at h
   by_cases h3:(i:Int)<pz s (pz s 0+1)
   ·exact ahE ak _ ak h3
   ·exact anl (r:=pz s (pz s 0+1)) ak _ ak ak
 |false=>
  rw[hp,bg] at h;cases hq:pz s 0==0 with
  |true=>rw[hq,aK] at h;omega
  |false=>rw[hq,bg] at h;exact anl (r:=pz s 0) ak _ ak ak
def aGE{b:Int}(h:isW b=true):b≠10:=by unfold isW isL isD at h;simp only[Bool.or_eq_true,xw,decide_eq_true_eq,beq_iff_eq] at h;omega
def avk:∀{s:aA},aol s=true->hasB 10 s=false
 |[],_=>rfl
 |c::l,h=>by unfold aol at h;rw[List.all_cons,xw] at h;rw[ank,n10 (aGE h.1),Bool.false_or];exact avk h.2
def aGF{s:aA}(h:I9 s=true):hasB 10 s=false:=by unfold I9 SV at h;rw[xw,xw] at h;exact avk h.1.1
def arV{k op:Int}{t o:aA}{kids:au}(h:M.aH k op t o kids=some true)(hk:1<=k/\k<=16):M.eX k op t o kids=some true/\M.cu k op t o kids=some true:=by
 have e1:(decide (k>=1) && decide (k<=16))=true:=by rw[xw,decide_eq_true_eq,decide_eq_true_eq];exact hk
 simp only[M.aH,M.aY,gu,e1,ah,aK] at h;cases hm:M.dD k op t o kids with
 |none=>rw[hm] at h;cases h
 |some r=>
  rw[hm,ah] at h;cases ho:M.eX k op t o kids with
  |none=>rw[ho] at h;cases h
  |some b=>
   rw[ho,ah] at h;cases b with
   |false=>cases h
   |true=>
    rw[aK] at h;cases hx:M.cu k op t o kids with
    |none=>rw[hx] at h;cases h
    |some c=>
     rw[hx,ah] at h;cases c with
     |false=>cases h
     |true=>exact⟨rfl,rfl⟩
def aYo{k op:Int}{t o:aA}{kids:au}(h:M.aH k op t o kids=some true)(hk:1<=k/\k<=15):op≠1:=by
 have h:=(arV h ak).1;rintro rfl;have hk:k=1\/k=2\/k=3\/k=4\/k=5\/k=6\/k=7\/k=8\/k=9\/k=10\/k=11\/k=12\/k=13\/k=14\/k=15:=ak;have e12:=(AB 1).1;have e15:=(oO 1).1;have n12:afU 1=false:=by decide
 have n15:afV 1=false:=by decide
 rw[n12] at e12;rw[n15] at e15;rcases hk with rfl|rfl|rfl|rfl|rfl|rfl|rfl|rfl|rfl|rfl|rfl|rfl|rfl|rfl|rfl
 all_goals first
  |(have h':some ((1:Int)==0)=some true:=h;cases h';done)
  |(have h':some ((1:Int)==52)=some true:=h;cases h';done)
  |(have h':some ((1:Int)==61)=some true:=h;cases h';done)
  |(have h':((M.yK 1).bind λr=>some r)=some true:=h;rw[e12] at h';cases h';done)
  |(have h':((M.qM 1).bind λr=>some r)=some true:=h;rw[e15] at h';cases h';done)
def anm{x:Option Bool}{c:Bool}{y:Bool}(hx:x=some y)(h:(x.bind λr=>bif r then some c else some false)=some true):y=true:=by
 rw[hx,ah] at h;cases y with
 |true=>rfl
 |false=>cases h
def size_pos(t:Tn):1<=t.size:=by cases t;rw[Tn.size];omega
def n32{c:UInt8}(h:(c.toNat:Int)≠32):(c==32)=false:=II.2 λe=>h (by rw[e];rfl)
def aBQ{s:aA}(h:∀i:Nat,i<s.length->JQ s (i:Int)≠32):hasB 32 s=false:=by
 cases hb:hasB 32 s with
 |false=>rfl
 |true=>
  unfold hasB at hb;rw[List.any_eq_true] at hb;obtain⟨c,hc,he⟩:=hb;obtain⟨i,hi,hx⟩:=List.mem_iff_getElem.1 hc;have:=h i hi;rw[Pj,List.getElem?_eq_getElem hi,hx] at this;have aLe:c=32:=by simpa using he
  subst aLe;exact absurd rfl this
def aGG{b:Int}(h:isD b=true):b≠32:=by unfold isD at h;rw[xw,decide_eq_true_eq,decide_eq_true_eq] at h;omega
def aeb{s:aA}{a:Int}(h0:0<=a):∀i,a<=i->i<pz s a->JQ s i≠32:=by intro i h1 h2;unfold pz at h2;rw[if_pos h0] at h2;obtain⟨c,hc,hp⟩:=aBP (p:=λc=>isD (c.toNat:Int)) (l:=s.drop a.toNat) (j:=(i - a).toNat) ak;rw[List.getElem?_drop,show a.toNat+(i - a).toNat=i.toNat by omega] at hc;have e:i=(i.toNat:Int):=ak;rw[e,Pj,hc];exact aGG hp
def akI{s:aA}{r:Int}(h0:0<=r):∀i,r<=i->i<XF s r->JQ s i≠32:=by
 intro i h1 h2;unfold XF at h2;cases he:(JQ s r==101)||(JQ s r==69) with
 |false=>rw[he,bg] at h2;omega
 |true=>
  have hr:JQ s r≠32:=by rw[Bool.or_eq_true,beq_iff_eq,beq_iff_eq] at he;omega
  by_cases hi:i=r
  ·rw[hi];exact hr
  rw[he,aK] at h2;cases hs:(JQ s (r+1)==43)||(JQ s (r+1)==45) with
  |true=>
   have hr1:JQ s (r+1)≠32:=by rw[Bool.or_eq_true,beq_iff_eq,beq_iff_eq] at hs;omega
   rw[hs,aK] at h2
   by_cases hi1:i=r+1
   ·rw[hi1];exact hr1
   cases hd:decide (pz s (r+1+1)>r+1+1) with
   |true=>rw[hd,aK] at h2;exact aeb ak i ak h2
   |false=>rw[hd,bg] at h2;omega
  |false=>
   rw[hs,bg] at h2;cases hd:decide (pz s (r+1)>r+1) with
   |true=>rw[hd,aK] at h2;exact aeb ak i ak h2
   |false=>rw[hd,bg] at h2;omega
def aGH{s:aA}(hl:s.length<=1048576)(h:XG s 0=(s.length:Int)):hasB 32 s=false:=by
 refine aBQ λi hi=> ?_
 unfold XG at h;rw[if_neg ak] at h;have r0:=KJ hl (a:=0) ak
 by_cases h1:(i:Int)<pz s 0
 ·exact aeb ak _ ak h1
 cases hp:JQ s (pz s 0)==46 with
 |true=>
  rw[hp,aK] at h;have hp':JQ s (pz s 0)≠32:=by rw[beq_iff_eq] at hp;omega
  by_cases h2:(i:Int)=pz s 0
  ·rw[h2];exact hp'
  have r1:=KJ hl (a:=pz s 0+1) ak;cases hq:(pz s 0==0) &&(pz s (pz s 0+1)==pz s 0+1) with
  |true=>rw[hq,aK] at h;omega
  |false=>
   rw[hq,bg] at h
   by_cases h3:(i:Int)<pz s (pz s 0+1)
   ·exact aeb ak _ ak h3
   ·exact akI (r:=pz s (pz s 0+1)) ak _ ak ak
 |false=>
  rw[hp,bg] at h;cases hq:pz s 0==0 with
  |true=>rw[hq,aK] at h;omega
  |false=>rw[hq,bg] at h;exact akI (r:=pz s 0) ak _ ak ak
def afb(s:aA):Prop:=∃c,s.getLast? =some c/\c≠10/\c≠32
def avl{s:aA}(h0:s≠[])(h1:hasB 10 s=false)(h2:hasB 32 s=false):afb s:=by
 obtain⟨c,hc⟩:∃c,s.getLast? =some c:=by
  cases hs:s.getLast? with
  |none=>rw[List.getLast?_eq_none_iff] at hs;exact absurd hs h0
  |some c=>exact⟨c,rfl⟩
 have hm:=List.mem_of_getLast? hc;refine⟨c,hc,λe=> ?_,λe=> ?_⟩
 ·subst e;unfold hasB at h1;rw[List.any_eq_false] at h1;exact absurd rfl (h1 10 hm)
 ·subst e;unfold hasB at h2;rw[List.any_eq_false] at h2;exact absurd rfl (h2 32 hm)
def afc{q:Int}:∀(n:Nat) (l:aA) (i:Int),l.length<=n->0<=i->acI q l i=i+(l.length:Int)->∃c,l.getLast? =some c/\(c.toNat:Int)=q
 |n,[],i,_,h0,h=>by rw[acI] at h;simp at h;omega
 |0,c::l,i,hn,_,_=>by simp at hn
 |n+1,c::l,i,hn,h0,h=>by
  rw[aeS] at h;rw[mQ] at h hn
  by_cases h1:(c.toNat:Int)=q
  ·rw[if_pos h1] at h;have hl:l=[]:=List.eq_nil_of_length_eq_zero ak;rw[hl];exact⟨c,rfl,h1⟩
  rw[if_neg h1] at h
  by_cases h2:(c.toNat:Int)=10
  ·rw[if_pos h2] at h;omega
  rw[if_neg h2] at h
  by_cases h3:(c.toNat:Int)=92
  ·rw[if_pos h3] at h;cases l with
   |nil=>simp at h;omega
   |cons d l=>
    simp only[] at h;rw[mQ] at h hn
    by_cases h4:(d.toNat:Int)=10
    ·rw[if_pos h4] at h;omega
    ·rw[if_neg h4] at h;obtain⟨e,h5,h6⟩:=afc (q:=q) n l (i+2) ak ak ak;refine⟨e, ?_,h6⟩;rw[List.getLast?_cons_cons,List.getLast?_cons];rw[h5];rfl
  ·rw[if_neg h3] at h;obtain⟨e,h5,h6⟩:=afc (q:=q) n l (i+1) ak ak ak;exact⟨e,by rw[List.getLast?_cons,h5];rfl,h6⟩
def agd{s:aA}{q:Int}(hq:q≠10/\q≠32)(h:quoted s 0 q=(s.length:Int)):afb s:=by
 unfold quoted at h;split at h
 ·next h1=>
  cases s with
  |nil=>
   rw[uH] at h;have:acI q [] (0+1)= -1:=by rw[acI]
   simp[acI] at h
  |cons c l=>
   rw[show(0+1:Int).toNat=1 from rfl,List.drop_succ_cons,List.drop_zero,mQ] at h;obtain⟨e,h2,h3⟩:=afc (q:=q) l.length l (0+1) (zaO _) ak ak;refine⟨e,by rw[List.getLast?_cons,h2];rfl,λh=> ?_,λh=> ?_⟩
   ·subst h;exact hq.1 h3.symm
   ·subst h;exact hq.2 h3.symm
 ·omega
def aGI{b:Int}(h:isW b=true):b≠32:=by unfold isW isL isD at h;simp only[Bool.or_eq_true,xw,decide_eq_true_eq,beq_iff_eq] at h;omega
def arW:∀{s:aA},aol s=true->hasB 32 s=false
 |[],_=>rfl
 |c::l,h=>by unfold aol at h;rw[List.all_cons,xw] at h;rw[ank,n32 (aGI h.1),Bool.false_or];exact arW h.2
def ano{s:aA}(h:I9 s=true):afb s:=by have h':=h;unfold I9 SV at h;rw[xw,xw,xw,xw,decide_eq_true_eq] at h;refine avl (λe=> ?_) (aGF h') (arW h.1.1);rw[e] at h;simp at h
def atN{p:UInt8->Bool}(hp:∀c:UInt8,c≠10->c≠32->p c=true){s:aA}(h:afb s):xA p false s=true:=by obtain⟨c,h1,h2,h3⟩:=h;unfold xA;rw[h1];exact hp c h2 h3
def avm{k op:Int}{t o:aA}{kids:au}(h:M.aH k op t o kids=some true)(hk:(1<=k/\k<=4)\/k=13)(ht:t.length<=1048576):afb t:=by
 have h:=(arV h ak).2;have hn:=(Yh t ht).1;have h3:=(WH 3 t 0 ht (by unfold I64;omega)).1;have h4:=(WH 4 t 0 ht (by unfold I64;omega)).1;have h5:=(WH 5 t 0 ht (by unfold I64;omega)).1;have hk:(k=1\/k=13)\/k=2\/k=3\/k=4:=ak;rcases hk with hk|rfl|rfl|rfl
 ·rcases hk with rfl|rfl<;>exact ano (anm hn h)
 ·have h':=anm h3 h;unfold Rz at h';cases hs:t==[] with
  |true=>rw[hs] at h';cases h'
  |false=>rw[hs] at h';have h2:(XG t 0==(t.length:Int))=true:=h';have h2:=beq_iff_eq.1 h2;exact avl (λe=>by rw[e] at hs;cases hs) (aLf ht h2) (aGH ht h2)
 ·have h':=anm h4 h;unfold Rz at h';cases hs:t==[] with
  |true=>rw[hs] at h';cases h'
  |false=>rw[hs] at h';have h2:(quoted t 0 34==(t.length:Int))=true:=h';exact agd ak (beq_iff_eq.1 h2)
 ·have h':=anm h5 h;unfold Rz at h';cases hs:t==[] with
  |true=>rw[hs] at h';cases h'
  |false=>
   rw[hs] at h';have h2:(acJ t 0==(t.length:Int))=true:=h';have h2:=beq_iff_eq.1 h2;unfold acJ at h2;cases hq:quoted t 0 47==0+2 with
   |true=>rw[hq,aK] at h2;omega
   |false=>rw[hq,bg] at h2;exact agd ak h2
def arX{k op:Int}{t o:aA}{kids:au}(h:M.aH k op t o kids=some true)(hk:20<=k/\k<=34):M.cu k op t o kids=some true:=by
 have e0:(decide (k>=1) && decide (k<=16))=false:=by rw[Bool.and_eq_false_iff,decide_eq_false_iff_not,decide_eq_false_iff_not];omega
 have e1:(decide (k>=20) && decide (k<=34))=true:=by rw[xw,decide_eq_true_eq,decide_eq_true_eq];exact hk
 simp only[M.aH,M.aY,gu,e0,e1,ah,aK,bg] at h;cases hm:M.dD k op t o kids with
 |none=>rw[hm] at h;cases h
 |some r=>
  rw[hm,ah] at h;cases ho:M.eX k op t o kids with
  |none=>rw[ho] at h;cases h
  |some b=>
   rw[ho,ah] at h;cases b with
   |false=>cases h
   |true=>
    rw[aK] at h;cases hx:M.cu k op t o kids with
    |none=>rw[hx] at h;cases h
    |some c=>
     rw[hx,ah] at h;cases c with
     |false=>cases h
     |true=>rfl
def aGJ{op:Int}{t o:aA}{kids:au}(h:M.aH 27 op t o kids=some true)(ht:t.length<=1048576):afb t:=by have h:=arX h ak;have hn:=(Yh t ht).1;exact ano (anm hn h)
def aGK{op:Int}{t o:aA}{kids:au}(h:M.aH 34 op t o kids=some true)(ht:t.length<=1048576):t≠[]/\hasB 10 t=false:=by
 have h:=arX h ak;have h2:=(WH 2 t 0 ht (by unfold I64;omega)).1;have h':=anm h2 h;unfold Rz at h';cases hs:t==[] with
 |true=>rw[hs] at h';cases h'
 |false=>rw[hs] at h';have h3:((JQ t 0==35) && !(hasB 10 t))=true:=h';rw[xw] at h3;exact⟨λe=>(by rw[e] at hs;cases hs),by simpa using h3.2⟩
def p0(c:UInt8):Bool:=c !=10
def p1(c:UInt8):Bool:=c !=10 && c !=32
def aBR:∀g,g∈Zt->xA p1 true g=true:=by decide+kernel
def aBS:∀g,g∈XH->xA p1 true g=true:=by decide+kernel
def arY(l:List (aA))(h:∀g,g∈l->xA p1 true g=true)(i:Nat):xA p1 true (l[i]?.getD [])=true:=by
 cases hx:l[i]? with
 |none=>rfl
 |some g=>exact h g (AU hx)
def anp{op:Int}(hk:op≠1):xA p1 true (spell op)=true:=by
 unfold spell;rw[if_neg hk];split
 ·exact arY _ aBR _
 ·split
  ·exact arY _ aBS _
  ·rfl
def aYp{c:UInt8}(h:p1 c=true):p0 c=true:=by unfold p1 at h;rw[xw] at h;exact h.1
def awW{f:Bool}{s:aA}(h:xA p1 f s=true):xA p0 f s=true:=by
 unfold xA at h|-;cases hs:s.getLast? with
 |none=>rw[hs] at h;exact h
 |some c=>rw[hs] at h;exact aYp h
def good1:ane p1:=⟨λc h1 h2=>by simp[p1,h1,h2],λop h=>anp h⟩
def aIO:ane p0:=⟨λc h1 h2=>by simp[p0,h1],λop h=>awW (anp h)⟩
def aYq{s:aA}(h0:s≠[])(h1:hasB 10 s=false):xA p0 false s=true:=by
 unfold xA;cases hs:s.getLast? with
 |none=>rw[List.getLast?_eq_none_iff] at hs;exact absurd hs h0
 |some c=>have hm:=List.mem_of_getLast? hs;unfold hasB at h1;rw[List.any_eq_false] at h1;have:=h1 c hm;simp only[p0,bne_iff_ne,ne_eq];intro e;exact this (by simp[e])
def avn{p:UInt8->Bool}(hp:∀c:UInt8,c≠10->c≠32->p c=true){l:List Nd}(hall:XI (np l) l 0=true)(hsm:∀n,n∈l->Small n)(hkl:∀n,n∈l->n.kids.length<=400)
  (h34:∀n,n∈l->n.kind=34->(n.text≠[]/\hasB 10 n.text=false->xA p false n.text=true)) (t:Tn):∀b,Lies l b t->gl p t:=by
 refine Tn.ind (P:=λt=>∀b,Lies l b t->gl p t) ?_ t;intro k op x y ks ih b h;have hr:=h.root;have hm:=AU hr;have hn:=adS hall hr;unfold np at hn;rw[xw] at hn;have hf:=(ajC (hsm _ hm) (hkl _ hm)).1;rw[hn.1] at hf;rw[gl];refine⟨λhk=> ?_,λhk=>aYo hf (by simp only;omega),VB.2 λu hu=> ?_⟩
 ·rcases hk with hk|hk|hk|hk
  ·exact atN hp (avm hf (.inl hk) (hsm _ hm).1)
  ·exact atN hp (avm hf (.inr hk) (hsm _ hm).1)
  ·subst hk;exact atN hp (aGJ hf (hsm _ hm).1)
  ·subst hk;exact h34 _ hm rfl (aGK hf (hsm _ hm).1)
 ·obtain⟨i,hi,hx⟩:=List.mem_iff_getElem.1 hu;exact ih u hu _ (Lies.RG h (PN.2 ⟨hi,hx⟩))
def arZ{t:Tn}(h:PE (t.flat 0)=true)(hsm:∀n,n∈t.flat 0->Small n):gl p0 t:=by unfold PE at h;rw[xw,xw] at h;obtain⟨r,hv⟩:=aeT h.1;exact avn aIO.any h.2.2 hsm hv.aar (λn _ _ hn=>aYq hn.1 hn.2) t 0 (Lies.whole t)
def ar0{t:Tn}(h:PE (t.flat 0)=true)(hsm:∀n,n∈t.flat 0->Small n)(h34:∀n,n∈t.flat 0->n.kind≠34):gl p1 t:=by unfold PE at h;rw[xw,xw] at h;obtain⟨r,hv⟩:=aeT h.1;exact avn good1.any h.2.2 hsm hv.aar (λn hn hk=>absurd hk (h34 n hn)) t 0 (Lies.whole t)
def afd{p:UInt8->Bool}(h10:p 10=false):∀(s:aA) (f:Bool) (cur:aA),XL p f s=true->(f=true->xA p false cur=true)->∀x,x∈(UK cur (jV s)).dropLast->xA p false x=true
 |[],f,cur,h1,h2,x,hx=>by simp[jV,UK] at hx
 |c::l,f,cur,h1,h2,x,hx=>by
  rw[XL,xw] at h1;rw[jV] at hx
  by_cases hc:c=10
  ·subst hc;rw[if_pos rfl] at hx;have hf:f=true:=by simpa using h1.1
   have hrest:=afd h10 l (p 10) [] h1.2 (λh=>by rw[h10] at h;cases h);rw[ae9 (KY l)] at hrest;simp only[UK,List.append_nil] at hx;rw[List.dropLast_cons_of_ne_nil (KY l)] at hx;rcases List.mem_cons.1 hx with rfl|hx
   ·exact h2 hf
   ·exact hrest x hx
  ·rw[if_neg hc,ana] at hx;exact afd h10 l (p c) (cur++[c]) h1.2 (λh=>by rw[akD];exact h) x hx
def aaO:∀s:aA,(jV s).length=s.count 10+1
 |[]=>rfl
 |c::l=>by
  have ih:=aaO l;rw[jV]
  by_cases hc:c=10
  ·subst hc;rw[if_pos rfl,mQ,ih,List.count_cons_self]
  ·rw[if_neg hc,List.count_cons_of_ne hc,<-ih];cases h:jV l with
   |nil=>exact absurd h (KY l)
   |cons a t=>rfl
def akJ:∀o:aA,∃l,jV (o++[10])=l++[[]]
 |[]=>⟨[[]],rfl⟩
 |c::o=>by
  obtain⟨l,hl⟩:=akJ o;rw[VE,jV,hl]
  by_cases hc:c=10
  ·rw[if_pos hc];exact⟨[]::l,rfl⟩
  ·rw[if_neg hc];cases l with
   |nil=>exfalso;have:=aaO (o++[10]);rw[hl,List.count_append] at this;simp at this
   |cons a t=>exact⟨([c]++a)::t,rfl⟩
def aoK{l:List Nd}(h:Ok l):(M.qO (aZ false l)=some (dG true [])/\M.qL (aZ false l)=some (dG true []))\/∃T,l=T.flat 0/\PE (T.flat 0)=true/\Pr T/\M.qO (aZ false l)=some (dE (xu T))/\M.qL (aZ false l)=some (dE (xu T)):=by
 have a1:=ajE l false (by have:=h.len;omega) h.k h.sm;have a2:=ajF l false (by have:=h.len;omega) h.k h.sm;simp only[M.qO,M.JF,M.qL,M.Js,M.zS,M.MB,M.zM,M.LJ,a1,a2,ah];cases pa:PE l with
 |false=>exact .inl ⟨rfl,rfl⟩
 |true=>
  obtain⟨T,rfl,hTs⟩:=asR (aos pa);have hT:T.size<=1048576:=by have:=h.len;rwa [T.flat_length] at this
  have hok:=aty pa h.sm;have hsm:=(au5 T 0).2 h.sm;have hr:=U5 (o:=false) (Lies.whole T);have hen:((aZ false (T.flat 0)).length:Int)=((T.flat 0).length:Int):=by rw[fO]
  have hb:=awM (t:=T) (o:=false) hT;simp only[aK,hen,last_at hT,hr,ah,Nw]
  by_cases hk:T.kind=45
  ·have hP:Pr T:=⟨hok,hk,hsm,hT⟩
   have e1:(T.kind==45)=true:=by rw[hk];rfl
   have hs:=akk hP;have h1:=aK1 hP;have h2:=aK2 hP;have h3:=aBu (xu T) ak;have hz:sizes (tY T.kids)<=90000000:=by rw[xu,ql] at hs;omega
   refine .inr ⟨T,rfl,pa,hP, ?_, ?_⟩
   ·simp only[e1,zaN,bg,h2,ah,Um,uS _ hz,oh,aK];rfl
   ·simp only[e1,zaN,bg,hb,aiK,gY,h1,ah,arp,MZ,Nh,Nj,Nl,Np,Nq];exact(by rw[h3];rfl:(M.vS (xu T).kind (xu T).op (xu T).text (oG false (xu T).kids) 0).bind (λr=>some r)=some (dE (xu T)))
  ·have e1:(T.kind==45)=false:=by rw[II];exact hk
   simp only[e1];exact .inl ⟨rfl,rfl⟩
def aGL{l:List Nd}(h:Ok l)(w:Int):(M.zV (aZ false l) w=some ([],false)/\M.zQ (aZ false l) w=some ([],false))\/
  ∃T,l=T.flat 0/\PE (T.flat 0)=true/\Pr T/\dOk (xu T)=true/\(xK T w).length<=3000/\M.zV (aZ false l) w=some (xK T w,true)/\M.zQ (aZ false l) w=some (xK T w,true):=by
 rcases aoK h with⟨h1,h2⟩|⟨T,rfl,pa,hP,h1,h2⟩
 ·refine .inl ⟨?_, ?_⟩
  ·simp only[M.zV,M.Ru,ah,h1,adT,M.wo,M.KI,show dG false ([]:List Nd)=[] from rfl,ag3];rfl
  ·simp only[M.zQ,M.QL,ah,h2,adT,M.qB,M.Fv,show dG false ([]:List Nd)=[] from rfl,ag2];rfl
 ·have hz:=akk hP;have aYr:WY (xu T):=by rw[xu,yT];exact ake hP.its
  have r1:=akx (o:=false) w (t:=xu T) ak (aj2 (xu T) 0 aYr);have r2:=aks (o:=false) w (t:=xu T) ak (aj2 (xu T) 0 aYr);have q1:M.zV (aZ false (T.flat 0)) w=M.wo (dG false ((xu T).flat 0)) w:=by simp only[M.zV,M.Ru,ah,h1,adT,dE];cases M.wo (dG false ((xu T).flat 0)) w<;>rfl
  have q2:M.zQ (aZ false (T.flat 0)) w=M.qB (dG false ((xu T).flat 0)) w:=by simp only[M.zQ,M.QL,ah,h2,adT,dE];cases M.qB (dG false ((xu T).flat 0)) w<;>rfl
  rw[q1,q2];simp only[M.wo,M.KI,M.qB,M.Fv,r1,r2,ah,rnR];cases hr:render (xu T) w with
  |none=>exact .inl ⟨rfl,rfl⟩
  |some s=>
   have hs:s=xK T w/\dOk (xu T)=true:=by
    unfold render at hr;cases hb:(Nat.ble (xu T).size 4000 &&(dOk (xu T))) &&(decide (0<=w) && decide (w<=10000)) with
    |false=>rw[hb] at hr;cases hr
    |true=>rw[hb] at hr;rw[xw,xw] at hb;exact⟨(Option.some.inj hr).symm,hb.1.2⟩
   obtain⟨rfl,hd⟩:=hs;simp only[flR]
   by_cases hl:((xK T w).length:Int)>3000
   ·have e:decide (((xK T w).length:Int)>3000)=true:=zdt hl;refine .inl ⟨?_, ?_⟩<;>
    ·show(bif decide (((xK T w).length:Int)>3000) then some (([]:aA),false) else some (xK T w,true))=some ([],false);rw[e];rfl
   ·have e:decide (((xK T w).length:Int)>3000)=false:=rH hl;refine .inr ⟨T,rfl,pa,hP,hd,ak, ?_, ?_⟩<;>
    ·show(bif decide (((xK T w).length:Int)>3000) then some (([]:aA),false) else some (xK T w,true))=some (xK T w,true);rw[e];rfl
def ar1{T:Tn}(hP:Pr T)(hd:dOk (xu T)=true)(h:T.kids≠[]){p:UInt8->Bool}(hp:ane p)(h10:p 10=false)(hg:gl p T)(w:Int):
  (∀x,x∈RV (xK T w)->xA p false x=true)/\T.kids.length<=(RV (xK T w)).length:=by
 obtain⟨o,ho⟩:=anj h w;obtain⟨l,hl⟩:=akJ o;have e:RV (xK T w)=(jV (xK T w)).dropLast:=by unfold RV;rw[if_pos];rw[ho,hl];simp
 rw[e];constructor
 ·intro x hx;have:=afd h10 (xK T w) false [] (aGC hp hP.ok hP.k hg hd w) (λh=>by cases h) x;rw[ae9 (KY _)] at this;exact this hx
 ·have h1:=atM T w;have h2:=aaO (xK T w);rw[List.length_dropLast];omega
def aBT(l:List Nd)(o:Bool)(d:Int)(hl:l.length<=1048576)(hk:∀n,n∈l->n.kids.length<=1048576/\∀e,e∈n.kids-> -4000000000<=e+d/\e+d<=4000000000):
  M.yH (aZ o l) d=some (aZ true (l.map (Nd.up d))):=by
 simp only[M.yH,M.Ql];have hloop:=ji (b:=M.Jg (aZ o l) d) (t:=((l.length:Int),aZ true (l.map (Nd.up d)))) (λi=>((i:Int),aZ true ((l.take i).map (Nd.up d)))) l.length
  (by
   intro i hi;obtain⟨n,hn⟩:∃n,l[i]? =some n:=⟨l[i],by simp[hi]⟩
   obtain⟨hkl,hke⟩:=hk n (AU hn);have hin:=ji (b:=M.Jf (aZ o l) d (i:Int) (aZ true ((l.take i).map (Nd.up d))) n.kind n.op n.text n.other) (t:=((n.kids.length:Int),encI (n.kids.map (· +d)))) (λj=>((j:Int),encI ((n.kids.take j).map (· +d)))) n.kids.length
    (by
     intro j hj;obtain⟨e,he⟩:∃e,n.kids[j]? =some e:=⟨n.kids[j],by simp[hj]⟩
     have:=hke e (AU he);simp only[jU,M.Jf,M.Cb,bC,kZ,hn,Oa,ah,JM,bf,nI,he,NV,zaP,VF,JU];rw[zdt ak,aK,aS ak,aK,aS ak,aK,aB ak ak,aB ak ak,fV he];simp[encI])
    (by simp only[jU,M.Jf,M.Cb,bC,kZ,hn,Oa,ah,JM,bf];rw[rH ak,bg,List.take_length]) 0 (Nat.zero_le _)
   simp only[pU,List.take_zero,List.map_nil] at hin;have hin':M.Oe (aZ o l) d (i:Int) (aZ true ((l.take i).map (Nd.up d))) n.kind n.op n.text n.other (0,[])=some ((n.kids.length:Int),encI (n.kids.map (· +d))):=hin;simp only[jU,M.Jg,M.Cc,fO,bC,kZ,hn,Oa,ah,Nw,PU,Pz,PV,JM,hin',zB,aK,zaP,VF,JU];rw[zdt ak,aK,aS ak,aK,aS ak,aK,aB ak ak,fV hn,List.map_append,VA];rfl)
  (by simp only[jU,M.Jg,M.Cc,fO];rw[rH ak,bg,List.take_length]) 0 (Nat.zero_le _)
 simp only[pU,List.take_zero,List.map_nil] at hloop;have xY:M.Og (aZ o l) d (0,[])=some ((l.length:Int),aZ true (l.map (Nd.up d))):=hloop;rw[xY,ah]
def parts(ts:List Tn):au:=ts.map λt=>[.sl false 5 (aZ false (t.flat 0))]
def avo(k op:Int)(x y:aA)(kr:au)(ts:List Tn)(hs:sizes ts<=900000):M.bG k op x y kr (parts ts)=some (aZ true ((Tn.mk k op x y ts).flat 0)):=by
 have htl:=jr ts;simp only[jU,M.bG,M.TB];have hpl:(parts ts).length=ts.length:=by simp[parts]
 have hloop:=ji (b:=M.Ll (parts ts) k op x y) (t:=((ts.length:Int),aZ true (jE ts 0),encI (ends ts 0))) (λj=>((j:Int),aZ true (jE (ts.take j) 0),encI (ends (ts.take j) 0))) ts.length
  (by
   intro j hj;obtain⟨t,ht⟩:∃t,ts[j]? =some t:=⟨ts[j],by simp[hj]⟩
   have hst:=KL ht;have hp:=t.size_pos;have hr:(parts ts)[j]? =some [.sl false 5 (aZ false (t.flat 0))]:=by simp[parts,ht]
   have c0:NP 5 [D.sl false 5 (aZ false (t.flat 0))] 0=some (aZ false (t.flat 0)):=rfl;have hfl:(aZ true (jE (ts.take j) 0)).length=sizes (ts.take j):=by rw[fO,oq]
   have hsh:M.yH (aZ false (t.flat 0)) ((sizes (ts.take j):Nat):Int)=some (aZ true (t.flat (sizes (ts.take j)))):=by
    rw[aBT (t.flat 0) false _ (by rw[t.flat_length];omega) (λn hn=> ?_)]
    ·rw[t.an2 0 (sizes (ts.take j))];congr 4<;>omega
    ·obtain⟨h1,h2⟩:=Yk t 0 n hn;refine⟨ak,λe he=> ?_⟩;have:=h2 e he;omega
   have hrl:(aZ true (t.flat (sizes (ts.take j)))).length=t.size:=by rw[fO,t.flat_length]
   have hel:(encI (ends (ts.take j) 0)).length=j:=by rw[bf,eH,VF];omega
   simp only[jU,M.Ll,M.ET,hpl,bC,hr,ah,c0,hfl,hsh,hrl,hel,rJ,JU];rw[zdt ak,aK,aS ak,aK,aS ak,aK,aS ak,aK,aS ak,aK,aB ak ak,aB ak ak,acL ht,aeV ht,VA,Nat.zero_add];simp[encI])
  (by simp only[jU,M.Ll,M.ET,hpl];rw[rH ak,bg,List.take_length]) 0 (Nat.zero_le _)
 have e0:aZ true (jE (ts.take 0) 0)=[]:=rfl;have e1:encI (ends (ts.take 0) 0)=[]:=rfl;rw[pU,e0,e1] at hloop;have xY:M.Qm (parts ts) k op x y (0,[],[])=some ((ts.length:Int),aZ true (jE ts 0),encI (ends ts 0)):=hloop;rw[xY,ah];simp only[zB,aK,fO,oq,JU];rw[aS ak,aK,aS ak,aK,Tn.flat,VA];rfl
def aBU(o w:Bool)(ts:List Tn):aG (ts.map λt=>[D.sl w 5 (aZ o (t.flat 0))])=parts ts:=by rw[YX,List.map_map];unfold parts;congr 1;funext t;simp[qo,D.fz,X8]
def cR(s:Cu):au:=s.code.map byteRow
structure aaP(s:Cu):Prop where
 i:s.i<=s.code.length
 l:s.code.length<=1048576
def aaP.st{s:Cu}(h:aaP s)(p:Nat):aaP (s.st p):=⟨by rw[Cu.ax6 s h.i,Cu.Oc];omega,by rw[Cu.Oc];exact h.l⟩
def awX(x:Int):i64.wrap (↑(BitVec.ofInt 64 x &&& BitVec.ofInt 64 255).toNat:Int)=(adq x:Int):=by have:=auq x;show i64.wrap (adq x:Int)=_;exact aB ak ak
def aGM{s:Cu}(h:aaP s):M.pX (cR s) s.i s.h=some ((s.byte:Int),cR s.nx,(s.nx.i:Int),s.nx.h):=by
 have hi:=h.i;have hl:=h.l;simp only[M.pX,M.Tq,awX];have e1:(cR s).length=s.code.length:=by simp[cR]
 have e2:cR s.nx=cR s:=rfl;have e3:s.nx.h=i64.wrap (i64.wrap (s.h * 6364136223846793005)+1442695040888963407):=rfl;rw[e1,e2,e3]
 by_cases hlt:s.i<s.code.length
 ·obtain⟨b,hb⟩:∃b,s.code[s.i]? =some b:=⟨s.code[s.i],by simp[hlt]⟩
  have hr:idx (cR s) (s.i:Int)=some (byteRow b):=by rw[bC,cR,List.getElem?_map,hb];rfl
  have hc:bM .u8 (byteRow b) 0=some (b.toNat:Int):=rfl;have hn:(s.nx.i:Int)=(s.i:Int)+1:=by show((if s.i<s.code.length then s.i+1 else s.i:Nat):Int)=_;rw[if_pos hlt];omega
  have hby:s.byte=adq (i64.wrap ((adq (apz (nxH s.h)):Int)+b.toNat)):=by rw[Cu.byte,hb]
  have hb8:(b.toNat:Int)<=255:=by have:=b.toNat_lt;omega
  rw[zdt ak,aK,hr,ah,hc,ah,aB (n:=(b.toNat:Int)) ak ak,aB (n:=(s.i:Int)+1) ak ak,hn,hby];rfl
 ·have hb:s.code[s.i]? =none:=List.getElem?_eq_none ak;have hn:(s.nx.i:Int)=(s.i:Int):=by show((if s.i<s.code.length then s.i+1 else s.i:Nat):Int)=_;rw[if_neg hlt]
  have hby:s.byte=adq (apz (nxH s.h)):=by rw[Cu.byte,hb]
  rw[rH ak,bg,hn,hby];rfl
def cS(s:Cu)(p:Nat):au×Int×Int:=(cR (s.st p),((s.st p).i:Int),(s.st p).h)
section
variable {s:Cu} (h:aaP s)
include h
theorem byte_at(p:Nat):M.pX (cS s p).1 (cS s p).2.1 (cS s p).2.2=some ((s.g p:Int),cS s (p+1)):=by show M.pX (cR (s.st p)) ((s.st p).i:Int) (s.st p).h=_;rw[aGM (h.st p)];show _=some (((s.st p).byte:Int),(cR (s.st (p+1)),((s.st (p+1)).i:Int),(s.st (p+1)).h));rw[Cu.st_succ]
theorem oH(p n:Nat)(h1:1<=n)(h2:n<=256):M.aV (n:Int) (cS s p).1 (cS s p).2.1 (cS s p).2.2=some (((s.g p % n:Nat):Int),cS s (p+1)):=by simp only[M.aV,M.ES,byte_at h,ah];rw[rH ak,bg,zdt ak,aK,rH ak];simp only[Bool.not_false,aK];rw[Int.tmod_eq_emod_of_nonneg ak,Int.natCast_emod]
theorem afe(p:Nat)(n:Int)(hn:n<=1000000000):∃(k:Int) (q:Nat),M.aV n (cS s p).1 (cS s p).2.1 (cS s p).2.2=some (k,cS s q)/\p<=q/\q<=p+4/\0<=k/\(k<n\/(n<=0/\k=0)):=by
 by_cases h0:n<=0
 ·refine⟨0,p, ?_,zaO _,ak,ak,.inr ⟨h0,rfl⟩⟩;simp only[M.aV,M.ES];rw[zdt h0,aK]
 ·by_cases h1:n<=256
  ·obtain⟨m,rfl⟩:=Int.eq_ofNat_of_zero_le (a:=n) ak;have h1':m<=256:=ak;have h0':1<=m:=ak;refine⟨_,_,oH h p m h0' h1',ak,ak,ak,.inl ?_⟩;have:=Nat.mod_lt (s.g p) (show 0<m by omega);exact Int.ofNat_lt.2 this
  ·refine⟨((((s.g p:Int) * 16777216+(s.g (p+1):Int) * 65536)+(s.g (p+2):Int) * 256)+(s.g (p+3):Int)) % n,p+4, ?_,ak,ak,Int.emod_nonneg _ ak,.inl (Int.emod_lt_of_pos _ ak)⟩;have hb:∀q,(s.g q:Int)<256:=λq=>by have:=(s.st q).aCy;exact Int.ofNat_lt.2 this
   have b0:=hb p;have b1:=hb (p+1);have b2:=hb (p+2);have b3:=hb (p+3);simp only[M.aV,M.ES,byte_at h,ah];rw[rH h0,bg,rH h1,bg,rH ak];simp only[Bool.not_false,aK];rw[show p+1+1=p+2 from rfl,show p+2+1=p+3 from rfl,show p+3+1=p+4 from rfl];rw[aB (n:=(s.g p:Int) * 16777216) ak ak,aB (n:=(s.g (p+1):Int) * 65536) ak ak,aB (n:=(s.g (p+2):Int) * 256) ak ak,
    aB (n:=(s.g p:Int) * 16777216+(s.g (p+1):Int) * 65536) ak ak,aB (n:=(s.g p:Int) * 16777216+(s.g (p+1):Int) * 65536+(s.g (p+2):Int) * 256) ak ak,
    aB (n:=(s.g p:Int) * 16777216+(s.g (p+1):Int) * 65536+(s.g (p+2):Int) * 256+(s.g (p+3):Int)) ak ak,Int.tmod_eq_emod_of_nonneg ak]
theorem Zb(p n:Nat)(h1:1<=n)(h2:n<=256):M.lQ (n:Int) (cS s p).1 (cS s p).2.1 (cS s p).2.2=some (s.g p % n==0,cS s (p+1)):=by
 simp only[M.lQ,M.Tv,oH h p n h1 h2,ah];congr 2;cases hc:s.g p % n==0 with
 |true=>simp only[beq_iff_eq] at hc;rw[hc];rfl
 |false=>simp only[II,ne_eq] at hc;exact II.2 ak
end
def RX(t:aA):Prop:=t.length<=100
def pkS(rows:au)(k:Nat):aA:=match rows[k % rows.length]? with
 |some [.str t]=>t
 |_=>[]
def pkI(rows:au)(k:Nat):Int:=match rows[k % rows.length]? with
 |some [.int .i64 n]=>n
 |_=>0
def Yu(f:Row->Bool)(rows:au):Bool:=rows.all f &&(Nat.ble 1 rows.length && Nat.ble rows.length 256)
def sB:Row->Bool
 |[.str t]=>Nat.ble t.length 100
 |_=>false
def iB:Row->Bool
 |[.int .i64 n]=>decide (-1000<=n) && decide (n<=1000)
 |_=>false
def aaQ{f:Row->Bool}{rows:au}(hr:Yu f rows=true)(k:Nat):∃r,rows[k % rows.length]? =some r/\f r=true/\1<=rows.length/\rows.length<=256:=by simp only[Yu,xw] at hr;have h1:=Nat.le_of_ble_eq_true hr.2.1;have h2:=Nat.le_of_ble_eq_true hr.2.2;have hm:=Nat.mod_lt k (show 0<rows.length by omega);exact⟨rows[k % rows.length],by simp[hm],List.all_eq_true.1 hr.1 _ (List.getElem_mem hm),h1,h2⟩
def F7{rows:au}(hr:Yu sB rows=true)(k:Nat):RX (pkS rows k):=by
 obtain⟨r,h1,h2,_⟩:=aaQ hr k;unfold pkS;rw[h1];unfold sB at h2;split at h2
 ·exact Nat.le_of_ble_eq_true h2
 ·cases h2
def MW{rows:au}(hr:Yu iB rows=true)(k:Nat): -1000<=pkI rows k/\pkI rows k<=1000:=by
 obtain⟨r,h1,h2,_⟩:=aaQ hr k;unfold pkI;rw[h1];unfold iB at h2;split at h2
 ·simpa using h2
 ·cases h2
section
variable {s:Cu} (h:aaP s)
include h
theorem RY(p:Nat)(rows:au)(hr:Yu sB rows=true):M.iR rows (cS s p).1 (cS s p).2.1 (cS s p).2.2=some (pkS rows (s.g p),cS s (p+1)):=by
 obtain⟨r,h1,h2,h3,h4⟩:=aaQ hr (s.g p);simp only[M.iR,M.Tt];rw[oH h p rows.length h3 h4,ah];simp only[bC,h1,ah,pkS];unfold sB at h2;split at h2
 ·rfl
 ·cases h2
theorem UM(p:Nat)(rows:au)(hr:Yu iB rows=true):M.fP rows (cS s p).1 (cS s p).2.1 (cS s p).2.2=some (pkI rows (s.g p),cS s (p+1)):=by
 obtain⟨r,h1,h2,h3,h4⟩:=aaQ hr (s.g p);simp only[M.fP,M.EU];rw[oH h p rows.length h3 h4,ah];simp only[bC,h1,ah,pkI];unfold iB at h2;split at h2
 ·rfl
 ·cases h2
theorem VD(p:Nat):∃t,RX t/\M.jR (cS s p).1 (cS s p).2.1 (cS s p).2.2=some (t,cS s (p+1)):=by refine⟨_, ?_,by simp only[M.jR,M.Tz];rw[RY h p _ rfl];rfl⟩;exact F7 rfl _
theorem aLg(p:Nat):∃t,RX t/\M.J6 (cS s p).1 (cS s p).2.1 (cS s p).2.2=some (t,cS s (p+1)):=by refine⟨_, ?_,by simp only[M.J6,M.Vo];rw[RY h p _ rfl];rfl⟩;exact F7 rfl _
theorem aLh(p:Nat):∃t,RX t/\M.J7 (cS s p).1 (cS s p).2.1 (cS s p).2.2=some (t,cS s (p+1)):=by refine⟨_, ?_,by simp only[M.J7,M.Vp];rw[RY h p _ rfl];rfl⟩;exact F7 rfl _
theorem aLi(p:Nat):∃t,RX t/\M.J8 (cS s p).1 (cS s p).2.1 (cS s p).2.2=some (t,cS s (p+1)):=by refine⟨_, ?_,by simp only[M.J8,M.Vq];rw[RY h p _ rfl];rfl⟩;exact F7 rfl _
theorem aBV(p:Nat):∃t:Int, -1000<=t/\t<=1000/\M.BK (cS s p).1 (cS s p).2.1 (cS s p).2.2=some (t,cS s (p+1)):=by
 refine⟨_, ?_, ?_,by simp only[M.BK,M.Qn];rw[UM h p _ rfl];rfl⟩
 ·exact(MW rfl _).1
 ·exact(MW rfl _).2
end
def aIP(n:Nd):Prop:=(-1000<=n.kind/\n.kind<=1000)/\(-1000<=n.op/\n.op<=1000)/\RX n.text/\RX n.other
def P5(t:Tn):Prop:=∀b n,n∈t.flat b->aIP n
def anq:∀{ts:List Tn} {b:Nat} {n:Nd},n∈jE ts b->∃t,t∈ts/\∃b',n∈t.flat b'
 |[],b,n,h=>by simp[jE] at h
 |t::ts,b,n,h=>by
  rw[jE,List.mem_append] at h;rcases h with h|h
  ·exact⟨t,by simp,b,h⟩
  ·obtain⟨u,h1,h2⟩:=anq h;exact⟨u,by simp[h1],h2⟩
def ahF{k op:Int}{x y:aA}{ts:List Tn}(hk: -1000<=k/\k<=1000)(ho: -1000<=op/\op<=1000)(hx:RX x)(hy:RX y)(h:∀t,t∈ts->P5 t):P5 (.mk k op x y ts):=by
 intro b n hn;rw[Tn.flat,List.mem_append] at hn;rcases hn with hn|hn
 ·obtain⟨t,h1,b',h2⟩:=anq hn;exact h t h1 b' n h2
 ·rw[List.mem_singleton.1 hn];exact⟨hk,ho,hx,hy⟩
def bQ:RX []:=by simp[RX]
abbrev DF:=Nat->Nat×Nat
def up(r:Nat×Nat):Nat×Nat:=(r.1+1,r.2)
def uU(a b:DF):DF:=λp=>((a p).1+(b (a p).2).1,(b (a p).2).2)
def itS(e:DF):Nat->DF
 |0,p=>(0,p)
 |n+1,p=>((e p).1+(itS e n (e p).2).1,(itS e n (e p).2).2)
def ar2(g:Nat->Nat)(p:Nat):Nat:=bif Nat.beq (g p % 7) 2 then p+3 else p+2
def agf(g:Nat->Nat):DF:=λp=>(1,ar2 g p)
def lvS(g:Nat->Nat)(e1 e2:DF):DF:=λp=>match g p % 4 with
 |0=>up (e1 (p+2))
 |1=>up (e2 (p+1))
 |_=>(1,p+2)
def Ns(g:Nat->Nat)(e:DF)(least w:Nat):DF:=λp=>itS e (least+g p % w) (p+1)
def UN(g:Nat->Nat)(e0 e1 e2:DF):DF:=λp=>match g (p+1) % 16 with
 |0=>agf g (p+2)
 |1=>lvS g e0 e1 (p+2)
 |2=>up (e0 (p+2))
 |3=>up (Ns g e0 0 4 (p+3))
 |4=>up (Ns g e1 0 4 (p+3))
 |5=>up (lvS g e1 e2 (p+2))
 |6=>up (lvS g e1 e2 (p+2))
 |7=>up (e0 (p+3))
 |8=>up (e0 (p+3))
 |9=>up (Ns g e0 1 2 (p+3))
 |10=>up (itS e0 3 (p+2))
 |11=>up (uU (lvS g e1 e2) e0 (p+3))
 |_=>up (itS e0 2 (p+3))
def aoL{g:Nat->Nat}{e0 e1 e2:DF}{p:Nat}(h:12<=g (p+1) % 16):UN g e0 e1 e2 p=up (itS e0 2 (p+3)):=by unfold UN;split<;>first|omega|rfl
def XM(g:Nat->Nat):Nat->DF×DF×DF
 |0=>(agf g,agf g,agf g)
 |d+1=>(UN g (XM g d).1 (XM g d).2.1 (XM g d).2.2,(XM g d).1,(XM g d).2.1)
def iD(g:Nat->Nat)(d:Nat):DF:=(XM g d).1
def aBW(g:Nat->Nat):∀d,XM g d=(iD g d,iD g (d - 1),iD g (d - 2))
 |0=>rfl
 |1=>rfl
 |d+2=>rfl
def akK(g:Nat->Nat)(d:Nat):iD g (d+1)=UN g (iD g d) (iD g (d - 1)) (iD g (d - 2)):=by show UN g (XM g d).1 (XM g d).2.1 (XM g d).2.2=_;rw[aBW]
def atO(g:Nat->Nat):iD g 0=agf g:=rfl
def Bd(b:Nat)(e:DF):Prop:=∀p,1<=(e p).1/\p+(e p).1<=(e p).2/\(e p).2<=p+b
def Bd.mono{b b':Nat}{e:DF}(h:Bd b e)(hb:b<=b'):Bd b' e:=λp=>by have:=h p;omega
def aaR{b:Nat}{e:DF}(h:Bd b e):∀n p,n<=(itS e n p).1/\p+(itS e n p).1<=(itS e n p).2/\(itS e n p).2<=p+n * b
 |0,p=>by simp[itS]
 |n+1,p=>by have h1:=h p;have h2:=aaR h n (e p).2;rw[itS,Nat.add_mul];simp only;omega
def avp(g:Nat->Nat):Bd 3 (agf g):=λp=>by show 1<=1/\p+1<=ar2 g p/\ar2 g p<=p+3;unfold ar2;cases Nat.beq (g p % 7) 2<;>simp
def aBX{g:Nat->Nat}{b:Nat}{e1 e2:DF}(h1:Bd b e1)(h2:Bd b e2):Bd (b+2) (lvS g e1 e2):=λp=>by unfold lvS up;have a:=h1 (p+2);have c:=h2 (p+1);split<;>first|omega|(simp only;omega)
def Zc{g:Nat->Nat}{b:Nat}{e:DF}(h:Bd b e)(least w:Nat)(hw:1<=w)(p:Nat):p+1+(Ns g e least w p).1<=(Ns g e least w p).2/\(Ns g e least w p).2<=p+1+(least+w - 1) * b:=by unfold Ns;have:=aaR h (least+g p % w) (p+1);have hm:=Nat.mod_lt (g p) (show 0<w by omega);have h2:(least+g p % w) * b<=(least+w - 1) * b:=Nat.mul_le_mul_right b ak;omega
def aGN{g:Nat->Nat}{b:Nat}{e0 e1 e2:DF}(hb:3<=b)(h0:Bd b e0)(h1:Bd b e1)(h2:Bd b e2):Bd (3 * b+4) (UN g e0 e1 e2):=λp=>by unfold UN up uU;have a2:=h0 (p+2);have a3:=h0 (p+3);have l0:=avp g (p+2);have v0:=aBX (g:=g) h0 h1 (p+2);have v2:=aBX (g:=g) h1 h2 (p+2);have v3:=aBX (g:=g) h1 h2 (p+3);have b3:=h0 (lvS g e1 e2 (p+3)).2;have i3:=aaR h0 3 (p+2);have i2:=aaR h0 2 (p+3);have s0:=Zc (g:=g) h0 0 4 ak (p+3);have s1:=Zc (g:=g) h1 0 4 ak (p+3);have s9:=Zc (g:=g) h0 1 2 ak (p+3);split<;>first|omega|(simp only;omega)
def bE:Nat->Nat
 |0=>3
 |d+1=>3 * bE d+4
def aIQ:∀d,3<=bE d
 |0=>zaO _
 |d+1=>by have:=aIQ d;rw[bE];omega
def aoM:∀d,bE (d - 1)<=bE d/\bE (d - 2)<=bE d
 |0=>⟨zaO _,zaO _⟩
 |1=>by decide
 |d+2=>by have h1:d+2 - 1=d+1:=rfl;have h2:d+2 - 2=d:=rfl;rw[h1,h2,show bE (d+2)=3 * bE (d+1)+4 from rfl,show bE (d+1)=3 * bE d+4 from rfl];omega
def oI(g:Nat->Nat)(d:Nat):Bd (bE d) (iD g d):=by
 induction d using Nat.strongRecOn with
 |_ d ih=>
  cases d with
  |zero=>exact avp g
  |succ d=>rw[akK];have hm:=aoM d;exact aGN (aIQ d) (ih d ak) ((ih (d - 1) ak).mono hm.1) ((ih (d - 2) ak).mono hm.2)
abbrev DR:=Option zaK
def DTr(m:DR)(s:Cu)(r:Nat×Nat):Prop:=∃t:Tn,m=some (aZ true (t.flat 0),cS s r.2)/\t.size=r.1/\P5 t
def rowT(t:Tn):Row:=[D.sl true 5 (aZ true (t.flat 0))]
def DL(m:DR)(s:Cu)(r:Nat×Nat):Prop:=∃ts:List Tn,m=some (ts.map rowT,cS s r.2)/\sizes ts=r.1/\ts.length<=10/\∀t,t∈ts->P5 t
def avq(ts:List Tn):aG (ts.map rowT)=parts ts:=aBU true true ts
def bd{α:Type}{m:Option α}{x:α}{k:α->DR}{s:Cu}{r:Nat×Nat}(e:m=some x)(hk:DTr (k x) s r):DTr (m.bind k) s r:=by rw[e];exact hk
def made{s:Cu}{q:Nat}(k op:Int)(x y:aA)(ts:List Tn){z:Nat}(hz:sizes ts+1=z)(hs:z<=900000)(hk: -1000<=k/\k<=1000)(ho: -1000<=op/\op<=1000)(hx:RX x)(hy:RX y)(h:∀t,t∈ts->P5 t):
  DTr ((M.bG k op x y [] (aG (ts.map rowT))).bind λr=>bif[[D.sl true 5 r]].all bn then some (r,(cS s q).1,(cS s q).2.1,(cS s q).2.2) else none) s (z,q):=by
 refine⟨.mk k op x y ts, ?_, ?_,ahF hk ho hx hy h⟩
 ·rw[avq,avo k op x y [] ts ak,ah,ae0,aK]
 ·rw[Tn.size];exact hz
def F8{t:Tn}(h:P5 t):∀u,u∈[t]->P5 u:=λu hu=>by rw[List.mem_singleton.1 hu];exact h
def aaS{s:Cu}{q:Nat}(k:Int)(x:aA)(hk: -1000<=k/\k<=1000)(hx:RX x):DTr (some ([[D.int IntKind.i64 k,D.int IntKind.i64 0,D.str x,D.str [],D.sl true 1 []]],(cS s q).1,(cS s q).2.1,(cS s q).2.2)) s (1,q):=
 ⟨.mk k 0 x [] [],rfl,rfl,ahF hk ak hx bQ (by simp)⟩
def WR{s:Cu}{e:DF}{b:Int×au×Int×Int×au->Option ((Int×au×Int×Int×au)⊕zay)}
  (hz:∀p x,b (0,(cS s p).1,(cS s p).2.1,(cS s p).2.2,x)=some (.inr (0,(cS s p).1,(cS s p).2.1,(cS s p).2.2,x)))
  (hs:∀(n p:Nat) (ts:List Tn),n<=10->ts.length<=20->∃t,b (((n+1:Nat):Int),(cS s p).1,(cS s p).2.1,(cS s p).2.2,ts.map rowT)=some (.inl ((n:Int),(cS s (e p).2).1,(cS s (e p).2).2.1,(cS s (e p).2).2.2,(ts++[t]).map rowT))/\t.size=(e p).1/\P5 t):
  ∀(n p:Nat) (ts:List Tn),n+ts.length<=10->∃us:List Tn,dU b ((n:Int),(cS s p).1,(cS s p).2.1,(cS s p).2.2,ts.map rowT)=some (0,(cS s (itS e n p).2).1,(cS s (itS e n p).2).2.1,(cS s (itS e n p).2).2.2,(ts++us).map rowT)/\sizes us=(itS e n p).1/\us.length=n/\∀t,t∈us->P5 t
 |0,p,ts,_=>⟨[],by rw[pU,bP (hz p _),List.append_nil];rfl,rfl,rfl,by simp⟩
 |n+1,p,ts,hn=>by
  obtain⟨t,h1,h2,h3⟩:=hs n p ts ak ak;obtain⟨us,k1,k2,k3,k4⟩:=WR hz hs n (e p).2 (ts++[t]) (by simp;omega);refine⟨t::us, ?_, ?_,by simp[k3], ?_⟩
  ·rw[dN h1,k1,itS,JR];rfl
  ·rw[sizes,h2,k2,itS]
  ·intro u hu;rcases List.mem_cons.1 hu with rfl|hu
   ·exact h3
   ·exact k4 u hu
def VN(ts:List Tn)(t:Tn):(ts++[t]).map rowT=ts.map rowT++[[D.sl true 5 (aZ true (t.flat 0))]]:=by rw[List.map_append];rfl
section
variable {s:Cu} (h:aaP s)
include h
theorem avr(p:Nat):DTr (M.BJ (cS s p).1 (cS s p).2.1 (cS s p).2.2) s (agf s.g p):=by
 have hm:=Nat.mod_lt (s.g p) (show 0<7 by omega);simp only[M.BJ,M.TA,agf,ar2];rw[show((7:Int))=((7:Nat):Int) from rfl,oH h p 7 ak ak,ah];obtain⟨t1,a1,e1⟩:=aLg h (p+1);obtain⟨t2,a2,e2⟩:=aLh h (p+1);obtain⟨t3,a3,e3⟩:=aLi h (p+1+1);obtain⟨t4,a4,e4⟩:=VD h (p+1+1);obtain⟨t5,a5,e5⟩:=VD h (p+1);have hc:s.g p % 7=0\/s.g p % 7=1\/s.g p % 7=2\/3<=s.g p % 7:=ak;have e6:=Zb h (p+1) 2 ak ak;rw[show((2:Nat):Int)=2 from rfl] at e6;rcases hc with hc|hc|hc|hc
 ·rw[hc];simp only[e1,ah];exact aaS 2 t1 ak a1
 ·rw[hc];simp only[e2,ah];exact aaS 3 t2 ak a2
 ·rw[hc];simp only[e6,ah];cases hq:s.g (p+1) % 2==0 with
  |true=>simp only[hq,aK,e3,ah];exact aaS 4 t3 ak a3
  |false=>simp only[hq,bg,e4,ah];exact aaS 1 t4 ak a4
 ·have n0:(((s.g p % 7:Nat):Int)==0)=false:=II.2 ak;have n1:(((s.g p % 7:Nat):Int)==1)=false:=II.2 ak;have n2:(((s.g p % 7:Nat):Int)==2)=false:=II.2 ak;have n3:Nat.beq (s.g p % 7) 2=false:=uV ak;simp only[n0,n1,n2,n3,bg,e5,ah];exact aaS 1 t5 ak a5
end
def EX(s:Cu)(k d:Nat):Prop:=∀deep:Int, -8<=deep->deep<=5->deep.toNat=d->∀p,DTr (M.qC k deep (cS s p).1 (cS s p).2.1 (cS s p).2.2) s (iD s.g d p)
def XO{d:Nat}(h:d<=5):bE d<=1300:=by have:d=0\/d=1\/d=2\/d=3\/d=4\/d=5:=ak;rcases this with rfl|rfl|rfl|rfl|rfl|rfl<;>decide
section
variable {s:Cu} (h:aaP s)
include h
theorem aIR{k d:Nat}(hd:d<=5)(h1:EX s k (d - 1))(h2:EX s k (d - 2)){deep:Int}(l1: -6<=deep)(l2:deep<=5)(l3:deep.toNat=d)(p:Nat):
  DTr (M.Ij (k+1) deep (cS s p).1 (cS s p).2.1 (cS s p).2.2) s (lvS s.g (iD s.g (d - 1)) (iD s.g (d - 2)) p):=by
 have hm:=Nat.mod_lt (s.g p) (show 0<4 by omega);have b1:=oI s.g (d - 1) (p+2);have b2:=oI s.g (d - 2) (p+1);have c1:=XO (show d - 1<=5 by omega);have c2:=XO (show d - 2<=5 by omega);rw[M.agl];simp only[M.Bc,lvS];rw[show((4:Int))=((4:Nat):Int) from rfl,oH h p 4 ak ak,ah,aB (n:=deep - 1) ak ak,aB (n:=deep - 2) ak ak];obtain⟨t1,a1,e1⟩:=VD h (p+1);obtain⟨u1,f1,z1,i1⟩:=h1 (deep - 1) ak ak ak (p+2);obtain⟨u2,f2,z2,i2⟩:=h2 (deep - 2) ak ak ak (p+1);have hc:s.g p % 4=0\/s.g p % 4=1\/s.g p % 4=2\/s.g p % 4=3:=ak;rcases hc with hc|hc|hc|hc
 ·rw[hc];simp only[e1,f1,ah];exact made 5 0 t1 [] [u1] (by rw[sizes,sizes,z1]) ak ak ak a1 bQ (F8 i1)
 ·rw[hc];simp only[f2,ah];exact made 6 0 [] [] [u2] (by rw[sizes,sizes,z2]) ak ak ak bQ bQ (F8 i2)
 ·rw[hc];simp only[e1,ah];exact aaS 1 t1 ak a1
 ·rw[hc];simp only[e1,ah];exact aaS 1 t1 ak a1
theorem ahG{k:Nat}{deep:Int}{e:DF}{b:Nat}(hb:Bd b e)(hb2:b<=2000)(he:∀p,DTr (M.qC k deep (cS s p).1 (cS s p).2.1 (cS s p).2.2) s (e p))(least most:Nat)(hl:least<=most)(hm:most<=5)(p:Nat):
  DL (M.IV (k+1) least most deep (cS s p).1 (cS s p).2.1 (cS s p).2.2) s (Ns s.g e least (most - least+1) p):=by
 rw[M.ak5];simp only[M.IU];have hmod:=Nat.mod_lt (s.g p) (show 0<most - least+1 by omega);have e1:i64.wrap (i64.wrap ((most:Int) - least)+1)=((most - least+1:Nat):Int):=by rw[aB (n:=(most:Int) - least) ak ak,aB ak ak];omega
 rw[e1,oH h p (most - least+1) ak ak,ah];have e2:i64.wrap ((least:Int)+((s.g p %(most - least+1):Nat):Int))=((least+s.g p %(most - least+1):Nat):Int):=by rw[aB ak ak];omega
 simp only[e2];obtain⟨us,k1,k2,k3,k4⟩:=WR (s:=s) (e:=e) (b:=M.SI (M.qC k) deep) (λp x=>rfl) (λn p ts hn ht=>by obtain⟨t,f1,z1,i1⟩:=he p;refine⟨t, ?_,z1,i1⟩;simp only[jU,M.SI,M.Lm,f1,ah,zaP,JU];rw[zdt ak,aK,aS ak,aK,aS ak,aK,aB ak ak,VN];simp) (least+s.g p %(most - least+1)) (p+1) [] (by simp;omega);refine⟨us, ?_,k2,ak,k4⟩;have k1':M.Qo (M.qC k) deep (((least+s.g p %(most - least+1):Nat):Int),(cS s (p+1)).1,(cS s (p+1)).2.1,(cS s (p+1)).2.2,[])=_:=k1;rw[k1',ah];rfl
theorem awY{d j:Nat}(hd:d+1<=5)(H:∀i,j<=i->EX s i d/\EX s i (d - 1)/\EX s i (d - 2)):EX s (j+2) (d+1):=by
 intro deep l1 l2 l3 p;obtain⟨h0,hq1,hq2⟩:=H j (zaO _);obtain⟨h0',_,_⟩:=H (j+1) ak;have hm:=Nat.mod_lt (s.g (p+1)) (show 0<16 by omega);have hm2:=Nat.mod_lt (s.g p) (show 0<2 by omega);have c0:=XO (show d<=5 by omega);have c1:=XO (show d - 1<=5 by omega);have hB:=oI s.g (d+1) p;have hB2:=XO hd;have hB3:(iD s.g (d+1) p).1<=900000:=ak;rw[akK] at hB3|-;rw[M.abv];simp only[M.Ee,M.Kt];have w1:i64.wrap (deep - 1)=deep - 1:=aB ak ak;have w2:i64.wrap (deep - 2)=deep - 2:=aB ak ak;have e2:=oH h p 2 ak ak;have e16:=oH h (p+1) 16 ak ak;rw[show((2:Nat):Int)=2 from rfl] at e2;rw[show((16:Nat):Int)=16 from rfl] at e16;rw[rH ak,bg,e2,ah,e16,ah];simp only[w1,w2];have hdd:d+1 - 1=d:=rfl;have hd2:d+1 - 2=d - 1:=ak;have L0:=λq=>ahG h (oI s.g d) ak (h0 (deep - 1) ak ak ak) 0 3 ak ak q
 have L1:=λq=>ahG h (oI s.g (d - 1)) ak (hq1 (deep - 2) ak ak ak) 0 3 ak ak q
 have L2:=λq=>ahG h (oI s.g d) ak (h0 (deep - 1) ak ak ak) 1 2 ak ak q
 have X0:=h0' (deep - 1) ak ak ak;have V0:=aIR h (show d+1<=5 by omega) (k:=j) (by rw[hdd];exact h0) (by rw[hd2];exact hq1) (deep:=deep) ak ak l3;have V1:=aIR h (show d<=5 by omega) (k:=j) hq1 hq2 (deep:=deep - 1) ak ak ak;rw[hdd,hd2] at V0;rcases Nat.lt_or_ge (s.g (p+1) % 16) 12 with hlt|hbig
 ·unfold UN at hB3|-;have hc:s.g (p+1) % 16=0\/s.g (p+1) % 16=1\/s.g (p+1) % 16=2\/s.g (p+1) % 16=3\/s.g (p+1) % 16=4\/s.g (p+1) % 16=5\/s.g (p+1) % 16=6\/s.g (p+1) % 16=7\/s.g (p+1) % 16=8\/s.g (p+1) % 16=9\/s.g (p+1) % 16=10\/s.g (p+1) % 16=11:=ak;rcases hc with hc|hc|hc|hc|hc|hc|hc|hc|hc|hc|hc|hc<;>rw[hc] at hB3|-
  ·obtain⟨t,f,z,i⟩:=avr h (p+2);exact bd f ⟨t,rfl,z,i⟩
  ·obtain⟨t,f,z,i⟩:=V0 (p+2);exact bd f ⟨t,rfl,z,i⟩
  ·obtain⟨t,f,z,i⟩:=X0 (p+2);exact bd f (made 6 0 [] [] [t] (by rw[sizes,sizes,z]) hB3 ak ak bQ bQ (F8 i))
  ·obtain⟨x,a,e⟩:=VD h (p+2);obtain⟨ts,f,z,_,i⟩:=L0 (p+3);exact bd e (bd f (made 7 0 x [] ts (by rw[z]) hB3 ak ak a bQ i))
  ·obtain⟨ts,f,z,_,i⟩:=L1 (p+3);exact bd (RY h _ _ rfl) (bd f (made 8 0 _ [] ts (by rw[z]) hB3 ak ak (F7 rfl _) bQ i))
  ·obtain⟨t,f,z,i⟩:=V1 (p+2);exact bd f (made 9 _ [] [] [t] (by rw[sizes,sizes,z]) hB3 ak (by rw[aB ak ak];omega) bQ bQ (F8 i))
  ·obtain⟨t,f,z,i⟩:=V1 (p+2);exact bd f (made 10 _ [] [] [t] (by rw[sizes,sizes,z]) hB3 ak (by rw[aB ak ak];omega) bQ bQ (F8 i))
  ·obtain⟨t,f,z,i⟩:=X0 (p+3);exact bd (UM h _ _ rfl) (bd f (made 11 _ [] [] [t] (by rw[sizes,sizes,z]) hB3 ak (MW rfl _) bQ bQ (F8 i)))
  ·obtain⟨t,f,z,i⟩:=X0 (p+3);exact bd (UM h _ _ rfl) (bd f (made 11 _ [] [] [t] (by rw[sizes,sizes,z]) hB3 ak (MW rfl _) bQ bQ (F8 i)))
  ·obtain⟨x,a,e⟩:=VD h (p+2);obtain⟨ts,f,z,_,i⟩:=L2 (p+3);exact bd e (bd f (made 13 0 x [] ts (by rw[z]) hB3 ak ak a bQ i))
  ·obtain⟨t1,f1,z1,i1⟩:=X0 (p+2);obtain⟨t2,f2,z2,i2⟩:=X0 (iD s.g d (p+2)).2;obtain⟨t3,f3,z3,i3⟩:=X0 (iD s.g d (iD s.g d (p+2)).2).2;exact bd f1 (bd f2 (bd f3 (made 14 0 [] [] [t1,t2,t3] (by simp only[sizes,z1,z2,z3,itS]) hB3 ak ak bQ bQ (by simp[i1,i2,i3]))))
  ·obtain⟨t1,f1,z1,i1⟩:=V1 (p+3);obtain⟨t2,f2,z2,i2⟩:=X0 (lvS s.g (iD s.g (d - 1)) (iD s.g (d - 2)) (p+3)).2;exact bd (UM h _ _ rfl) (bd f1 (bd f2 (made 15 _ [] [] [t1,t2] (by simp only[sizes,z1,z2,uU];omega) hB3 ak (MW rfl _) bQ bQ (by simp[i1,i2]))))
 ·rw[aoL hbig] at hB3|-;have nn:∀n:Int,n<12->(((s.g (p+1) % 16:Nat):Int)==n)=false:=λn hn=>II.2 ak
  simp only[nn 0 ak,nn 1 ak,nn 2 ak,nn 3 ak,nn 4 ak,nn 5 ak,nn 6 ak,nn 7 ak,nn 8 ak,nn 9 ak,nn 10 ak,nn 11 ak,bg];obtain⟨o,o1,o2,e⟩:=aBV h (p+2);obtain⟨t1,f1,z1,i1⟩:=X0 (p+3);obtain⟨t2,f2,z2,i2⟩:=X0 (iD s.g d (p+3)).2;exact bd e (bd f1 (bd f2 (made 12 o [] [] [t1,t2] (by simp only[sizes,z1,z2,itS]) hB3 ak ⟨o1,o2⟩ bQ bQ (by simp[i1,i2]))))
theorem ar4:∀(d k:Nat),d<=5->2 * d+1<=k->EX s k d:=by
 intro d;induction d using Nat.strongRecOn with
 |_ d ih=>
  intro k hd hk;cases d with
  |zero=>
   obtain⟨k,rfl⟩:∃j,k=j+1:=⟨k - 1,ak⟩
   intro deep l1 l2 l3 p;rw[M.abv,atO];simp only[M.Ee,M.Kt];rw[zdt ak,aK];obtain⟨t,f,z,i⟩:=avr h p;simp only[f,ah];exact⟨t,rfl,z,i⟩
  |succ d=>
   obtain⟨j,rfl⟩:∃j,k=j+2:=⟨k - 2,ak⟩
   exact awY h hd λi hi=>⟨ih d ak i ak ak,ih (d - 1) ak i ak ak,ih (d - 2) ak i ak ak⟩
theorem Xw{deep:Int}(l1: -8<=deep)(l2:deep<=5)(p:Nat):DTr (M.eP deep (cS s p).1 (cS s p).2.1 (cS s p).2.2) s (iD s.g deep.toNat p):=by obtain⟨t,f,z,i⟩:=ar4 h deep.toNat (2 * deep.toNat+1) ak (zaO _) deep l1 l2 rfl p;exact⟨t,M.aiT f,z,i⟩
theorem akL{deep:Int}(l1: -8<=deep)(l2:deep<=5)(least most:Nat)(hl:least<=most)(hm:most<=5)(p:Nat):DL (M.oK least most deep (cS s p).1 (cS s p).2.1 (cS s p).2.2) s (Ns s.g (iD s.g deep.toNat) least (most - least+1) p):=by have hb:=XO (show deep.toNat<=5 by omega);obtain⟨ts,f,z,i⟩:=ahG h (oI s.g deep.toNat) ak (ar4 h deep.toNat (2 * deep.toNat+1) ak (zaO _) deep l1 l2 rfl) least most hl hm p;exact⟨ts,M.aiS f,z,i⟩
end
def Zd(g:Nat->Nat)(d:Nat)(p:Nat):Nat×Nat:=
 bif Nat.beq (g (Ns g (iD g d) (g (p+1) % 2) (4 - g (p+1) % 2) (p+2)).2 % 3) 0
 then up (uU (Ns g (iD g d) (g (p+1) % 2) (4 - g (p+1) % 2)) (λq=>iD g (d - 1) (q+2)) (p+2))
 else((Ns g (iD g d) (g (p+1) % 2) (4 - g (p+1) % 2) (p+2)).1+1,(Ns g (iD g d) (g (p+1) % 2) (4 - g (p+1) % 2) (p+2)).2+1)
def MX(g:Nat->Nat)(d:Nat):DF:=λp=>match g p % 9 with
 |0=>Zd g d p
 |1=>Zd g d p
 |2=>(1,p+2)
 |3=>up (Ns g (iD g d) 0 2 (p+2))
 |4=>up (Ns g (iD g (d - 1)) 0 3 (p+2))
 |5=>bif Nat.beq (g (p+1) % 2) 0 then(1,p+3) else up (iD g d (p+2))
 |_=>up (iD g d (p+1))
def ar5{g:Nat->Nat}{d p:Nat}(h:6<=g p % 9):MX g d p=up (iD g d (p+1)):=by unfold MX;split<;>first|omega|rfl
def En(g:Nat->Nat)(e:DF):DF:=λp=>up (itS e (g p % 3) (p+1))
def Ze(g:Nat->Nat)(d:Nat):DF:=λp=>bif Nat.beq (g p % 3) 0 then(1,p+1) else iD g d (p+1)
def ahH(g:Nat->Nat)(d:Nat)(b:DF):DF:=λp=>bif Nat.beq (g p % 3) 0 then(match g (p+1) % 6 with
  |0=>up (uU (iD g 1) b (p+2))
  |1=>up (uU (iD g 1) (uU b b) (p+2))
  |2=>up (uU (iD g 1) b (p+2))
  |3=>up (uU b (iD g 1) (p+2))
  |4=>up (uU (Ze g 2) (uU (Ze g 1) (uU (Ze g 1) b)) (p+2))
  |_=>bif Nat.beq (g (p+2) % 2) 0 then b (p+3) else up (b (p+5)))
 else MX g (min d 2) (p+1)
def zK(g:Nat->Nat):Nat->DF
 |0=>MX g 0
 |d+1=>ahH g (d+1) (En g (zK g d))
def akM(g:Nat->Nat):DF:=λp=>match g (p+1) % 8 with
 |0=>up (En g (zK g (1+g p % 2)) (p+3))
 |1=>up (iD g (1+g p % 2) (p+2))
 |2=>up (En g (zK g (1+g p % 2)) (p+2))
 |3=>up (uU (iD g 1) (iD g 1) (p+2))
 |4=>up (uU (iD g 1) (uU (iD g 1) (En g (zK g (1+g p % 2)))) (p+2))
 |5=>up (uU (itS (λq=>(1,q+1)) (g (p+2) % 3)) (λq=>En g (zK g (1+g p % 2)) (q+1)) (p+3))
 |6=>(1,p+3)
 |_=>up (uU (iD g (1+g p % 2)) (En g (zK g (1+g p % 2))) (p+2))
def Yv(g:Nat->Nat):DF:=λp=>up (itS (akM g) (g p % 4) (p+1))
def Zn(g:Nat->Nat):DF:=λp=>iD g (1+g p % 4) (p+1)
section
variable {g:Nat->Nat}
def Yw{d b b1:Nat}(h:Bd b (iD g d))(h1:Bd b1 (iD g (d - 1)))(hb:b1<=b):Bd (3 * b+b1+5) (MX g d):=λp=>by
 have l3:=Zc (g:=g) h 0 2 ak (p+2);have l4:=Zc (g:=g) h1 0 3 ak (p+2);have e2:=h (p+2);have e1:=h (p+1);have hpr:1<=(Zd g d p).1/\p+(Zd g d p).1<=(Zd g d p).2/\(Zd g d p).2<=p+(3 * b+b1+5):=by unfold Zd up uU;have hm:=Nat.mod_lt (g (p+1)) (show 0<2 by omega);have l:=Zc (g:=g) h (g (p+1) % 2) (4 - g (p+1) % 2) ak (p+2);rw[show g (p+1) % 2+(4 - g (p+1) % 2) - 1=3 by omega] at l;have e:=h1 ((Ns g (iD g d) (g (p+1) % 2) (4 - g (p+1) % 2) (p+2)).2+2);cases Nat.beq (g (Ns g (iD g d) (g (p+1) % 2) (4 - g (p+1) % 2) (p+2)).2 % 3) 0<;>simp only[aK,bg]<;>omega
 unfold MX up;split
 ·exact hpr
 ·exact hpr
 ·simp only;omega
 ·simp only;omega
 ·simp only;omega
 ·cases Nat.beq (g (p+1) % 2) 0<;>simp only[aK,bg]<;>omega
 ·simp only;omega
def aoN{b:Nat}{e:DF}(h:Bd b e):Bd (2 * b+1) (En g e):=λp=>by have hm:=Nat.mod_lt (g p) (show 0<3 by omega);have i:=aaR h (g p % 3) (p+1);have h2:(g p % 3) * b<=2 * b:=Nat.mul_le_mul_right b ak;unfold En up;simp only;omega
def WS{b1 b2:Nat}{e1 e2:DF}(h1:Bd b1 e1)(h2:Bd b2 e2):Bd (b1+b2) (uU e1 e2):=λp=>by have a:=h1 p;have c:=h2 (e1 p).2;unfold uU;simp only;omega
def atP{b d:Nat}(h:Bd b (iD g d))(hb:1<=b):Bd (b+1) (Ze g d):=λp=>by have a:=h (p+1);unfold Ze;cases Nat.beq (g p % 3) 0<;>simp only[aK,bg]<;>omega
def aBY{x y z d:Nat}{b:DF}(hB:Bd x b)(hS:Bd y (MX g (min d 2)))(h1:y+1<=z)(h2:2 * x+15<=z)(h3:x+74<=z):Bd z (ahH g d b):=λp=>by
 have E1:=oI g 1;have E2:=oI g 2;have c1:bE 1=13:=rfl;have c2:bE 2=43:=rfl;rw[c1] at E1;rw[c2] at E2;have s1:=hS (p+1);have a0:=WS E1 hB (p+2);have a1:=WS E1 (WS hB hB) (p+2);have a3:=WS hB E1 (p+2);have a4:=WS (atP E2 ak) (WS (atP E1 ak) (WS (atP E1 ak) hB)) (p+2);have a5:=hB (p+3);have a6:=hB (p+5);unfold ahH up;cases Nat.beq (g p % 3) 0 with
 |false=>simp only[bg];omega
 |true=>
  simp only[aK];split
  ·simp only;omega
  ·simp only;omega
  ·simp only;omega
  ·simp only;omega
  ·simp only;omega
  ·cases Nat.beq (g (p+2) % 2) 0<;>simp only[aK,bg]<;>omega
def atQ:Bd 17 (MX g 0):=Yw (oI g 0) (oI g 0) (zaO _)
def atS:Bd 47 (MX g 1):=Yw (oI g 1) (oI g 0) (by decide)
def atT:Bd 147 (MX g 2):=Yw (oI g 2) (oI g 1) (by decide)
def avs:Bd 17 (zK g 0):=atQ
def aGO:Bd 35 (En g (zK g 0)):=aoN avs
def avt:Bd 109 (zK g 1):=aBY aGO atS ak ak ak
def avu:Bd 219 (En g (zK g 1)):=aoN avt
def aoO:Bd 453 (zK g 2):=aBY avu atT ak ak ak
def aGP:Bd 907 (En g (zK g 2)):=aoN aoO
def aGQ(k:Nat):Bd 907 (En g (zK g (1+k % 2))):=by
 have:=Nat.mod_lt k (show 0<2 by omega);have h:k % 2=0\/k % 2=1:=ak;rcases h with h|h<;>rw[h]
 ·exact avu.mono ak
 ·exact aGP
def aGR(k:Nat):Bd 43 (iD g (1+k % 2)):=by
 have:=Nat.mod_lt k (show 0<2 by omega);have h:k % 2=0\/k % 2=1:=ak;rcases h with h|h<;>rw[h]
 ·exact(oI g 1).mono (by decide)
 ·exact oI g 2
def avv:Bd 952 (akM g):=λp=>by
 have E1:=oI g 1;have c1:bE 1=13:=rfl;rw[c1] at E1;have B:=aGQ (g:=g) (g p);have E:=aGR (g:=g) (g p);have a0:=B (p+3);have a1:=E (p+2);have a2:=B (p+2);have a3:=WS E1 E1 (p+2);have a4:=WS E1 (WS E1 B) (p+2);have a7:=WS E B (p+2);have hm:=Nat.mod_lt (g (p+2)) (show 0<3 by omega);have i5:=aaR (b:=1) (e:=λq=>(1,q+1)) (λq=>⟨zaO _,zaO _,zaO _⟩) (g (p+2) % 3) (p+3);have a5:=B ((itS (λq=>(1,q+1)) (g (p+2) % 3) (p+3)).2+1);unfold akM up;split
 ·simp only;omega
 ·simp only;omega
 ·simp only;omega
 ·simp only;omega
 ·simp only;omega
 ·simp only[uU];omega
 ·simp only;omega
 ·simp only;omega
def avw:Bd 2857 (Yv g):=λp=>by have hm:=Nat.mod_lt (g p) (show 0<4 by omega);have i:=aaR (avv (g:=g)) (g p % 4) (p+1);have h2:(g p % 4) * 952<=3 * 952:=Nat.mul_le_mul_right _ ak;unfold Yv up;simp only;omega
def aGS:Bd 404 (Zn g):=λp=>by
 have hm:=Nat.mod_lt (g p) (show 0<4 by omega);have h:g p % 4=0\/g p % 4=1\/g p % 4=2\/g p % 4=3:=ak;unfold Zn;have E:Bd 403 (iD g (1+g p % 4)):=by
  rcases h with h|h|h|h<;>rw[h]
  ·exact(oI g 1).mono (by decide)
  ·exact(oI g 2).mono (by decide)
  ·exact(oI g 3).mono (by decide)
  ·exact oI g 4
 have:=E (p+1);omega
end
def aGT{a b:Nat}(h:a=b):Nat.beq a b=true:=by rw[h];exact Nat.beq_refl b
def anr{ts:List Tn}{t:Tn}(h:∀u,u∈ts->P5 u)(ht:P5 t):∀u,u∈ts++[t]->P5 u:=by
 intro u hu;rcases List.mem_append.1 hu with hu|hu
 ·exact h u hu
 ·rw[List.mem_singleton.1 hu];exact ht
def acW(ts:List Tn)(t:Tn):sizes (ts++[t])=sizes ts+t.size:=by rw[jd];simp[sizes]
def aec(a b:Nat):(a==b)=Nat.beq a b:=by
 by_cases e:a=b
 ·rw[aGT e];exact beq_iff_eq.2 e
 ·rw[uV e];exact II.2 e
section
variable {s:Cu} (h:aaP s)
include h
theorem aBZ{deep:Int}(l1: -6<=deep)(l2:deep<=2)(p:Nat):
  DTr ((M.aV 2 (cS s (p+1)).1 (cS s (p+1)).2.1 (cS s (p+1)).2.2).bind λaiU=>
   ((M.oK aiU.fst 3 deep aiU.snd.fst aiU.snd.snd.fst aiU.snd.snd.snd).bind λads=>
   ((M.lQ 3 ads.snd.fst ads.snd.snd.fst ads.snd.snd.snd).bind λak6=>
    (bif ak6.fst then
    ((M.iR ([[D.str [62]],[D.str [62,62]],[D.str [124]]]) ak6.snd.fst ak6.snd.snd.fst ak6.snd.snd.snd).bind λas3=>
     ((M.eP (i64.wrap (deep - 1)) as3.snd.fst as3.snd.snd.fst as3.snd.snd.snd).bind λawZ=>
     (bif((ads.fst.length+[[D.sl true 5 awZ.fst]].length) * 24).ble 140737488355328 then
      (bif(ads.fst.length+[[D.sl true 5 awZ.fst]].length).ble 140737488355328 then
      ((M.bG 21 aiU.fst [] as3.fst [] (aG (ads.fst++[[D.sl true 5 awZ.fst]]))).bind λaYs=>(bif[[D.sl true 5 aYs]].all bn then(some ((aYs,awZ.snd.fst,awZ.snd.snd.fst,awZ.snd.snd.snd))) else none)) else none) else none))) else
    ((M.bG 21 aiU.fst [] [] [] (aG ads.fst)).bind λaYt=>(bif[[D.sl true 5 aYt]].all bn then(some ((aYt,ak6.snd.fst,ak6.snd.snd.fst,ak6.snd.snd.snd))) else none)))))) s (Zd s.g deep.toNat p):=by
 have hd:deep.toNat<=2:=ak;have hB:=(Yw (oI s.g deep.toNat) (oI s.g (deep.toNat - 1)) (aoM deep.toNat).1)
 have b1:=XO (show deep.toNat<=5 by omega);have b2:=XO (show deep.toNat - 1<=5 by omega);have hm:=Nat.mod_lt (s.g (p+1)) (show 0<2 by omega);have e2:=oH h (p+1) 2 ak ak;obtain⟨ts,f,z,hl,i⟩:=akL h (show -8<=deep by omega) (show deep<=5 by omega) (s.g (p+1) % 2) 3 ak ak (p+2);have hw:3 - s.g (p+1) % 2+1=4 - s.g (p+1) % 2:=ak;rw[hw] at f z;have zb:=Zc (g:=s.g) (oI s.g deep.toNat) (s.g (p+1) % 2) (4 - s.g (p+1) % 2) ak (p+2);rw[show s.g (p+1) % 2+(4 - s.g (p+1) % 2) - 1=3 by omega] at zb;refine bd e2 (bd f (bd (Zb h _ 3 ak ak) ?_));unfold Zd;rw[aec];cases hq:Nat.beq (s.g (Ns s.g (iD s.g deep.toNat) (s.g (p+1) % 2) (4 - s.g (p+1) % 2) (p+2)).2 % 3) 0 with
 |true=>simp only[aK];have hdd:(deep - 1).toNat=deep.toNat - 1:=ak;obtain⟨t,f2,z2,i2⟩:=Xw h (deep:=deep - 1) ak ak ((Ns s.g (iD s.g deep.toNat) (s.g (p+1) % 2) (4 - s.g (p+1) % 2) (p+2)).2+2);rw[hdd] at f2 z2;have zb2:=oI s.g (deep.toNat - 1) ((Ns s.g (iD s.g deep.toNat) (s.g (p+1) % 2) (4 - s.g (p+1) % 2) (p+2)).2+2);rw[aB (n:=deep - 1) ak ak];refine bd (RY h _ _ rfl) (bd f2 ?_);simp only[zaP,JU];rw[aS ak,aK,aS ak,aK];have:=made (s:=s) (q:=(iD s.g (deep.toNat - 1) ((Ns s.g (iD s.g deep.toNat) (s.g (p+1) % 2) (4 - s.g (p+1) % 2) (p+2)).2+2)).2) 21 ((s.g (p+1) % 2:Nat):Int) [] (pkS [[D.str [62]],[D.str [62,62]],[D.str [124]]] (s.g ((Ns s.g (iD s.g deep.toNat) (s.g (p+1) % 2) (4 - s.g (p+1) % 2) (p+2)).2+1))) (ts++[t]) rfl (by rw[acW];omega) ak ak bQ (F7 rfl _) (anr i i2);rw[VN] at this;obtain⟨t',q1,q2,q3⟩:=this;refine⟨t',q1, ?_,q3⟩;rw[q2,acW,z,z2];rfl
 |false=>simp only[bg];exact made 21 _ [] [] ts (by rw[z]) ak ak ak bQ bQ i
theorem ant{deep:Int}(l1:0<=deep)(l2:deep<=2)(p:Nat):DTr (M.vJ deep (cS s p).1 (cS s p).2.1 (cS s p).2.2) s (MX s.g deep.toNat p):=by
 have b1:=XO (show deep.toNat<=5 by omega);have b2:=XO (show deep.toNat - 1<=5 by omega);have hB:=Yw (oI s.g deep.toNat) (oI s.g (deep.toNat - 1)) (aoM deep.toNat).1 p;have hB3:(MX s.g deep.toNat p).1<=900000:=ak;have hm:=Nat.mod_lt (s.g p) (show 0<9 by omega);have hdd:(deep - 1).toNat=deep.toNat - 1:=ak;simp only[M.vJ,M.Oh,M.Lp];have w1:i64.wrap (deep - 1)=deep - 1:=aB ak ak;have hpr:=aBZ h (show -6<=deep by omega) l2 p;rw[w1] at hpr|-;refine bd (oH h p 9 ak ak) ?_;rcases Nat.lt_or_ge (s.g p % 9) 6 with hlt|hbig
 ·unfold MX at hB3|-;have hc:s.g p % 9=0\/s.g p % 9=1\/s.g p % 9=2\/s.g p % 9=3\/s.g p % 9=4\/s.g p % 9=5:=ak;rcases hc with hc|hc|hc|hc|hc|hc<;>rw[hc] at hB3|-
  ·exact hpr
  ·exact hpr
  ·exact bd (UM h _ _ rfl) (aaS _ [] (MW rfl _) bQ)
  ·obtain⟨ts,f,z,hl,i⟩:=akL h (show -8<=deep by omega) (show deep<=5 by omega) 0 1 ak ak (p+2);exact bd (UM h _ _ rfl) (bd f (made _ 0 [] [] ts (by rw[z]) hB3 (MW rfl _) ak bQ bQ i))
  ·obtain⟨x,a,e⟩:=VD h (p+1);obtain⟨ts,f,z,hl,i⟩:=akL h (deep:=deep - 1) ak ak 0 2 ak ak (p+2);rw[hdd] at f z;exact bd e (bd f (made 27 0 x [] ts (by rw[z]) hB3 ak ak a bQ i))
  ·refine bd (Zb h (p+1) 2 ak ak) ?_;rw[aec];have aYu:(bif Nat.beq (s.g (p+1) % 2) 0 then(1,p+3) else up (iD s.g deep.toNat (p+2)):Nat×Nat).1<=900000:=hB3;show DTr _ s (bif Nat.beq (s.g (p+1) % 2) 0 then(1,p+3) else up (iD s.g deep.toNat (p+2)));cases hq:Nat.beq (s.g (p+1) % 2) 0 with
   |true=>exact bd (RY h _ _ rfl) (aaS 34 _ ak (F7 rfl _))
   |false=>rw[hq] at aYu;obtain⟨t,f,z,i⟩:=Xw h (show -8<=deep by omega) (show deep<=5 by omega) (p+2);exact bd f (made 20 0 [] [] [t] (by rw[sizes,sizes,z]) aYu ak ak bQ bQ (F8 i))
 ·rw[ar5 hbig] at hB3|-;have nn:∀n:Int,n<6->(((s.g p % 9:Nat):Int)==n)=false:=λn hn=>II.2 ak
  simp only[nn 0 ak,nn 1 ak,nn 2 ak,nn 3 ak,nn 4 ak,nn 5 ak,bg];obtain⟨t,f,z,i⟩:=Xw h (show -8<=deep by omega) (show deep<=5 by omega) (p+1);exact bd f (made 20 0 [] [] [t] (by rw[sizes,sizes,z]) hB3 ak ak bQ bQ (F8 i))
theorem ar6{deep:Int}(l1:0<=deep)(l2:deep<=2)(p:Nat):DTr (M.vK deep (cS s p).1 (cS s p).2.1 (cS s p).2.2) s (Ze s.g deep.toNat p):=by
 simp only[M.vK,M.Qp];refine bd (Zb h p 3 ak ak) ?_;rw[aec];unfold Ze;cases hq:Nat.beq (s.g p % 3) 0 with
 |true=>exact aaS 16 [] ak bQ
 |false=>obtain⟨t,f,z,i⟩:=Xw h (show -8<=deep by omega) (show deep<=5 by omega) (p+1);exact bd f ⟨t,rfl,z,i⟩
def STr(s:Cu)(k d:Nat):Prop:=∀deep:Int,0<=deep->deep.toNat=d->∀p,DTr (M.wu k deep (cS s p).1 (cS s p).2.1 (cS s p).2.2) s (zK s.g d p)
end
section
variable {s:Cu} (h:aaP s)
include h
theorem ar7{k:Nat}{deep:Int}{e:DF}{b:Nat}(hb:Bd b e)(hb2:b<=2000)(he:∀p,DTr (M.wu k deep (cS s p).1 (cS s p).2.1 (cS s p).2.2) s (e p))(p:Nat):
  DTr (M.EY (k+1) deep (cS s p).1 (cS s p).2.1 (cS s p).2.2) s (En s.g e p):=by
 rw[M.aiX];simp only[M.EW];have hmod:=Nat.mod_lt (s.g p) (show 0<3 by omega);have hi:=aaR hb (s.g p % 3) (p+1);have h2:(s.g p % 3) * b<=2 * b:=Nat.mul_le_mul_right b ak;refine bd (oH h p 3 ak ak) ?_;obtain⟨us,k1,k2,k3,k4⟩:=WR (s:=s) (e:=e) (b:=M.Qq (M.wu k) deep) (λp x=>rfl) (λn p ts hn ht=>by obtain⟨t,f1,z1,i1⟩:=he p;refine⟨t, ?_,z1,i1⟩;simp only[jU,M.Qq,M.Jh,f1,ah,zaP,JU];rw[zdt ak,aK,aS ak,aK,aS ak,aK,aB ak ak,VN];simp) (s.g p % 3) (p+1) [] (by simp;omega);have k1':M.Oi (M.wu k) deep (((s.g p % 3:Nat):Int),(cS s (p+1)).1,(cS s (p+1)).2.1,(cS s (p+1)).2.2,[])=_:=k1;exact bd k1' (made 33 0 [] [] us (by rw[k2]) ak ak ak bQ bQ k4)
omit h in
theorem aoP{d:Nat}(hd:d<=2):∃b,b<=500/\Bd b (zK s.g d):=by
 have:d=0\/d=1\/d=2:=ak;rcases this with rfl|rfl|rfl
 ·exact⟨17,ak,avs⟩
 ·exact⟨109,ak,avt⟩
 ·exact⟨453,ak,aoO⟩
theorem aw0{d j:Nat}(hd:d+1<=2)(H:STr s j d):STr s (j+2) (d+1):=by
 intro deep l1 l3 p;obtain⟨b,hb1,hb2⟩:=aoP (s:=s) (show d<=2 by omega);have w1:i64.wrap (deep - 1)=deep - 1:=aB ak ak;have B:=λq=>ar7 h hb2 ak (H (deep - 1) ak ak) q
 have BB:=aoN (g:=s.g) hb2;obtain⟨b',hb1',hb2'⟩:=aoP (s:=s) hd;have hB:=hb2' p;have hB3:(zK s.g (d+1) p).1<=900000:=ak;have hm:=Nat.mod_lt (s.g (p+1)) (show 0<6 by omega);have X1:=λq=>Xw h (deep:=1) ak ak q
 have e1:(1:Int).toNat=1:=rfl;have e2:(2:Int).toNat=2:=rfl;rw[e1] at X1;have M1:=λq=>ar6 h (deep:=1) ak ak q
 have M2:=λq=>ar6 h (deep:=2) ak ak q
 rw[e1] at M1;rw[e2] at M2;rw[M.abw];simp only[M.Ef,w1];rw[rH ak,bg,rH ak,bg];rw[zK] at hB3|-;unfold ahH at hB3|-;refine bd (Zb h p 3 ak ak) ?_;rw[aec];cases hq:Nat.beq (s.g p % 3) 0 with
 |false=>obtain⟨t,f,z,i⟩:=ant h l1 (show deep<=2 by omega) (p+1);rw[show min (d+1) 2=deep.toNat by omega];exact bd f ⟨t,rfl,z,i⟩
 |true=>
  rw[hq] at hB3;simp only[aK] at hB3;simp only[zaN,bg,aK];refine bd (oH h (p+1) 6 ak ak) ?_;have hc:s.g (p+1) % 6=0\/s.g (p+1) % 6=1\/s.g (p+1) % 6=2\/s.g (p+1) % 6=3\/s.g (p+1) % 6=4\/s.g (p+1) % 6=5:=ak;have nn:∀c:Int,((s.g (p+1) % 6:Nat):Int)≠c->(((s.g (p+1) % 6:Nat):Int)==c)=false:=λc hn=>II.2 hn
  have yy:∀c:Int,((s.g (p+1) % 6:Nat):Int)=c->(((s.g (p+1) % 6:Nat):Int)==c)=true:=λc hn=>beq_iff_eq.2 hn
  rcases hc with hc|hc|hc|hc|hc|hc
  ·simp only[yy 0 ak,bg,aK];rw[hc] at hB3|-;replace hB3:(up (uU (iD s.g 1) (En s.g (zK s.g d)) (p+2))).1<=900000:=hB3;show DTr _ s (up (uU (iD s.g 1) (En s.g (zK s.g d)) (p+2)));simp only[up,uU] at hB3|-;obtain⟨t1,f1,z1,i1⟩:=X1 (p+2);obtain⟨t2,f2,z2,i2⟩:=B (iD s.g 1 (p+2)).2;exact bd f1 (bd f2 (made 28 0 [] [] [t1,t2] (by simp only[sizes,z1,z2];omega) hB3 ak ak bQ bQ (by simp[i1,i2])))
  ·simp only[nn 0 ak,yy 1 ak,bg,aK];rw[hc] at hB3|-;replace hB3:(up (uU (iD s.g 1) (uU (En s.g (zK s.g d)) (En s.g (zK s.g d))) (p+2))).1<=900000:=hB3;show DTr _ s (up (uU (iD s.g 1) (uU (En s.g (zK s.g d)) (En s.g (zK s.g d))) (p+2)));simp only[up,uU] at hB3|-;obtain⟨t1,f1,z1,i1⟩:=X1 (p+2);obtain⟨t2,f2,z2,i2⟩:=B (iD s.g 1 (p+2)).2;obtain⟨t3,f3,z3,i3⟩:=B (En s.g (zK s.g d) (iD s.g 1 (p+2)).2).2;exact bd f1 (bd f2 (bd f3 (made 28 0 [] [] [t1,t2,t3] (by simp only[sizes,z1,z2,z3];omega) hB3 ak ak bQ bQ (by simp[i1,i2,i3]))))
  ·simp only[nn 0 ak,nn 1 ak,yy 2 ak,bg,aK];rw[hc] at hB3|-;replace hB3:(up (uU (iD s.g 1) (En s.g (zK s.g d)) (p+2))).1<=900000:=hB3;show DTr _ s (up (uU (iD s.g 1) (En s.g (zK s.g d)) (p+2)));simp only[up,uU] at hB3|-;obtain⟨t1,f1,z1,i1⟩:=X1 (p+2);obtain⟨t2,f2,z2,i2⟩:=B (iD s.g 1 (p+2)).2;exact bd f1 (bd f2 (made 29 0 [] [] [t1,t2] (by simp only[sizes,z1,z2];omega) hB3 ak ak bQ bQ (by simp[i1,i2])))
  ·simp only[nn 0 ak,nn 1 ak,nn 2 ak,yy 3 ak,bg,aK];rw[hc] at hB3|-;replace hB3:(up (uU (En s.g (zK s.g d)) (iD s.g 1) (p+2))).1<=900000:=hB3;show DTr _ s (up (uU (En s.g (zK s.g d)) (iD s.g 1) (p+2)));simp only[up,uU] at hB3|-;obtain⟨t1,f1,z1,i1⟩:=B (p+2);obtain⟨t2,f2,z2,i2⟩:=X1 (En s.g (zK s.g d) (p+2)).2;exact bd f1 (bd f2 (made 30 0 [] [] [t1,t2] (by simp only[sizes,z1,z2];omega) hB3 ak ak bQ bQ (by simp[i1,i2])))
  ·simp only[nn 0 ak,nn 1 ak,nn 2 ak,nn 3 ak,yy 4 ak,bg,aK];rw[hc] at hB3|-;replace hB3:(up (uU (Ze s.g 2) (uU (Ze s.g 1) (uU (Ze s.g 1) (En s.g (zK s.g d)))) (p+2))).1<=900000:=hB3;show DTr _ s (up (uU (Ze s.g 2) (uU (Ze s.g 1) (uU (Ze s.g 1) (En s.g (zK s.g d)))) (p+2)));simp only[up,uU] at hB3|-;obtain⟨t1,f1,z1,i1⟩:=M2 (p+2);obtain⟨t2,f2,z2,i2⟩:=M1 (Ze s.g 2 (p+2)).2;obtain⟨t3,f3,z3,i3⟩:=M1 (Ze s.g 1 (Ze s.g 2 (p+2)).2).2;obtain⟨t4,f4,z4,i4⟩:=B (Ze s.g 1 (Ze s.g 1 (Ze s.g 2 (p+2)).2).2).2;exact bd f1 (bd f2 (bd f3 (bd f4 (made 31 0 [] [] [t1,t2,t3,t4] (by simp only[sizes,z1,z2,z3,z4];omega) hB3 ak ak bQ bQ (by simp[i1,i2,i3,i4])))))
  ·simp only[nn 0 ak,nn 1 ak,nn 2 ak,nn 3 ak,nn 4 ak,bg,aK];rw[hc] at hB3|-;replace hB3:(bif Nat.beq (s.g (p+2) % 2) 0 then En s.g (zK s.g d) (p+3) else up (En s.g (zK s.g d) (p+5))).1<=900000:=hB3;show DTr _ s (bif Nat.beq (s.g (p+2) % 2) 0 then En s.g (zK s.g d) (p+3) else up (En s.g (zK s.g d) (p+5)));refine bd (Zb h (p+2) 2 ak ak) ?_;rw[aec];cases hr:Nat.beq (s.g (p+2) % 2) 0 with
   |true=>obtain⟨t,f,z,i⟩:=B (p+3);exact bd f ⟨t,rfl,z,i⟩
   |false=>rw[hr] at hB3;obtain⟨x,a,e⟩:=VD h (p+3);obtain⟨y,c,e'⟩:=VD h (p+4);obtain⟨t,f,z,i⟩:=B (p+5);exact bd e (bd e' (bd f (made 32 0 x y [t] (by rw[sizes,sizes,z]) hB3 ak ak a c (F8 i))))
theorem akN:∀(d k:Nat),d<=2->2 * d+1<=k->STr s k d
 |0,k,_,hk=>by
  obtain⟨k,rfl⟩:∃j,k=j+1:=⟨k - 1,ak⟩
  intro deep l1 l3 p;rw[M.abw];simp only[M.Ef];rw[zdt ak,aK,rH ak,bg];obtain⟨t,f,z,i⟩:=ant h l1 (show deep<=2 by omega) p;rw[l3] at f z;exact bd f ⟨t,rfl,z,i⟩
 |d+1,k,hd,hk=>by
  obtain⟨j,rfl⟩:∃j,k=j+2:=⟨k - 2,ak⟩
  exact aw0 h hd (akN d j ak ak)
theorem aGU{deep:Int}(l1:0<=deep)(l2:deep<=2)(p:Nat):DTr (M.qX deep (cS s p).1 (cS s p).2.1 (cS s p).2.2) s (zK s.g deep.toNat p):=by obtain⟨t,f,z,i⟩:=akN h deep.toNat (2 * deep.toNat+1) ak (zaO _) deep l1 rfl p;exact⟨t,M.aiY f,z,i⟩
theorem aLj{deep:Int}(l1:0<=deep)(l2:deep<=2)(p:Nat):DTr (M.mF deep (cS s p).1 (cS s p).2.1 (cS s p).2.2) s (En s.g (zK s.g deep.toNat) p):=by obtain⟨b,hb1,hb2⟩:=aoP (s:=s) (show deep.toNat<=2 by omega);obtain⟨t,f,z,i⟩:=ar7 h hb2 ak (akN h deep.toNat (2 * deep.toNat+1) ak (zaO _) deep l1 rfl) p;exact⟨t,M.agn f,z,i⟩
theorem aGV(p:Nat):DTr (M.Gn (cS s p).1 (cS s p).2.1 (cS s p).2.2) s (akM s.g p):=by
 have hB:=avv (g:=s.g) p;have hB3:(akM s.g p).1<=900000:=ak;have hm:=Nat.mod_lt (s.g (p+1)) (show 0<8 by omega);have hm2:=Nat.mod_lt (s.g p) (show 0<2 by omega);simp only[jU,M.Gn,M.TD];refine bd (oH h p 2 ak ak) (bd (oH h (p+1) 8 ak ak) ?_);have w1:i64.wrap (1+((s.g p % 2:Nat):Int))=((1+s.g p % 2:Nat):Int):=by rw[aB ak ak];omega
 simp only[w1];have t1:((1+s.g p % 2:Nat):Int).toNat=1+s.g p % 2:=VO _;have B:=λq=>aLj h (deep:=((1+s.g p % 2:Nat):Int)) ak ak q
 have E:=λq=>Xw h (deep:=((1+s.g p % 2:Nat):Int)) ak ak q
 have E1:=λq=>Xw h (deep:=1) ak ak q
 rw[t1] at B E;rw[show(1:Int).toNat=1 from rfl] at E1;unfold akM at hB3|-;have hc:s.g (p+1) % 8=0\/s.g (p+1) % 8=1\/s.g (p+1) % 8=2\/s.g (p+1) % 8=3\/s.g (p+1) % 8=4\/s.g (p+1) % 8=5\/s.g (p+1) % 8=6\/s.g (p+1) % 8=7:=ak;have nn:∀c:Int,((s.g (p+1) % 8:Nat):Int)≠c->(((s.g (p+1) % 8:Nat):Int)==c)=false:=λc hn=>II.2 hn
 have yy:∀c:Int,((s.g (p+1) % 8:Nat):Int)=c->(((s.g (p+1) % 8:Nat):Int)==c)=true:=λc hn=>beq_iff_eq.2 hn
 rcases hc with hc|hc|hc|hc|hc|hc|hc|hc
 ·simp only[yy 0 ak,bg,aK];rw[hc] at hB3|-;replace hB3:(up (En s.g (zK s.g (1+s.g p % 2)) (p+3))).1<=900000:=hB3;show DTr _ s (up (En s.g (zK s.g (1+s.g p % 2)) (p+3)));have hm3:=Nat.mod_lt (s.g (p+2)) (show 0<2 by omega);obtain⟨t,f,z,i⟩:=B (p+3);exact bd (oH h (p+2) 2 ak ak) (bd f (made _ 0 [] [] [t] (by rw[sizes,sizes,z]) hB3 (by rw[aB ak ak];omega) ak bQ bQ (F8 i)))
 ·simp only[nn 0 ak,yy 1 ak,bg,aK];rw[hc] at hB3|-;replace hB3:(up (iD s.g (1+s.g p % 2) (p+2))).1<=900000:=hB3;show DTr _ s (up (iD s.g (1+s.g p % 2) (p+2)));obtain⟨t,f,z,i⟩:=E (p+2);exact bd f (made 42 1 [] [] [t] (by rw[sizes,sizes,z]) hB3 ak ak bQ bQ (F8 i))
 ·simp only[nn 0 ak,nn 1 ak,yy 2 ak,bg,aK];rw[hc] at hB3|-;replace hB3:(up (En s.g (zK s.g (1+s.g p % 2)) (p+2))).1<=900000:=hB3;show DTr _ s (up (En s.g (zK s.g (1+s.g p % 2)) (p+2)));obtain⟨t,f,z,i⟩:=B (p+2);exact bd f (made 42 2 [] [] [t] (by rw[sizes,sizes,z]) hB3 ak ak bQ bQ (F8 i))
 ·simp only[nn 0 ak,nn 1 ak,nn 2 ak,yy 3 ak,bg,aK];rw[hc] at hB3|-;replace hB3:(up (uU (iD s.g 1) (iD s.g 1) (p+2))).1<=900000:=hB3;show DTr _ s (up (uU (iD s.g 1) (iD s.g 1) (p+2)));simp only[up,uU] at hB3|-;obtain⟨t1,f1,z1,i1⟩:=E1 (p+2);obtain⟨t2,f2,z2,i2⟩:=E1 (iD s.g 1 (p+2)).2;exact bd f1 (bd f2 (made 43 1 [] [] [t1,t2] (by simp only[sizes,z1,z2];omega) hB3 ak ak bQ bQ (by simp[i1,i2])))
 ·simp only[nn 0 ak,nn 1 ak,nn 2 ak,nn 3 ak,yy 4 ak,bg,aK];rw[hc] at hB3|-;replace hB3:(up (uU (iD s.g 1) (uU (iD s.g 1) (En s.g (zK s.g (1+s.g p % 2)))) (p+2))).1<=900000:=hB3;show DTr _ s (up (uU (iD s.g 1) (uU (iD s.g 1) (En s.g (zK s.g (1+s.g p % 2)))) (p+2)));simp only[up,uU] at hB3|-;obtain⟨t1,f1,z1,i1⟩:=E1 (p+2);obtain⟨t2,f2,z2,i2⟩:=E1 (iD s.g 1 (p+2)).2;obtain⟨t3,f3,z3,i3⟩:=B (iD s.g 1 (iD s.g 1 (p+2)).2).2;exact bd f1 (bd f2 (bd f3 (made 43 3 [] [] [t1,t2,t3] (by simp only[sizes,z1,z2,z3];omega) hB3 ak ak bQ bQ (by simp[i1,i2,i3]))))
 ·simp only[nn 0 ak,nn 1 ak,nn 2 ak,nn 3 ak,nn 4 ak,yy 5 ak,bg,aK];rw[hc] at hB3|-;replace hB3:(up (uU (itS (λq=>(1,q+1)) (s.g (p+2) % 3)) (λq=>En s.g (zK s.g (1+s.g p % 2)) (q+1)) (p+3))).1<=900000:=hB3;show DTr _ s (up (uU (itS (λq=>(1,q+1)) (s.g (p+2) % 3)) (λq=>En s.g (zK s.g (1+s.g p % 2)) (q+1)) (p+3)));simp only[up,uU] at hB3|-;have hm3:=Nat.mod_lt (s.g (p+2)) (show 0<3 by omega);obtain⟨us,k1,k2,k3,k4⟩:=WR (s:=s) (e:=λq=>(1,q+1)) (b:=M.Qr ((1+s.g p % 2:Nat):Int)) (λp x=>rfl) (λn p ts hn ht=>by obtain⟨x,a,e⟩:=VD h p;refine⟨.mk 1 0 x [] [], ?_,rfl,ahF ak ak a bQ (by simp)⟩;simp only[jU,M.Qr,M.Ji,e,ah,zaP,JU];rw[zdt ak,aK,aS ak,aK,aS ak,aK,aB ak ak,VN];have:((n+1:Nat):Int) - 1=n:=ak;rw[this];rfl) (s.g (p+2) % 3) (p+3) [] (by simp;omega);have k1':M.Oj ((1+s.g p % 2:Nat):Int) (((s.g (p+2) % 3:Nat):Int),(cS s (p+3)).1,(cS s (p+3)).2.1,(cS s (p+3)).2.2,[])=_:=k1;obtain⟨t,f,z,i⟩:=B ((itS (λq=>(1,q+1)) (s.g (p+2) % 3) (p+3)).2+1);refine bd (oH h (p+2) 3 ak ak) (bd k1' (bd (RY h _ _ rfl) (bd f ?_)));simp only[List.nil_append,zaP,JU,k3];rw[aS ak,aK,aS ak,aK];have e:=made (s:=s) (q:=(En s.g (zK s.g (1+s.g p % 2)) ((itS (λq=>(1,q+1)) (s.g (p+2) % 3) (p+3)).2+1)).2) 44 0 (pkS [[D.str [102]],[D.str [103]],[D.str [109,97,120]]] (s.g (itS (λq=>(1,q+1)) (s.g (p+2) % 3) (p+3)).2)) [] (us++[t])
   (by rw[acW,k2,z]) hB3 ak ak (F7 rfl _) bQ (anr k4 i)
  rw[VN] at e;exact e
 ·simp only[nn 0 ak,nn 1 ak,nn 2 ak,nn 3 ak,nn 4 ak,nn 5 ak,yy 6 ak,bg,aK];rw[hc] at hB3|-;replace hB3:(((1,p+3):Nat×Nat)).1<=900000:=hB3;show DTr _ s (((1,p+3):Nat×Nat));exact bd (RY h _ _ rfl) (aaS 34 _ ak (F7 rfl _))
 ·simp only[nn 0 ak,nn 1 ak,nn 2 ak,nn 3 ak,nn 4 ak,nn 5 ak,nn 6 ak,bg,aK];rw[hc] at hB3|-;replace hB3:(up (uU (iD s.g (1+s.g p % 2)) (En s.g (zK s.g (1+s.g p % 2))) (p+2))).1<=900000:=hB3;show DTr _ s (up (uU (iD s.g (1+s.g p % 2)) (En s.g (zK s.g (1+s.g p % 2))) (p+2)));simp only[up,uU] at hB3|-;obtain⟨t1,f1,z1,i1⟩:=E (p+2);obtain⟨t2,f2,z2,i2⟩:=B (iD s.g (1+s.g p % 2) (p+2)).2;exact bd f1 (bd f2 (made 42 3 [] [] [t1,t2] (by simp only[sizes,z1,z2];omega) hB3 ak ak bQ bQ (by simp[i1,i2])))
end
def mkT:Nat->Int->Nat
 |0,_=>0
 |n+1,h=>adq (apz (nxH h))+256 * mkT n (nxH h)
def aYv:Nat->Int->Nat
 |0,_=>0
 |m+1,h=>mkT 60 h+256 ^ 60 * aYv m (it nxH 60 h)
def aLk:Nat:=aYv 50 0
def aoQ:Nat->Int->Nat->Bool
 |0,_,_=>true
 |n+1,h,t=>Nat.beq (adq (apz (nxH h))) (t % 256) && aoQ n (nxH h) (t / 256)
def anu:∀(n:Nat) (h:Int) (t:Nat),aoQ n h t=true->∀k,k<n->adq (apz (nxH (it nxH k h)))=t / 256 ^ k % 256
 |0,_,_,_,k,hk=>absurd hk (Nat.not_lt_zero k)
 |n+1,h,t,hc,k,hk=>by
  rw[aoQ] at hc;simp only[xw] at hc;cases k with
  |zero=>rw[asT,Nat.pow_zero,Nat.div_one];exact yV hc.1
  |succ k=>have:=anu n (nxH h) (t / 256) hc.2 k ak;rw[ahk,this,Nat.div_div_eq_div_mul,Nat.pow_succ,Nat.mul_comm 256]
def aLl:aoQ 3000 0 aLk=true:=by kernel_rfl
def gTab(p:Nat):Nat:=bif Nat.blt p 3000 then aLk / 256 ^ p % 256 else adr p
def aIS:gTab=adr:=by
 funext p;unfold gTab;cases hp:Nat.blt p 3000 with
 |false=>rfl
 |true=>rw[Nat.blt_eq] at hp;exact(anu 3000 0 aLk aLl p hp).symm
def aB0:(List.range 2858).all (λj=>Nat.ble (Yv gTab j).1 220)=true:=by kernel_rfl
def aB1:(List.range 405).all (λj=>Nat.ble (Zn gTab j).1 60)=true:=by kernel_rfl
def atU(j:Nat)(hj:j<=2857):(Yv adr j).1<=220:=by rw[<-aIS];exact Nat.le_of_ble_eq_true (List.all_eq_true.1 aB0 j (List.mem_range.2 ak))
def atV(j:Nat)(hj:j<=404):(Zn adr j).1<=60:=by rw[<-aIS];exact Nat.le_of_ble_eq_true (List.all_eq_true.1 aB1 j (List.mem_range.2 ak))
def abM(s:Cu)(p q:Nat):cS (s.st p) q=cS s (p+q):=by unfold cS;rw[Cu.apA]
abbrev LpS:=(au×Int×Int)⊕zax
abbrev LpT:=au×Int×Int×au
def aed(s:Cu)(p:Nat):LpS->Prop
 | .inl c=>c=cS s p
 | .inr (_,c,c1,c2,_)=>(c,c1,c2)=cS s p
def aoR{s:Cu}{p q:Nat}{x:LpS}:aed (s.st p) q x↔aed s (p+q) x:=by
 cases x with
 |inl c=>simp only[aed,abM]
 |inr c=>simp only[aed,abM]
def DX(m:DR)(s:Cu)(lim:Nat):Prop:=∃(t:Tn) (q:Nat),m=some (aZ true (t.flat 0),cS s q)/\t.size<=lim/\P5 t
def DX.mono{m:DR}{s:Cu}{a b:Nat}(h:DX m s a)(hab:a<=b):DX m s b:=by obtain⟨t,q,h1,h2,h3⟩:=h;exact⟨t,q,h1,Nat.le_trans h2 hab,h3⟩
def avx{b:LpS->Option (LpS⊕LpT)}{f:(Nat->Nat)->DF}{lim L:Nat}
  (hf:∀{s:Cu},aaP s->∀p,∃t:Tn,t.size=(f s.g p).1/\P5 t/\∀x,aed s p x->b x=(bif decide ((t.size:Int)<=(lim:Int)) then some (.inr ((cS s (f s.g p).2).1,(cS s (f s.g p).2).2.1,(cS s (f s.g p).2).2.2,aZ true (t.flat 0)))
   else some (.inl (.inr (false,(cS s (f s.g p).2).1,(cS s (f s.g p).2).2.1,(cS s (f s.g p).2).2.2,aZ true (t.flat 0))))))
  (hbd:∀g,Bd L (f g)) (hsm:∀j,j<=L->(f adr j).1<=lim):∀s:Cu,aaP s->∀x,aed s 0 x->∃(q:Nat) (t:Tn),dU b x=some ((cS s q).1,(cS s q).2.1,(cS s q).2.2,aZ true (t.flat 0))/\t.size<=lim/\P5 t:=by
 intro s hs;refine av9 f lim L (λu=>u.code.length<=1048576->∀x,aed u 0 x->∃(q:Nat) (t:Tn),dU b x=some ((cS u q).1,(cS u q).2.1,(cS u q).2.2,aZ true (t.flat 0))/\t.size<=lim/\P5 t) ?_ hsm s hs.i hs.l;intro s p hi;have hb:=hbd s.g p;refine⟨ak,ak,λhz hl x hx=> ?_,λhP hl x hx=> ?_⟩
 ·rw[Cu.Oc] at hl;rw[aoR,Nat.add_zero] at hx;obtain⟨t,z,i,hbx⟩:=hf ⟨hi,hl⟩ p;have e:=hbx x hx;rw[zdt ak,aK] at e;refine⟨(f s.g p).2 - p,t, ?_,ak,i⟩;rw[abM,show p+((f s.g p).2 - p)=(f s.g p).2 by omega];exact bP e
 ·rw[Cu.Oc] at hl;rw[aoR,Nat.add_zero] at hx;obtain⟨t,z,i,hbx⟩:=hf ⟨hi,hl⟩ p;have e:=hbx x hx
  by_cases hz:(t.size:Int)<=(lim:Int)
  ·rw[zdt hz,aK] at e;refine⟨(f s.g p).2 - p,t, ?_,ak,i⟩;rw[abM,show p+((f s.g p).2 - p)=(f s.g p).2 by omega];exact bP e
  ·rw[rH hz,bg] at e;obtain⟨q,t',k1,k2,k3⟩:=hP (by rw[Cu.Oc];exact hl) _ (show aed (s.st (f s.g p).2) 0 (.inr (false,(cS s (f s.g p).2).1,(cS s (f s.g p).2).2.1,(cS s (f s.g p).2).2.2,aZ true (t.flat 0))) from by rw[aoR];rfl);refine⟨(f s.g p).2 - p+q,t', ?_,k2,k3⟩;rw[dN e,k1,abM,abM,show p+((f s.g p).2 - p+q)=(f s.g p).2+q by omega]
section
variable {s:Cu} (h:aaP s)
include h
theorem atW(p:Nat):∃t:Tn,t.size=(Zn s.g p).1/\P5 t/\∀x,aed s p x->M.E5 x=(bif decide ((t.size:Int)<=((60:Nat):Int)) then some (.inr ((cS s (Zn s.g p).2).1,(cS s (Zn s.g p).2).2.1,(cS s (Zn s.g p).2).2.2,aZ true (t.flat 0)))
   else some (.inl (.inr (false,(cS s (Zn s.g p).2).1,(cS s (Zn s.g p).2).2.1,(cS s (Zn s.g p).2).2.2,aZ true (t.flat 0))))):=by
 have hm:=Nat.mod_lt (s.g p) (show 0<4 by omega);have w1:i64.wrap (1+((s.g p % 4:Nat):Int))=((1+s.g p % 4:Nat):Int):=by rw[aB ak ak];omega
 have e4:=oH h p 4 ak ak;rw[show((4:Nat):Int)=4 from rfl] at e4;obtain⟨t,f,z,i⟩:=Xw h (deep:=((1+s.g p % 4:Nat):Int)) ak ak (p+1);rw[VO] at f z;refine⟨t,z,i,λx hx=> ?_⟩;cases x with
 |inl c=>simp only[aed] at hx;subst hx;simp only[M.E5,M.EZ,e4,ah,w1,f,fO,t.flat_length];cases decide ((t.size:Int)<=60)<;>rfl
 |inr c=>obtain⟨v,c,c1,c2,xx⟩:=c;simp only[aed] at hx;cases hx;have e4':M.aV 4 (cR (s.st p)) ((s.st p).i:Int) (s.st p).h=_:=e4;simp only[M.E5,M.EZ,e4',ah,w1,f,fO,t.flat_length];cases decide ((t.size:Int)<=60)<;>rfl
theorem atX(p:Nat):∃t:Tn,t.size=(Yv s.g p).1/\P5 t/\∀x,aed s p x->M.x9 x=(bif decide ((t.size:Int)<=((220:Nat):Int)) then some (.inr ((cS s (Yv s.g p).2).1,(cS s (Yv s.g p).2).2.1,(cS s (Yv s.g p).2).2.2,aZ true (t.flat 0)))
   else some (.inl (.inr (false,(cS s (Yv s.g p).2).1,(cS s (Yv s.g p).2).2.1,(cS s (Yv s.g p).2).2.2,aZ true (t.flat 0))))):=by
 have hm:=Nat.mod_lt (s.g p) (show 0<4 by omega);have hB:=avw (g:=s.g) p;have e4:=oH h p 4 ak ak;rw[show((4:Nat):Int)=4 from rfl] at e4;obtain⟨us,k1,k2,k3,k4⟩:=WR (s:=s) (e:=akM s.g) (b:=M.Ny) (λp x=>rfl) (λn p ts hn ht=>by obtain⟨t,f1,z1,i1⟩:=aGV h p;refine⟨t, ?_,z1,i1⟩;simp only[jU,M.Ny,M.Eu,f1,ah,zaP,JU];rw[zdt ak,aK,aS ak,aK,aS ak,aK,aB ak ak,VN];simp) (s.g p % 4) (p+1) [] (by simp;omega);have k1':M.Ce (((s.g p % 4:Nat):Int),(cS s (p+1)).1,(cS s (p+1)).2.1,(cS s (p+1)).2.2,[])=_:=k1;have hz:(Yv s.g p).1=sizes us+1:=by rw[k2];rfl
 have hmk:=avo 45 0 [] [] [] us ak;rw[<-avq] at hmk;refine⟨.mk 45 0 [] [] us,by rw[Tn.size,hz],ahF ak ak bQ bQ k4,λx hx=> ?_⟩;cases x with
 |inl c=>simp only[aed] at hx;subst hx;simp only[M.x9,M.x8,e4,ah,k1',List.nil_append,hmk,ae0,aK,fO,Tn.flat_length];cases decide (((Tn.mk 45 0 [] [] us).size:Int)<=220)<;>rfl
 |inr c=>obtain⟨v,c,c1,c2,xx⟩:=c;simp only[aed] at hx;cases hx;have e4':M.aV 4 (cR (s.st p)) ((s.st p).i:Int) (s.st p).h=_:=e4;simp only[M.x9,M.x8,e4',ah,k1',List.nil_append,hmk,ae0,aK,fO,Tn.flat_length];cases decide (((Tn.mk 45 0 [] [] us).size:Int)<=220)<;>rfl
theorem aGW(p:Nat):DX (M.BL (cS s p).1 (cS s p).2.1 (cS s p).2.2) s 60:=by obtain⟨q,t,k1,k2,k3⟩:=avx (b:=M.E5) (f:=Zn) (lim:=60) (L:=404) (λh p=>atW h p) (λg=>aGS) atV (s.st p) (h.st p) (.inl (cS s p)) (by show cS s p=cS (s.st p) 0;rw[abM];rfl);have k1':M.Qs (.inl ((cS s p).1,(cS s p).2.1,(cS s p).2.2))=_:=k1;rw[abM] at k1';refine⟨t,p+q, ?_,k2,k3⟩;simp only[M.BL,M.TF];rw[k1',ah]
theorem akO(p:Nat):DX (M.oL (cS s p).1 (cS s p).2.1 (cS s p).2.2) s 220:=by obtain⟨q,t,k1,k2,k3⟩:=avx (b:=M.x9) (f:=Yv) (lim:=220) (L:=2857) (λh p=>atX h p) (λg=>avw) atU (s.st p) (h.st p) (.inl (cS s p)) (by show cS s p=cS (s.st p) 0;rw[abM];rfl);have k1':M.Jj (.inl ((cS s p).1,(cS s p).2.1,(cS s p).2.2))=_:=k1;rw[abM] at k1';refine⟨t,p+q, ?_,k2,k3⟩;simp only[M.oL,M.Lr];rw[k1',ah]
theorem any_ok(p:Nat):DX (M.DW (cS s p).1 (cS s p).2.1 (cS s p).2.2) s 500:=by
 have hm:=Nat.mod_lt (s.g p) (show 0<5 by omega);have e5:=oH h p 5 ak ak;rw[show((5:Nat):Int)=5 from rfl] at e5;simp only[M.DW,M.Vr];rw[e5,ah];obtain⟨t1,q1,f1,z1,i1⟩:=aGW h (p+1);obtain⟨t2,f2,z2,i2⟩:=aGU h (deep:=2) ak ak (p+1);have b2:=aoO (g:=s.g) (p+1);rw[show(2:Int).toNat=2 from rfl] at f2 z2;obtain⟨t3,q3,f3,z3,i3⟩:=akO h (p+1);simp only[f1,f2,f3,ah];cases((s.g p % 5:Nat):Int)==0 with
 |true=>exact⟨t1,q1,rfl,ak,i1⟩
 |false=>cases((s.g p % 5:Nat):Int)==1 with
  |true=>exact⟨t1,q1,rfl,ak,i1⟩
  |false=>cases((s.g p % 5:Nat):Int)==2 with
   |true=>exact⟨t2,_,rfl,ak,i2⟩
   |false=>exact⟨t3,q3,rfl,ak,i3⟩
end
def aLm(c:aA)(hc:c.length<=1048576):∃h,M.J5 (c.map byteRow)=some (c.map byteRow,0,h):=by
 have key:∀(n i:Nat) (h:Int),c.length - i=n->∃t,dU (M.Ii (c.map byteRow)) (h,(i:Int))=some t:=by
  intro n;induction n with
  |zero=>intro i h hi;refine⟨(h,(i:Int)),bP ?_⟩;simp only[M.Ii,M.Ba,zaP];rw[rH ak,bg]
  |succ n ih=>
   intro i h hi
   by_cases h4:i<4000
   ·obtain⟨b,hb⟩:∃b,c[i]? =some b:=⟨c[i],by simp⟩
    have hr:idx (c.map byteRow) (i:Int)=some (byteRow b):=by rw[bC,List.getElem?_map,hb];rfl
    have hcI:bM .u8 (byteRow b) 0=some (b.toNat:Int):=rfl;obtain⟨t,ht⟩:=ih (i+1) _ ak;refine⟨t, ?_⟩;rw[<-ht];apply dN;simp only[M.Ii,M.Ba,zaP];rw[zdt ak,aK,zdt ak,aK,hr,ah,hcI,ah,aB (n:=(i:Int)+1) ak ak];rfl
   ·refine⟨(h,(i:Int)),bP ?_⟩;simp only[M.Ii,M.Ba,zaP];rw[zdt ak,aK,rH ak,bg]
 obtain⟨t,ht⟩:=key c.length 0 (i64.wrap (10101+(((c.map byteRow).length:Nat):Int))) ak;refine⟨t.fst, ?_⟩;simp only[M.J5,M.Vl];rw[show M.Tj (c.map byteRow) (i64.wrap (10101+(((c.map byteRow).length:Nat):Int)),0)=some t from ht,ah]
structure BtN(n:Nd):Prop where
 kids:n.kids.length<=501
 ints:∀e,e∈n.kids-> -1000000<=e/\e<=1000000
 fine:aIP n
structure Bt(l:List Nd):Prop where
 len:l.length<=1000
 all:∀n,n∈l->BtN n
def ar8{t:Tn}(hs:t.size<=500)(hf:P5 t):∀n,n∈t.flat 0->BtN n/\n.kids.length<=500:=by intro n hn;obtain⟨h1,h2⟩:=Yk t 0 n hn;exact⟨⟨ak,λe he=>by have:=h2 e he;omega,hf 0 n hn⟩,ak⟩
def aoS{t:Tn}(hs:t.size<=500)(hf:P5 t):Bt (t.flat 0):=⟨by rw[t.flat_length];omega,λn hn=>(ar8 hs hf n hn).1⟩
def Bt.set{l:List Nd}(h:Bt l){i:Nat}{n:Nd}(hn:BtN n):Bt (l.set i n):=⟨by rw[List.length_set];exact h.len,λm hm=>by
 rcases List.mem_or_eq_of_mem_set hm with hm|rfl
 ·exact h.all m hm
 ·exact hn⟩
def aB2(n:Nd):aoY 1 (NU true n) 4=some (encI n.kids):=rfl
def aoT(o:Bool)(n:Nd)(k:List Int):splice (NU o n) 4 [D.sl o 1 (encI k)]=NU o {n with kids:=k}:=rfl
def Tc(o:Bool)(l:List Nd)(i:Nat)(n:Nd):(aZ o l).set i (NU o n)=aZ o (l.set i n):=by simp[aZ,List.map_set]
structure Few(l:List Nd):Prop where
 len:l.length<=1000
 kids:∀n,n∈l->n.kids.length<=501
def Bt.few{l:List Nd}(h:Bt l):Few l:=⟨h.len,λn hn=>(h.all n hn).kids⟩
def aGX(o:Bool)(n:Nd)(x:aA):splice (NU o n) 2 [D.str x]=NU o {n with text:=x}:=rfl
def DB(m:Option (Bool×au×au×Int×Int))(s:Cu):Prop:=∃(b o:Bool) (l:List Nd) (q:Nat),m=some (b,aZ o l,cS s q)/\Bt l
section
variable {s:Cu} (h:aaP s)
include h
theorem aGY(p:Nat):DB (M.Gp (cS s p).1 (cS s p).2.1 (cS s p).2.2) s:=by
 obtain⟨t,q,f1,z1,i1⟩:=any_ok h p;have hlen:(aZ true (t.flat 0)).length=t.size:=by rw[fO,t.flat_length]
 have hpos:=t.size_pos;obtain⟨k,q1,f2,_,_,k0,k1⟩:=afe h q (t.size:Int) ak;have hk:k<t.size:=ak;obtain⟨i,rfl⟩:=Int.eq_ofNat_of_zero_le k0;have hi:i<t.size:=ak;have e12:=oH h q1 12 ak ak;rw[show((12:Nat):Int)=12 from rfl] at e12;have hb:=aoS z1 i1;have hil:i<(t.flat 0).length:=by rw[t.flat_length];exact hi
 obtain⟨n,hn⟩:∃n,(t.flat 0)[i]? =some n:=⟨(t.flat 0)[i],by simp[hil]⟩
 have hnb:=ar8 z1 i1 n (AU hn);have hset:(t.flat 0).set i {n with kids:=n.kids}=t.flat 0:=by obtain⟨_,rfl⟩:=PN.1 hn;exact List.set_getElem_self hil
 simp only[jU,M.Gp,M.TG];rw[f1,ah];simp only[hlen];rw[f2,ah];simp only;rw[e12,ah];simp only;cases c0:((s.g q1 % 12:Nat):Int)==0 with
 |true=>
  rw[aK,X8];refine⟨false,false,(t.flat 0).take i,q1+1, ?_,by have:=hb.len;rw[VF];omega,λm hm=>hb.all m (List.mem_of_mem_take hm)⟩;have:cut (aZ false (t.flat 0)) 0 (i:Int)=some (aZ false ((t.flat 0).take i)):=by unfold cut;rw[fO,t.flat_length,zdt ak,zdt ak,zdt ak];simp[aZ,List.map_take]
  rw[this,ah]
 |false=>
  rw[bg];cases c1:((s.g q1 % 12:Nat):Int)==1 with
  |true=>
   have hrb:Yu iB [[D.int .i64 (-1)],[D.int .i64 (i:Int)],[D.int .i64 0],[D.int .i64 99]]=true:=by simp only[Yu,iB,List.all_cons,List.all_nil,Bool.and_true,xw,decide_eq_true_eq,mQ,uH];refine⟨⟨⟨ak,ak⟩,⟨ak,ak⟩,⟨ak,ak⟩,⟨ak,ak⟩⟩,by decide,by decide⟩
   have epk:=UM h (q1+1) _ hrb;have hpk:=MW hrb (s.g (q1+1));simp only[aK,bC,VO,kZ,hn,Oa,ah,aB2,zB,epk];generalize pkI [[D.int .i64 (-1)],[D.int .i64 (i:Int)],[D.int .i64 0],[D.int .i64 99]] (s.g (q1+1))=w at hpk;have hl:=hnb.2;rw[show encI n.kids++[[D.int IntKind.i64 w]]=encI (n.kids++[w]) from by simp[encI],zB,aK,aoT,Tc,bf];rw[aS (by simp;omega),aK,aS (by simp;omega),aK,show(i.beq i)=true from Nat.beq_refl i];refine⟨true,true,(t.flat 0).set i {n with kids:=n.kids++[w]},q1+1+1,rfl,hb.set ⟨by simp;omega,λe he=> ?_,hnb.1.fine⟩⟩;rcases List.mem_append.1 he with he|he
   ·exact hnb.1.ints e he
   ·rw[List.mem_singleton.1 he];omega
  |false=>
   rw[bg];cases c2:((s.g q1 % 12:Nat):Int)==2 with
   |true=>
    simp only[aK,bC,VO,kZ,hn,Oa,ah,aB2,zB,aoT,Tc,hset,bf];cases hk:n.kids with
    |nil=>
     refine⟨true,true,t.flat 0,q1+1, ?_,hb⟩;have e0:(t.flat 0).set i {n with kids:=[]}=t.flat 0:=by rw[<-hk];exact hset
     rfl
    |cons x xs=>
     have e0:(t.flat 0).set i {n with kids:=x::xs}=t.flat 0:=by rw[<-hk];exact hset
     obtain⟨j,q2,f3,_,_,j0,j1⟩:=afe h (q1+1) ((i:Int)+1) ak;have w1:i64.wrap ((i:Int)+1)=(i:Int)+1:=aB ak ak;have w2:i64.wrap (j - 1)=j - 1:=aB ak ak;have hx0:idx (encI (x::xs)) 0=some [D.int .i64 x]:=rfl;have hx1:(encI (x::xs))[0]? =some [D.int .i64 x]:=rfl;have hx2:(encI (x::xs)).set 0 (splice [D.int .i64 x] 0 [D.int .i64 (j - 1)])=encI ((j - 1)::xs):=rfl;rw[zdt (by simp),aK];simp only[w1,f3,ah,w2,e0,hn,kZ,Oa,hk,hx0,hx1,hx2,zB,aK,aB2,aoT,Tc,hset];refine⟨true,true,(t.flat 0).set i {n with kids:=(j - 1)::xs},q2,rfl,hb.set ⟨?_,λe he=> ?_,hnb.1.fine⟩⟩
     ·have:=hnb.2;rw[hk] at this;simp only[mQ] at this|-;omega
     ·rcases List.mem_cons.1 he with rfl|he
      ·omega
      ·exact hnb.1.ints e (by rw[hk];exact zmm _ he)
   |false=>
    rw[bg];cases c3:((s.g q1 % 12:Nat):Int)==3 with
    |true=>
     rw[aK,aS ak,aS ak];refine⟨false,false,t.flat 0++t.flat 0,q1+1, ?_, ?_,λm hm=> ?_⟩
     ·rw[Bool.and_true,aK,X8,VA]
     ·rw[rJ,t.flat_length];omega
     ·rcases List.mem_append.1 hm with hm|hm<;>exact hb.all m hm
    |false=>exact⟨true,true,t.flat 0,q1+1,rfl,hb⟩
end
def aLn{c:aA}(hc:c.length<=1048576)(h:Int):aaP ⟨c,0,h⟩:=⟨Nat.zero_le _,hc⟩
def setKind(o:Bool)(n:Nd)(v:Int):splice (NU o n) 0 [D.int .i64 v]=NU o {n with kind:=v}:=rfl
def aYw(o:Bool)(n:Nd)(v:Int):splice (NU o n) 1 [D.int .i64 v]=NU o {n with op:=v}:=rfl
def setOther(o:Bool)(n:Nd)(x:aA):splice (NU o n) 3 [D.str x]=NU o {n with other:=x}:=rfl
section
variable {s:Cu} (h:aaP s)
include h
theorem aw1(p:Nat):DB (M.yY (cS s p).1 (cS s p).2.1 (cS s p).2.2) s:=by
 obtain⟨t,q,f1,z1,i1⟩:=any_ok h p;have hlen:(aZ true (t.flat 0)).length=t.size:=by rw[fO,t.flat_length]
 have hpos:=t.size_pos;obtain⟨k,q1,f2,_,_,k0,k1⟩:=afe h q (t.size:Int) ak;have hk:k<t.size:=ak;obtain⟨i,rfl⟩:=Int.eq_ofNat_of_zero_le k0;have hi:i<t.size:=ak;have e14:=oH h q1 14 ak ak;rw[show((14:Nat):Int)=14 from rfl] at e14;have e47:=oH h (q1+1) 47 ak ak;rw[show((47:Nat):Int)=47 from rfl] at e47;have a8K:=Nat.mod_lt (s.g (q1+1)) (show 0<47 by omega);have a7V:(-1000:Int)<=((s.g (q1+1) % 47:Nat):Int)/\((s.g (q1+1) % 47:Nat):Int)<=1000:=ak;have hb:=aoS z1 i1;have hil:i<(t.flat 0).length:=by rw[t.flat_length];exact hi
 obtain⟨n,hn⟩:∃n,(t.flat 0)[i]? =some n:=⟨(t.flat 0)[i],by simp[hil]⟩
 have hnb:=hb.all n (AU hn);have aee:=hnb.fine;simp only[M.yY,M.Ol];rw[f1,ah];simp only[hlen];rw[f2,ah];simp only;rw[e14,ah];simp only;cases c0:((s.g q1 % 14:Nat):Int)==0 with
 |true=>simp only[aK,e47,bC,VO,kZ,hn,Oa,ah,setKind,Tc];exact⟨true,true,_,_,rfl,hb.set ⟨hnb.kids,hnb.ints,⟨a7V,aee.2⟩⟩⟩
 |false=>
  rw[bg];cases c1:((s.g q1 % 14:Nat):Int)==1 with
  |true=>
   have hrb:Yu iB [[D.int .i64 0],[D.int .i64 1],[D.int .i64 56],[D.int .i64 99],[D.int .i64 54],[D.int .i64 51],[D.int .i64 (-1)]]=true:=by decide
   have epk:=UM h (q1+1) _ hrb;have hpk:=MW hrb (s.g (q1+1));simp only[aK,epk,bC,VO,kZ,hn,Oa,ah,aYw,Tc];exact⟨true,true,_,_,rfl,hb.set ⟨hnb.kids,hnb.ints,⟨aee.1,hpk,aee.2.2⟩⟩⟩
  |false=>
   rw[bg];cases c2:((s.g q1 % 14:Nat):Int)==2 with
   |true=>
    have hrb:Yu sB [[D.str []],[D.str [120]],[D.str [105,102]],[D.str [108,101,110,103,116,104]],[D.str [49]],[D.str [47]]]=true:=by decide
    have epk:=RY h (q1+1) _ hrb;have hpk:=F7 hrb (s.g (q1+1));simp only[aK,epk,bC,VO,kZ,hn,Oa,ah,aGX,Tc];exact⟨true,true,_,_,rfl,hb.set ⟨hnb.kids,hnb.ints,⟨aee.1,aee.2.1,hpk,aee.2.2.2⟩⟩⟩
   |false=>
    rw[bg];cases c3:((s.g q1 % 14:Nat):Int)==3 with
    |true=>
     have hrb:Yu sB [[D.str []],[D.str [62]],[D.str [120]]]=true:=by decide
     have epk:=RY h (q1+1) _ hrb;have hpk:=F7 hrb (s.g (q1+1));simp only[aK,epk,bC,VO,kZ,hn,Oa,ah,setOther,Tc];exact⟨true,true,_,_,rfl,hb.set ⟨hnb.kids,hnb.ints,⟨aee.1,aee.2.1,aee.2.2.1,hpk⟩⟩⟩
    |false=>
     rw[bg];cases c4:((s.g q1 % 14:Nat):Int)==4 with
     |true=>obtain⟨b,o,l,q2,f5,hl⟩:=aGY h (q1+1);rw[aK,f5,ah];simp only[X8];exact⟨false,false,l,q2,rfl,hl⟩
     |false=>exact⟨true,true,t.flat 0,q1+1,rfl,hb⟩
end
def jB:Row->Bool
 |[.int .i64 n]=>decide (-100000<=n) && decide (n<=100000)
 |_=>false
def aB3{s:Cu}(h:aaP s)(p:Nat)(rows:au)(hr:Yu jB rows=true):∃w:Int,M.fP rows (cS s p).1 (cS s p).2.1 (cS s p).2.2=some (w,cS s (p+1))/\ -100000<=w/\w<=100000:=by
 obtain⟨r,h1,h2,h3,h4⟩:=aaQ hr (s.g p);simp only[M.fP,M.EU];rw[oH h p rows.length h3 h4,ah];simp only[bC,h1,ah];unfold jB at h2;split at h2
 ·rename_i n;simp only[xw,decide_eq_true_eq] at h2;exact⟨n,rfl,h2.1,h2.2⟩
 ·cases h2
def anv:au:=[[D.int .i64 0],[D.int .i64 1],[D.int .i64 8],[D.int .i64 15],[D.int .i64 20],[D.int .i64 30],[D.int .i64 40],[D.int .i64 60],[D.int .i64 80],[D.int .i64 80],[D.int .i64 10000],[D.int .i64 10001],[D.int .i64 (-1)],[D.int .i64 25],[D.int .i64 10]]
def aoU:Yu jB anv=true:=by decide
def aB4:∀{l:List Nd},(∀n,n∈l->n.kids.length<=501)->wK l<=505 * l.length
 |[],_=>by simp[wK]
 |n::l,h=>by
  have:=aB4 (l:=l) λm hm=>h m (by simp[hm])
  have:=h n (by simp);rw[wK,mQ];omega
def Bt.ok{l:List Nd}(h:Bt l):Ok l:=by
 have hl:=h.len;have hw:=aB4 λn hn=>(h.all n hn).kids
 refine⟨ak,λn hn=> ?_,λn hn=> ?_,ak⟩
 ·have hb:=h.all n hn;have:=hb.kids;exact⟨ak,λe he=>by have:=hb.ints e he;constructor<;>omega⟩
 ·have hb:=(h.all n hn).fine;have h1:n.text.length<=100:=hb.2.2.1;have h2:n.other.length<=100:=hb.2.2.2;exact⟨ak,ak⟩
def kc(l:List Nd)(k:Int):Nat:=l.countP λn=>n.kind==k
def aGZ{l:List Nd}{j:Nat}{n:Nd}(h:l[j]? =some n)(k:Int):kc (l.take (j+1)) k=kc (l.take j) k+(bif n.kind==k then 1 else 0):=by rw[fV h,kc,List.countP_append,kc];cases hk:n.kind==k<;>simp[hk]
def aYx(l:List Nd)(k:Int):kc l k<=l.length:=List.countP_le_length
def aoV(l:List Nd)(o:Bool)(k:Int)(hl:l.length<=1048576):M.wU (aZ o l) k=some (kc l k:Int):=by
 have hloop:=ji (b:=M.EK (aZ o l) k) (t:=((kc l k:Int),(l.length:Int))) (λj=>((kc (l.take j) k:Int),(j:Int))) l.length
  (by
   intro j hj;obtain⟨n,hn⟩:∃n,l[j]? =some n:=⟨l[j],by simp[hj]⟩
   have h1:=aYx (l.take j) k;rw[VF] at h1;have hw1:i64.wrap ((kc (l.take j) k:Int)+1)=(kc (l.take j) k:Int)+1:=aB ak ak;have hw:i64.wrap ((j:Int)+1)=((j+1:Nat):Int):=by rw[aB ak ak];omega
   simp only[M.EK,M.yD,fO,bC,kZ,hn,Oa,ah,Nw,hw,hw1];rw[zdt ak,aK,aGZ hn];cases n.kind==k<;>rfl)
  (by simp only[M.EK,M.yD,fO];rw[rH ak,bg,List.take_length]) 0 (Nat.zero_le _)
 have h:M.JI (aZ o l) k (0,0)=some ((kc l k:Int),(l.length:Int)):=hloop;simp only[M.wU,M.MR,h,ah]
def aoW(c:aA)(hc:c.length<=1048576):∃(b o:Bool) (l:List Nd) (w:Int),M.wI (c.map byteRow)=some (b,aZ o l,w)/\Bt l:=by
 obtain⟨h,e⟩:=aLm c hc;have hc':=aLn hc h;obtain⟨t,q,f,z,i⟩:=akO hc' 0;have f':M.oL (c.map byteRow) 0 h=_:=f;have eo:=Zb hc' q 8 ak ak;rw[show((8:Nat):Int)=8 from rfl] at eo;have wid:∀p,∃(w:Int) (q:Nat),M.vM (cS ⟨c,0,h⟩ p).1 (cS ⟨c,0,h⟩ p).2.1 (cS ⟨c,0,h⟩ p).2.2=some (w,cS ⟨c,0,h⟩ q):=by intro p;obtain⟨w,hw,_⟩:=aB3 hc' p anv aoU;refine⟨w,p+1, ?_⟩;simp only[M.vM,M.Om];have hw':M.fP [[D.int .i64 0],[D.int .i64 1],[D.int .i64 8],[D.int .i64 15],[D.int .i64 20],[D.int .i64 30],[D.int .i64 40],[D.int .i64 60],[D.int .i64 80],[D.int .i64 80],[D.int .i64 10000],[D.int .i64 10001],[D.int .i64 (-1)],[D.int .i64 25],[D.int .i64 10]] (cS ⟨c,0,h⟩ p).1 (cS ⟨c,0,h⟩ p).2.1 (cS ⟨c,0,h⟩ p).2.2=_:=hw;rw[hw',ah]
 simp only[M.wI,M.Ls,e,ah,f',eo];cases(Cu.g ⟨c,0,h⟩ q % 8==0) with
 |true=>obtain⟨b,o,l,q2,f2,hl⟩:=aw1 hc' (q+1);obtain⟨w,q3,f3⟩:=wid q2;simp only[aK,f2,ah,f3,X8];exact⟨_,_,_,w,rfl,hl⟩
 |false=>obtain⟨w,q3,f3⟩:=wid (q+1);simp only[bg,f3,ah];exact⟨true,true,t.flat 0,w,rfl,aoS ak i⟩
def aB5{l:List Nd}(hl:l.length<=1048576)(s:aA)(a:List (aA))(ha:a.length<=1048576)(hs:∀x,x∈a->x.length<=1048576)(h0:∀x,x∈a->xA p0 false x=true)(h1:kc l 34=0->∀x,x∈a->xA p1 false x=true):
  M.Ic (aZ false l) s (encS a) 0=some (.inr (a.length:Int)):=by
 exact ji (b:=M.Dt (aZ false l) s (encS a)) (t:=.inr (a.length:Int)) (λi=>(i:Int)) a.length
  (by
   intro i hi;obtain⟨x,hx⟩:∃x,a[i]? =some x:=⟨a[i],by simp⟩
   have hm:=AU hx;have hxl:=hs x hm;obtain⟨y,hy⟩:∃y,x.getLast? =some y:=by
    have:=h0 x hm;unfold xA at this;cases hg:x.getLast? with
    |none=>rw[hg] at this;cases this
    |some y=>exact⟨y,rfl⟩
   have hpos:0<x.length:=by
    cases x with
    |nil=>cases hy
    |cons=>simp
   have hlast:x[x.length - 1]? =some y:=by rw[<-List.getLast?_eq_getElem?];exact hy
   have hw:i64.wrap ((i:Int)+1)=((i+1:Nat):Int):=by rw[aB ak ak];omega
   have hn:i64.wrap ((x.length:Int) - 1)=((x.length - 1:Nat):Int):=by rw[aB ak ak];omega
   have hk:=aoV l false 34 hl;have hy1:kc l 34=0->((y.toNat:Int)==32)=false:=by intro h;have h2:=h1 h x hm;unfold xA at h2;rw[hy] at h2;rw[II];intro e;have:y=32:=UInt8.toNat_inj.1 (by rw[show(32:UInt8).toNat=32 from rfl];omega);rw[this] at h2;cases h2
   have e0:((x.length:Int)==0)=false:=by rw[II];omega
   simp only[M.Dt,M.xq,zu,bC,VO,WG,hx,Oa,ah,cS0,hw,hn,hlast,e0,hk];rw[zdt ak,aK,bg];cases hb:(y.toNat:Int)==32 with
   |false=>rw[bg]
   |true=>
    have:((kc l 34:Int)==0)=false:=by rw[II];intro h;rw[hy1 ak] at hb;cases hb
    rw[aK,this,bg])
  (by simp only[M.Dt,M.xq,zu];rw[rH ak,bg]) 0 (Nat.zero_le _)
def aG0{l:List Nd}{k:Int}(h:kc l k=0):∀n,n∈l->n.kind≠k:=by intro n hn e;unfold kc at h;rw[List.countP_eq_zero] at h;exact absurd (by simp[e]) (h n hn)
def afg:∀s:aA,∀x,x∈jV s->x.length<=s.length
 |[],x,h=>by simp[jV] at h;simp[h]
 |c::l,x,h=>by
  have ih:=afg l;rw[jV] at h;rw[mQ]
  by_cases hc:c=10
  ·rw[if_pos hc] at h;rcases List.mem_cons.1 h with rfl|h
   ·simp
   ·have:=ih x h;omega
  ·rw[if_neg hc] at h;cases hs:jV l with
   |nil=>exact absurd hs (KY l)
   |cons a t=>
    rw[hs] at h ih;simp only[UK] at h;rcases List.mem_cons.1 h with rfl|h
    ·have:=ih a (by simp);simp only[rJ,mQ,uH];omega
    ·have:=ih x (by simp[h]);omega
def aw2{s:aA}{x:aA}(h:x∈RV s):x.length<=s.length:=by
 unfold RV at h;split at h
 ·exact afg s x (List.dropLast_subset _ h)
 ·exact afg s x h
def ar9(c:aA):M.zW (c.map byteRow)=some true:=by
 simp only[M.zW,M.MS,M.Wh,M.YR,ah,zaP]
 by_cases hc:c.length<=1048576
 ·rw[rH ak,bg];obtain⟨b,o,l,w,h1,hl⟩:=aoW c hc;have hok:=hl.ok;rw[h1,ah];simp only[X8];rcases aGL hok w with⟨h2,h3⟩|⟨T,rfl,pa,hP,hd,hlen,h2,h3⟩
  ·rw[h3,ah,h2,ah];rfl
  ·rw[h3,ah,h2,ah]
   by_cases hk:T.kids=[]
   ·rw[awV hk w];rfl
   ·obtain⟨a,ha⟩:=anj hk w;have hne:(xK T w==[])=false:=by rw[II,ha];simp
    have hT:=hP.sz;have hks:=T.uf;have hsk:=jr T.kids;have hr:=U5 (o:=false) (Lies.whole T);have hla:i64.wrap (((aZ false (T.flat 0)).length:Int) - 1)=((0+sizes T.kids:Nat):Int):=by rw[fO,T.flat_length,aB ak ak];omega
    have hlo:=ag4 (xK T w) ak;have hl0:=ar1 hP hd hk aIO rfl (arZ pa hok.sm) w;have hll:=arM (xK T w);have hlp:=aB5 (l:=T.flat 0) (by rw[T.flat_length];exact hT) (xK T w) (RV (xK T w)) ak (λx hx=>by have:=aw2 hx;omega) hl0.1
     (λh=>(ar1 hP hd hk good1 rfl (ar0 pa hok.sm (aG0 h)) w).1)
    have hz:(xK T w)[(xK T w).length - 1]? =some 10:=by rw[ha];simp
    have hw:i64.wrap (((xK T w).length:Int) - 1)=(((xK T w).length - 1:Nat):Int):=by
     have:0<(xK T w).length:=by rw[ha];simp
     rw[aB ak ak];omega
    simp only[hne,hlo,hlp,ah,rO,letE,hw,bC,hz,hla,hr,JM,bf,eH,zu,bg,zaN,bne_self_eq_false,BEq.rfl];rw[show((((10:UInt8).toNat:Nat):Int)==10)=true from rfl,aK,zdt (by have:=hl0.2;omega)]
 ·rw[zdt ak,aK]
end Go.Proofs.YtmeggnejljdlfaaGreatDoor
namespace Go.Proofs
open Go.Shelf
def Tryz.lays156_ren:Go.Shelf.Ren:=⟨fun|156=>95|165=>137|166=>138|169=>139|240=>175|241=>176|276=>210|277=>211|n=>n,fun|31=>29|9=>9|3=>3|4=>4|0=>0|20=>20|72=>143|76=>146|70=>141|37=>22|75=>145|127=>166|164=>194|5=>5|80=>148|n=>n,fun|n=>n⟩
def Tryz.lays156:Go.Proofs.Lays.n156 Tryz.prog Tryz.lays156_ren:={
 mixed:=by kernel_rfl
 f156:=Tryz.func95.trans (congrArg some (by kernel_rfl))
 f165:=Tryz.func137.trans (congrArg some (by kernel_rfl))
 f166:=Tryz.func138.trans (congrArg some (by kernel_rfl))
 f169:=Tryz.func139.trans (congrArg some (by kernel_rfl))
 f240:=Tryz.func175.trans (congrArg some (by kernel_rfl))
 f241:=Tryz.func176.trans (congrArg some (by kernel_rfl))
 f276:=Tryz.func210.trans (congrArg some (by kernel_rfl))
 f277:=Tryz.func211.trans (congrArg some (by kernel_rfl))
 t0:=Tryz.underlying0
 a0:=Tryz.isAgg0
 z0:=Tryz.sizeOf0
 v0:=Tryz.zeroValue0
 t3:=Tryz.underlying3
 a3:=Tryz.isAgg3
 z3:=Tryz.sizeOf3
 v3:=Tryz.zeroValue3
 t4:=Tryz.underlying4
 a4:=Tryz.isAgg4
 z4:=Tryz.sizeOf4
 v4:=Tryz.zeroValue4
 t9:=Tryz.underlying9
 a9:=Tryz.isAgg9
 z9:=Tryz.sizeOf9
 v9:=Tryz.zeroValue9
 t20:=Tryz.underlying20
 a20:=Tryz.isAgg20
 z20:=Tryz.sizeOf20
 v20:=Tryz.zeroValue20
 t31:=Tryz.underlying29
 a31:=Tryz.isAgg29
 z31:=Tryz.sizeOf29
 v31:=Tryz.zeroValue29
 t37:=Tryz.underlying22
 a37:=Tryz.isAgg22
 z37:=Tryz.sizeOf22
 v37:=Tryz.zeroValue22
 t70:=Tryz.underlying141
 a70:=Tryz.isAgg141
 z70:=Tryz.sizeOf141
 v70:=Tryz.zeroValue141
 t72:=Tryz.underlying143
 a72:=Tryz.isAgg143
 z72:=Tryz.sizeOf143
 v72:=Tryz.zeroValue143
 t75:=Tryz.underlying145
 a75:=Tryz.isAgg145
 z75:=Tryz.sizeOf145
 v75:=Tryz.zeroValue145
 t76:=Tryz.underlying146
 a76:=Tryz.isAgg146
 z76:=Tryz.sizeOf146
 v76:=Tryz.zeroValue146
 t127:=Tryz.underlying166
 a127:=Tryz.isAgg166
 z127:=Tryz.sizeOf166
 v127:=Tryz.zeroValue166
 t164:=Tryz.underlying194
 a164:=Tryz.isAgg194
 z164:=Tryz.sizeOf194
 v164:=Tryz.zeroValue194}
def Tryz.lays144_ren:Go.Shelf.Ren:=⟨fun|144=>124|143=>77|219=>120|217=>157|225=>158|224=>159|267=>160|266=>193|314=>194|n=>n,fun|9=>9|4=>4|3=>3|5=>5|46=>102|146=>183|51=>182|n=>n,fun|1=>0|n=>n⟩
def Tryz.lays144:Go.Proofs.Lays.n144 Tryz.prog Tryz.lays144_ren:={
 mixed:=by kernel_rfl
 f143:=Tryz.func77.trans (congrArg some (by kernel_rfl))
 f144:=Tryz.func124.trans (congrArg some (by kernel_rfl))
 f217:=Tryz.func157.trans (congrArg some (by kernel_rfl))
 f219:=Tryz.func120.trans (congrArg some (by kernel_rfl))
 f224:=Tryz.func159.trans (congrArg some (by kernel_rfl))
 f225:=Tryz.func158.trans (congrArg some (by kernel_rfl))
 f266:=Tryz.func193.trans (congrArg some (by kernel_rfl))
 f267:=Tryz.func160.trans (congrArg some (by kernel_rfl))
 f314:=Tryz.func194.trans (congrArg some (by kernel_rfl))
 t3:=Tryz.underlying3
 a3:=Tryz.isAgg3
 z3:=Tryz.sizeOf3
 v3:=Tryz.zeroValue3
 t4:=Tryz.underlying4
 a4:=Tryz.isAgg4
 z4:=Tryz.sizeOf4
 v4:=Tryz.zeroValue4
 t5:=Tryz.underlying5
 a5:=Tryz.isAgg5
 z5:=Tryz.sizeOf5
 v5:=Tryz.zeroValue5
 t9:=Tryz.underlying9
 a9:=Tryz.isAgg9
 z9:=Tryz.sizeOf9
 v9:=Tryz.zeroValue9
 t46:=Tryz.underlying102
 a46:=Tryz.isAgg102
 z46:=Tryz.sizeOf102
 v46:=Tryz.zeroValue102
 t51:=Tryz.underlying182
 a51:=Tryz.isAgg182
 z51:=Tryz.sizeOf182
 v51:=Tryz.zeroValue182
 t146:=Tryz.underlying183
 a146:=Tryz.isAgg183
 z146:=Tryz.sizeOf183
 v146:=Tryz.zeroValue183
 g1:=by kernel_rfl}
def Tryz.lays146_ren:Go.Shelf.Ren:=⟨fun|146=>19|221=>39|268=>75|138=>76|143=>77|195=>117|197=>118|218=>119|219=>120|260=>156|217=>157|225=>158|224=>159|267=>160|266=>193|314=>194|n=>n,fun|9=>9|31=>29|3=>3|4=>4|0=>0|105=>129|21=>21|5=>5|46=>102|119=>178|139=>181|138=>180|146=>183|51=>182|n=>n,fun|1=>0|3=>1|4=>2|n=>n⟩
def Tryz.lays146:Go.Proofs.Lays.n146 Tryz.prog Tryz.lays146_ren:={
 mixed:=by kernel_rfl
 f138:=Tryz.func76.trans (congrArg some (by kernel_rfl))
 f143:=Tryz.func77.trans (congrArg some (by kernel_rfl))
 f146:=Tryz.func19.trans (congrArg some (by kernel_rfl))
 f195:=Tryz.func117.trans (congrArg some (by kernel_rfl))
 f197:=Tryz.func118.trans (congrArg some (by kernel_rfl))
 f217:=Tryz.func157.trans (congrArg some (by kernel_rfl))
 f218:=Tryz.func119.trans (congrArg some (by kernel_rfl))
 f219:=Tryz.func120.trans (congrArg some (by kernel_rfl))
 f221:=Tryz.func39.trans (congrArg some (by kernel_rfl))
 f224:=Tryz.func159.trans (congrArg some (by kernel_rfl))
 f225:=Tryz.func158.trans (congrArg some (by kernel_rfl))
 f260:=Tryz.func156.trans (congrArg some (by kernel_rfl))
 f266:=Tryz.func193.trans (congrArg some (by kernel_rfl))
 f267:=Tryz.func160.trans (congrArg some (by kernel_rfl))
 f268:=Tryz.func75.trans (congrArg some (by kernel_rfl))
 f314:=Tryz.func194.trans (congrArg some (by kernel_rfl))
 t0:=Tryz.underlying0
 a0:=Tryz.isAgg0
 z0:=Tryz.sizeOf0
 v0:=Tryz.zeroValue0
 t3:=Tryz.underlying3
 a3:=Tryz.isAgg3
 z3:=Tryz.sizeOf3
 v3:=Tryz.zeroValue3
 t4:=Tryz.underlying4
 a4:=Tryz.isAgg4
 z4:=Tryz.sizeOf4
 v4:=Tryz.zeroValue4
 t5:=Tryz.underlying5
 a5:=Tryz.isAgg5
 z5:=Tryz.sizeOf5
 v5:=Tryz.zeroValue5
 t9:=Tryz.underlying9
 a9:=Tryz.isAgg9
 z9:=Tryz.sizeOf9
 v9:=Tryz.zeroValue9
 t21:=Tryz.underlying21
 a21:=Tryz.isAgg21
 z21:=Tryz.sizeOf21
 v21:=Tryz.zeroValue21
 t31:=Tryz.underlying29
 a31:=Tryz.isAgg29
 z31:=Tryz.sizeOf29
 v31:=Tryz.zeroValue29
 t46:=Tryz.underlying102
 a46:=Tryz.isAgg102
 z46:=Tryz.sizeOf102
 v46:=Tryz.zeroValue102
 t51:=Tryz.underlying182
 a51:=Tryz.isAgg182
 z51:=Tryz.sizeOf182
 v51:=Tryz.zeroValue182
 t105:=Tryz.underlying129
 a105:=Tryz.isAgg129
 z105:=Tryz.sizeOf129
 v105:=Tryz.zeroValue129
 t119:=Tryz.underlying178
 a119:=Tryz.isAgg178
 z119:=Tryz.sizeOf178
 t138:=Tryz.underlying180
 a138:=Tryz.isAgg180
 z138:=Tryz.sizeOf180
 v138:=Tryz.zeroValue180
 t139:=Tryz.underlying181
 a139:=Tryz.isAgg181
 z139:=Tryz.sizeOf181
 v139:=Tryz.zeroValue181
 t146:=Tryz.underlying183
 a146:=Tryz.isAgg183
 z146:=Tryz.sizeOf183
 v146:=Tryz.zeroValue183
 g1:=by kernel_rfl
 g3:=by kernel_rfl
 g4:=by kernel_rfl}
def Tryz.lays105_ren:Go.Shelf.Ren:=⟨fun|105=>125|212=>161|99=>162|165=>137|166=>138|170=>163|169=>139|263=>195|264=>196|206=>197|240=>175|241=>176|276=>210|277=>211|n=>n,fun|9=>9|3=>3|4=>4|20=>20|0=>0|46=>102|109=>155|5=>5|72=>143|76=>146|51=>182|146=>183|53=>186|148=>187|70=>141|37=>22|75=>145|127=>166|164=>194|80=>148|n=>n,fun|n=>n⟩
def Tryz.lays105:Go.Proofs.Lays.n105 Tryz.prog Tryz.lays105_ren:={
 mixed:=by kernel_rfl
 f99:=Tryz.func162.trans (congrArg some (by kernel_rfl))
 f105:=Tryz.func125.trans (congrArg some (by kernel_rfl))
 f165:=Tryz.func137.trans (congrArg some (by kernel_rfl))
 f166:=Tryz.func138.trans (congrArg some (by kernel_rfl))
 f169:=Tryz.func139.trans (congrArg some (by kernel_rfl))
 f170:=Tryz.func163.trans (congrArg some (by kernel_rfl))
 f206:=Tryz.func197.trans (congrArg some (by kernel_rfl))
 f212:=Tryz.func161.trans (congrArg some (by kernel_rfl))
 f240:=Tryz.func175.trans (congrArg some (by kernel_rfl))
 f241:=Tryz.func176.trans (congrArg some (by kernel_rfl))
 f263:=Tryz.func195.trans (congrArg some (by kernel_rfl))
 f264:=Tryz.func196.trans (congrArg some (by kernel_rfl))
 f276:=Tryz.func210.trans (congrArg some (by kernel_rfl))
 f277:=Tryz.func211.trans (congrArg some (by kernel_rfl))
 t0:=Tryz.underlying0
 a0:=Tryz.isAgg0
 z0:=Tryz.sizeOf0
 v0:=Tryz.zeroValue0
 t3:=Tryz.underlying3
 a3:=Tryz.isAgg3
 z3:=Tryz.sizeOf3
 v3:=Tryz.zeroValue3
 t4:=Tryz.underlying4
 a4:=Tryz.isAgg4
 z4:=Tryz.sizeOf4
 v4:=Tryz.zeroValue4
 t5:=Tryz.underlying5
 a5:=Tryz.isAgg5
 z5:=Tryz.sizeOf5
 v5:=Tryz.zeroValue5
 t9:=Tryz.underlying9
 a9:=Tryz.isAgg9
 z9:=Tryz.sizeOf9
 v9:=Tryz.zeroValue9
 t20:=Tryz.underlying20
 a20:=Tryz.isAgg20
 z20:=Tryz.sizeOf20
 v20:=Tryz.zeroValue20
 t37:=Tryz.underlying22
 a37:=Tryz.isAgg22
 z37:=Tryz.sizeOf22
 v37:=Tryz.zeroValue22
 t46:=Tryz.underlying102
 a46:=Tryz.isAgg102
 z46:=Tryz.sizeOf102
 v46:=Tryz.zeroValue102
 t51:=Tryz.underlying182
 a51:=Tryz.isAgg182
 z51:=Tryz.sizeOf182
 v51:=Tryz.zeroValue182
 t53:=Tryz.underlying186
 a53:=Tryz.isAgg186
 z53:=Tryz.sizeOf186
 v53:=Tryz.zeroValue186
 t70:=Tryz.underlying141
 a70:=Tryz.isAgg141
 z70:=Tryz.sizeOf141
 v70:=Tryz.zeroValue141
 t72:=Tryz.underlying143
 a72:=Tryz.isAgg143
 z72:=Tryz.sizeOf143
 v72:=Tryz.zeroValue143
 t75:=Tryz.underlying145
 a75:=Tryz.isAgg145
 z75:=Tryz.sizeOf145
 v75:=Tryz.zeroValue145
 t76:=Tryz.underlying146
 a76:=Tryz.isAgg146
 z76:=Tryz.sizeOf146
 v76:=Tryz.zeroValue146
 t109:=Tryz.underlying155
 a109:=Tryz.isAgg155
 z109:=Tryz.sizeOf155
 v109:=Tryz.zeroValue155
 t127:=Tryz.underlying166
 a127:=Tryz.isAgg166
 z127:=Tryz.sizeOf166
 v127:=Tryz.zeroValue166
 t146:=Tryz.underlying183
 a146:=Tryz.isAgg183
 z146:=Tryz.sizeOf183
 v146:=Tryz.zeroValue183
 t148:=Tryz.underlying187
 a148:=Tryz.isAgg187
 z148:=Tryz.sizeOf187
 v148:=Tryz.zeroValue187
 t164:=Tryz.underlying194
 a164:=Tryz.isAgg194
 z164:=Tryz.sizeOf194
 v164:=Tryz.zeroValue194}
def Tryz.Builder_Extra_156:Builder.Extra Tryz.prog Tryz.lays156_ren:={
 sizeBuilder:=by kernel_rfl
 liesBuilder:=by kernel_rfl
 t5:=Tryz.underlying5
 a5:=Tryz.isAgg5
 z5:=Tryz.sizeOf5
 v5:=Tryz.zeroValue5
 infoByte:=by kernel_rfl
 cellsByte:=by kernel_rfl
 sizeByte:=by kernel_rfl
 neB5:=by decide}
open Go.RowKit in
def Tryz.strings_Join_none(a:Option Addr)(c:Nat)(sep:ByteArray)(w:World):
  Calls Tryz.prog 95 #[.slice a 0 c,.string sep] w λe w'=>e=.returned (.string ⟨#[]⟩)/\w'=w:=Any.strings_Join_none Tryz.lays156 Tryz.Builder_Extra_156 a c sep w
open Go.RowKit in
def Tryz.strings_Join(bk o c:Nat)(xs:List ByteArray)(sep:ByteArray)(w:World)(hcells:∀(j:Nat) x,xs[j]? =some x->w.cell? ⟨bk,o+j,none⟩=some (.string x))(hbk:bk<w.heap.size)(hN:xs.length<=140737488355328)(hcap:xs.length<=c)(hlen:(Lib.join (xs.map (·.data.toList)) sep.data.toList).length<=140737488355328):
  Calls Tryz.prog 95 #[.slice (some ⟨bk,o,none⟩) xs.length c,.string sep] w λe w'=>e=.returned (.string ⟨(Lib.join (xs.map (·.data.toList)) sep.data.toList).toArray⟩)/\Go.RowKit.Below w.heap.size w w':=Any.strings_Join Tryz.lays156 Tryz.Builder_Extra_156 bk o c xs sep w hcells hbk hN hcap hlen
open Go.RowKit Go.Lib in
def Tryz.strings_Contains_one(s:ByteArray)(c:UInt8)(w:World):
  Calls Tryz.prog 124 #[.string s,.string ⟨#[c]⟩] w λe w'=>e=.returned (.bool (decide (0<=Lib.indexByte s.data.toList c)))/\w'=w:=Any.strings_Contains_one Tryz.lays144 s c w
open Go.RowKit Go.Lib in
def Tryz.strings_Split(s sep:ByteArray)(m:Int)(w:World)(hs:s.size<4294967281)(hm:w.cell? ⟨0,0,none⟩=some (.int .i64 m))(h1:1<=sep.size):
  Calls Tryz.prog 19 #[.string s,.string sep] w λe w'=>e=.returned (.slice (some ⟨w.heap.size,0,none⟩) (Lib.countB s sep+1) (Lib.countB s sep+1))/\w'=w.alloc (.cells ((Lib.splitB sep 0 (Lib.countB s sep) s).map Value.string).toArray 9):=Any.strings_Split Tryz.lays146 (by kernel_rfl) s sep m w hs hm h1
def Tryz.Builder_Extra_105:Builder.Extra Tryz.prog Tryz.lays105_ren:={
 sizeBuilder:=by kernel_rfl
 liesBuilder:=by kernel_rfl
 t5:=Tryz.underlying5
 a5:=Tryz.isAgg5
 z5:=Tryz.sizeOf5
 v5:=Tryz.zeroValue5
 infoByte:=by kernel_rfl
 cellsByte:=by kernel_rfl
 sizeByte:=by kernel_rfl
 neB5:=by decide}
open Go.RowKit Go.Lib in
def Tryz.strings_Repeat(s:ByteArray)(c:Nat)(w:World)(hc:c<=9223372036854775807)(hlen:s.size * c<=140737488355328):
  Calls Tryz.prog 125 #[.string s,.int .i64 c] w λe w'=>e=.returned (.string ⟨(Lib.repeatL s.data.toList c).toArray⟩)/\Go.RowKit.Below w.heap.size w w':=Any.strings_Repeat Tryz.lays105 Tryz.Builder_Extra_105 s c w hc hlen
end Go.Proofs
namespace Go.Proofs.YtmeggnejljdlfaaGreatDoor
open Go Go.Vm
def ag5{X:Ctx}(hP:X.P=Tryz.prog)(hm:∀i,i<2->JW X.UO 124 i=0)(fn:Func)(args:List V)(cells:List Cell)(rows:au)(outs:List Cell)(hf:X.P.funcs[124]? =some fn)(h:Prim.strings_Contains args cells=some (rows,outs))
  (base:Nat) (U:Nat->Prop) (w:World) (gargs jD:List Value) (N1 N2:List Nat) (hG:Given X base U w 124 args cells gargs jD N1 N2):
  Calls X.P 124 gargs.toArray w λe w'=>∃gs M1 M2,e=.returned (ab6 gs)/\Did X.P U w w' (N1++N2) fn.resultTypes.toList cells outs jD rows gs M1 M2:=by
 unfold Prim.strings_Contains at h;split at h
 ·rename_i s t;unfold M.strings_Contains at h;split at h
  ·rename_i c;cases h;obtain⟨rfl,rfl,rfl,hs⟩:=adl hG hm;rw[aiF hs];rw[hP] at hf|-;have hfn:fn.resultTypes.toList=[4]:=by rw[Tryz.func124] at hf;cases hf;rfl
   refine(Tryz.strings_Contains_one ⟨⟨s⟩⟩ c w).mono ?_;rintro e w' ⟨rfl,rfl⟩;rw[hfn];exact⟨[_],[],[],rfl,YO (by kernel_rfl) (by kernel_rfl) (λ_ _=>⟨rfl,rfl⟩) (Keep.refl _ _)⟩
  ·cases h
 ·cases h
def aoX{X:Ctx}(hP:X.P=Tryz.prog)(hm:∀i,i<2->JW X.UO 19 i=0)(hI:X.aLw 0=true)(fn:Func)(args:List V)(cells:List Cell)(rows:au)(outs:List Cell)(hf:X.P.funcs[19]? =some fn)(h:Prim.strings_Split args cells=some (rows,outs))
  (base:Nat) (U:Nat->Prop) (w:World) (gargs jD:List Value) (N1 N2:List Nat) (hG:Given X base U w 19 args cells gargs jD N1 N2):
  Calls X.P 19 gargs.toArray w λe w'=>∃gs M1 M2,e=.returned (ab6 gs)/\Did X.P U w w' (N1++N2) fn.resultTypes.toList cells outs jD rows gs M1 M2:=by
 unfold Prim.strings_Split at h;split at h
 ·rename_i s t;unfold M.strings_Split at h;cases hc:(Nat.blt s.length 4294967281 && Nat.ble 1 t.length) with
  |false=>rw[hc] at h;cases h
  |true=>
   rw[hc] at h;cases h;rw[xw] at hc;obtain⟨rfl,rfl,rfl,hs⟩:=adl hG hm;rw[aiF hs];obtain⟨m,hmx⟩:=hG.gl.int 0 hI;have hmx:=(VI hmx).2.2;have hU:=hG.up;rw[hP] at hf|-;obtain⟨T,hfn,hT,hpt⟩:∃T,fn.resultTypes.toList=[T]/\Sv Tryz.prog T=false/\ahI Tryz.prog T=none:=by rw[Tryz.func19] at hf;cases hf;exact⟨_,rfl,by kernel_rfl,by kernel_rfl⟩
   have h1:1<=t.length:=Nat.le_of_ble_eq_true hc.2;have h2:s.length<4294967281:=by have:=hc.1;rw[Nat.blt_eq] at this;exact this
   have hlen:=Lib.splitB_all ⟨⟨t⟩⟩ h1 0 _ ⟨⟨s⟩⟩ rfl;have e1:(acs s t).length=Lib.countB ⟨⟨s⟩⟩ ⟨⟨t⟩⟩+1:=by rw[acs,zaP,hlen]
   have e2:(Lib.splitB ⟨⟨t⟩⟩ 0 (Lib.countB ⟨⟨s⟩⟩ ⟨⟨t⟩⟩) ⟨⟨s⟩⟩).map Value.string=(acs s t).map λx=>Value.string ⟨⟨x⟩⟩:=by rw[acs,List.map_map];rfl
   refine(Tryz.strings_Split ⟨⟨s⟩⟩ ⟨⟨t⟩⟩ m w h2 hmx h1).mono ?_;rintro e w' ⟨rfl,rfl⟩;rw[hfn,<-e1,e2];exact⟨[_],[],[_],rfl,ax0 (by intro e;rw[e] at e1;simp at e1) hT hpt hU⟩
 ·cases h
def cell_lt{w:World}{a:Addr}{v:Value}(h:w.cell? a=some v):a.block<w.heap.size:=by
 unfold World.cell? at h;cases hq:w.heap[a.block]? with
 |none=>rw[hq] at h;simp at h
 |some x=>exact(Array.getElem?_eq_some_iff.1 hq).1
def akP{w w':World}(h:Go.RowKit.Below w.heap.size w w'):Keep [] w w':=⟨h.os,h.tape,h.output,h.size,λb hb _=>h.block b hb⟩
def akQ(s:aA):∀n,Lib.repeatL s n=(List.replicate n s).flatten
 |0=>rfl
 |n+1=>by rw[Lib.repeatL,akQ s n,List.replicate_succ,List.flatten_cons]
def alx{X:Ctx}(hP:X.P=Tryz.prog)(hm:∀i,i<2->JW X.UO 125 i=0)(fn:Func)(args:List V)(cells:List Cell)(rows:au)(outs:List Cell)(hf:X.P.funcs[125]? =some fn)(h:Prim.strings_Repeat args cells=some (rows,outs))
  (base:Nat) (U:Nat->Prop) (w:World) (gargs jD:List Value) (N1 N2:List Nat) (hG:Given X base U w 125 args cells gargs jD N1 N2):
  Calls X.P 125 gargs.toArray w λe w'=>∃gs M1 M2,e=.returned (ab6 gs)/\Did X.P U w w' (N1++N2) fn.resultTypes.toList cells outs jD rows gs M1 M2:=by
 unfold Prim.strings_Repeat at h;split at h
 ·rename_i s n;unfold M.strings_Repeat at h;cases hc:((decide (0<=n) && decide (n<=1000000)) && Nat.ble s.length 1000000) with
  |false=>rw[hc] at h;cases h
  |true=>
   rw[hc] at h;cases h;simp only[xw,decide_eq_true_eq,Nat.ble_eq] at hc;obtain⟨⟨h0,h1⟩,h2⟩:=hc;obtain⟨c,rfl⟩:=Int.eq_ofNat_of_zero_le h0;obtain⟨rfl,rfl,rfl,hs⟩:=adl hG hm;have hg:gargs=[.string ⟨⟨s⟩⟩,.int .i64 (c:Int)]:=by simp only[dn,aO,ro] at hs;obtain⟨g,gs,rfl,rfl,g',gs',rfl,rfl,rfl⟩:=hs;rfl
   rw[hg];rw[hP] at hf|-;have hfn:fn.resultTypes.toList=[9]:=by rw[Tryz.func125] at hf;cases hf;rfl
   have hlen:(⟨⟨s⟩⟩:ByteArray).size * c<=140737488355328:=by show s.length * c<=_;have:s.length * c<=1000000 * 1000000:=Nat.mul_le_mul h2 ak;omega
   refine(Tryz.strings_Repeat ⟨⟨s⟩⟩ c w ak hlen).mono ?_;rintro e w' ⟨rfl,hb⟩;rw[hfn];refine⟨[_],[],[],rfl,YO (by kernel_rfl) (by kernel_rfl) (λ_ _=>⟨?_,rfl⟩) (akP hb)⟩;show Value.string ⟨(Lib.repeatL s c).toArray⟩=.string ⟨⟨_⟩⟩;rw[akQ];rfl
 ·cases h
def agh{h:View}:∀{rows:au} {l:List (aA)} {b o:Nat},asZ rows=some l->oW h 1 rows b o->rows.length=l.length/\∀j x,l[j]? =some x->h b (o+j)=some (.string ⟨⟨x⟩⟩)
 |[],_,b,o,e,_=>by cases e;exact⟨rfl,λj x h=>by simp at h⟩
 |r::rs,l,b,o,e,q=>by
  simp only[asZ] at e;split at e
  ·rename_i y;cases hd:asZ rs with
   |none=>rw[hd] at e;cases e
   |some l'=>
    rw[hd] at e;cases e;simp only[oW,yX] at q;obtain⟨_,⟨⟨v,hv,hvv⟩,_⟩,q⟩:=q;simp only[ro] at hvv;subst hvv;obtain⟨e1,e2⟩:=agh hd q;refine⟨by simp[e1],λj x hj=> ?_⟩;cases j with
    |zero=>simp at hj;subst hj;exact hv
    |succ j=>have:=e2 j x (by simpa using hj);rw[show o+(j+1)=o+1+j by omega];exact this
  ·cases e
def akR(sep:aA):∀l,joinL sep l=Lib.join l sep
 |[]=>rfl
 |[x]=>by rw[Lib.join_one];rfl
 |x::y::l=>by rw[joinL,akR sep (y::l)];simp[Lib.join,List.intercalate,List.intersperse]
def anw(sep:aA):∀l,(joinL sep l).length<=apH l+l.length * sep.length
 |[]=>by simp[joinL]
 |[x]=>by simp only[joinL,apH];omega
 |x::y::l=>by have:=anw sep (y::l);simp only[joinL,apH,rJ,mQ] at *;rw[Nat.add_mul (l.length+1) 1];omega
def asa{X:Ctx}(hP:X.P=Tryz.prog)(hm:∀i,i<2->JW X.UO 95 i=0)(fn:Func)(args:List V)(cells:List Cell)(rows:au)(outs:List Cell)(hf:X.P.funcs[95]? =some fn)(h:Prim.strings_Join args cells=some (rows,outs))
  (base:Nat) (U:Nat->Prop) (w:World) (gargs jD:List Value) (N1 N2:List Nat) (hG:Given X base U w 95 args cells gargs jD N1 N2):
  Calls X.P 95 gargs.toArray w λe w'=>∃gs M1 M2,e=.returned (ab6 gs)/\Did X.P U w w' (N1++N2) fn.resultTypes.toList cells outs jD rows gs M1 M2:=by
 unfold Prim.strings_Join at h;split at h
 ·rename_i rws s;unfold M.strings_Join at h;split at h
  ·rename_i l hl;cases hc:Nat.ble (apH l+l.length * (s.length+1)) 4294967296 with
   |false=>rw[hc] at h;cases h
   |true=>
    rw[hc] at h;cases h;rw[Nat.ble_eq] at hc;obtain⟨rfl,rfl,rfl,hs⟩:=adl hG hm;simp only[dn,aO,ro] at hs;obtain⟨g,gs,rfl,⟨a,cap,rfl,hcap,hrow⟩,g',gs',rfl,rfl,rfl⟩:=hs;rw[hP] at hf|-;have hfn:fn.resultTypes.toList=[9]:=by rw[Tryz.func95] at hf;cases hf;rfl
    rw[hfn];cases rws with
    |nil=>cases hl;refine(Tryz.strings_Join_none a cap ⟨⟨s⟩⟩ w).mono ?_;rintro e w' ⟨rfl,rfl⟩;exact⟨[_],[],[],rfl,YO (by kernel_rfl) (by kernel_rfl) (λ_ _=>⟨rfl,rfl⟩) (Keep.refl _ _)⟩
    |cons r rs=>
     obtain⟨b,o,rfl,hr⟩:=hrow (by simp);obtain⟨e1,e2⟩:=agh hl hr;have hbs:b<w.heap.size:=by
      have h0:∃x,l[0]? =some x:=by
       cases l with
       |nil=>simp at e1
       |cons x l=>exact⟨x,rfl⟩
      obtain⟨x,hx⟩:=h0;have:=(VI (e2 0 x hx)).2.2;exact cell_lt this
     have hlen:=anw s l;have hmap:(l.map λx=>(⟨⟨x⟩⟩:ByteArray)).map (·.data.toList)=l:=by rw[List.map_map];exact List.map_id' l
     have ll:l.length<=140737488355328:=by rw[Nat.mul_add,Nat.mul_one] at hc;omega
     have C:=Tryz.strings_Join b o cap (l.map λx=>(⟨⟨x⟩⟩:ByteArray)) ⟨⟨s⟩⟩ w
      (λj x hj=>by
       rw[List.getElem?_map] at hj;cases hq:l[j]? with
       |none=>rw[hq] at hj;cases hj
       |some y=>rw[hq] at hj;cases hj;exact(VI (e2 j y hq)).2.2)
      hbs (by rw[zaP];exact ll) (by rw[zaP,<-e1];exact hcap)
      (by rw[hmap,<-akR];show(joinL s l).length<=_;rw[Nat.mul_add,Nat.mul_one] at hc;omega)
     rw[zaP,<-e1,hmap] at C;refine C.mono ?_;rintro e w' ⟨rfl,hb⟩;refine⟨[_],[],[],rfl,YO (by kernel_rfl) (by kernel_rfl) (λ_ _=>⟨?_,rfl⟩) (akP hb)⟩;show Value.string ⟨(Lib.join l s).toArray⟩=.string ⟨⟨_⟩⟩;rw[<-akR]
  ·cases h
 ·cases h
end Go.Proofs.YtmeggnejljdlfaaGreatDoor
namespace Go.Proofs.YtmeggnejljdlfaaGreatDoor
open Go Go.Vm Go.RowKit
set_option maxRecDepth 100000 in
def atY{n:Nat}{row:Row}(h:tyD Tryz.prog (n+2) 22 row):∃c:aA,row=[.sl false 1 (c.map byteRow)]/\c.length<=maxLen:=by
 obtain⟨rows,rfl,hl,hr⟩:=aJl Tryz.underlying22 h;obtain⟨c,rfl,_⟩:=apC (f:=byteRow) (p:=λ_=>True) (λr hr'=>by
  obtain⟨x,rfl,hx⟩:=aCC Tryz.underlying5 (hr r hr');have h':0<=x/\x<=255:=by simp[Lit.wf,IntKind.min,IntKind.max,IntKind.signed,IntKind.bits] at hx;omega
  refine⟨UInt8.ofNat x.toNat, ?_,trivial⟩;rw[byteRow,UInt8.toNat_ofNat'];congr 2;omega)
 exact⟨c,rfl,by simpa using hl⟩
def aLo:anP X0:=by
 intro f p fn args cells rows outs hx hf hb h base U w gargs jD N1 N2 hG;have hx':(bif Nat.beq f 127 then some Prim.lu else bif Nat.beq f 19 then some Prim.strings_Split else bif Nat.beq f 125 then some Prim.strings_Repeat else bif Nat.beq f 95 then some Prim.strings_Join else bif Nat.beq f 124 then some Prim.strings_Contains else none)=some p:=hx;cases hq:Nat.beq f 127 with
 |true=>rw[hq] at hx';cases hx';have e:=yV hq;subst e;exact ak3 rfl rfl fn args cells rows outs hf h base U w gargs jD N1 N2 hG
 |false=>
 rw[hq,bg] at hx';cases hq:Nat.beq f 19 with
 |true=>rw[hq] at hx';cases hx';have e:=yV hq;subst e;exact aoX rfl (by decide) rfl fn args cells rows outs hf h base U w gargs jD N1 N2 hG
 |false=>
 rw[hq,bg] at hx';cases hq:Nat.beq f 125 with
 |true=>rw[hq] at hx';cases hx';have e:=yV hq;subst e;exact alx rfl (by decide) fn args cells rows outs hf h base U w gargs jD N1 N2 hG
 |false=>
 rw[hq,bg] at hx';cases hq:Nat.beq f 95 with
 |true=>rw[hq] at hx';cases hx';have e:=yV hq;subst e;exact asa rfl (by decide) fn args cells rows outs hf h base U w gargs jD N1 N2 hG
 |false=>
 rw[hq,bg] at hx';cases hq:Nat.beq f 124 with
 |true=>rw[hq] at hx';cases hx';have e:=yV hq;subst e;exact ag5 rfl (by decide) fn args cells rows outs hf h base U w gargs jD N1 N2 hG
 |false=>rw[hq] at hx';cases hx'
def own:ownKnob Tryz.prog.godebug=none:=by kernel_rfl
def laidOut:laidOutB Tryz.prog=true:=by kernel_rfl
def gK : Tryz.prog.globalNamed "loop.example/g01543/impl.keywords" = some 4 := by kernel_rfl
def gS : Tryz.prog.globalNamed "loop.example/g01543/impl.signs" = some 5 := by kernel_rfl
def gB : Tryz.prog.globalNamed "loop.example/g01543/impl.builtins" = some 3 := by kernel_rfl
def tK:(Tryz.prog.globals[4]?).map (·.type)=some 200:=by kernel_rfl
def tS:(Tryz.prog.globals[5]?).map (·.type)=some 202:=by kernel_rfl
def tB:(Tryz.prog.globals[3]?).map (·.type)=some 191:=by kernel_rfl
def c9:Tryz.prog.cellsOf 9=1:=by kernel_rfl
def dK:(Rows.laid_loop_example_g01543_impl_keywords:DataW Unit)=.agg (Zt.map λs=> .lit (.string s)):=by kernel_rfl
def dS:(Rows.laid_loop_example_g01543_impl_signs:DataW Unit)=.agg (XH.map λs=> .lit (.string s)):=by kernel_rfl
def dB:(Rows.laid_loop_example_g01543_impl_builtins:DataW Unit)=.agg (aq1.map λs=> .lit (.string s)):=by kernel_rfl
def rK:Gm=Zt.map D.str:=by kernel_rfl
def rS:V9=XH.map D.str:=by kernel_rfl
def rB:PW=aq1.map D.str:=by kernel_rfl
def aw3{W:World}(hL:laidMetH Tryz.prog Rows.fnPrintedRow.laid W)(hS:W.ShapedOpen Tryz.prog):ahS X0 (full W):=by
 rw[MakeChecks.laidMetH_plain _ _ _ (by kernel_rfl)] at hL;obtain⟨ps,⟨gA,tA,csA,fA,pA,qA,hgA,htA,hvA,hdA,⟨g0,t0,cs0,f0,p0,q0,hg0,ht0,hv0,hd0,⟨g1,t1,cs1,f1,p1,q1,hg1,ht1,hv1,hd1,⟨g2,t2,cs2,f2,p2,q2,hg2,ht2,hv2,hd2,⟨gF,tF,csF,fF,pF,qF,hgF,htF,hvF,hdF,_,_⟩,_⟩,_⟩,_⟩,_⟩,_,_⟩:=hL;obtain rfl:=Option.some.inj (gK.symm.trans hg0);obtain rfl:=Option.some.inj (gS.symm.trans hg1);obtain rfl:=Option.some.inj (gB.symm.trans hg2);obtain rfl:=Option.some.inj (tK.symm.trans ht0);obtain rfl:=Option.some.inj (tS.symm.trans ht1);obtain rfl:=Option.some.inj (tB.symm.trans ht2);rw[dK] at hd0;rw[dS] at hd1;rw[dB] at hd2;refine⟨λg row h=> ?_,λg h=> ?_⟩
 ·have h':(bif Nat.beq g 3 then some PW else bif Nat.beq g 4 then some Gm else bif Nat.beq g 5 then some V9 else none)=some row:=h;cases hq:Nat.beq g 3 with
  |true=>rw[hq] at h';cases h';have e:=yV hq;subst e;rw[rB];exact aew Tryz.underlying191 Tryz.underlying9 c9 hg2 hv2 hd2
  |false=>
  rw[hq,bg] at h';cases hq:Nat.beq g 4 with
  |true=>rw[hq] at h';cases h';have e:=yV hq;subst e;rw[rK];exact aew Tryz.underlying200 Tryz.underlying9 c9 hg0 hv0 hd0
  |false=>
  rw[hq,bg] at h';cases hq:Nat.beq g 5 with
  |true=>rw[hq] at h';cases h';have e:=yV hq;subst e;rw[rS];exact aew Tryz.underlying202 Tryz.underlying9 c9 hg1 hv1 hd1
  |false=>rw[hq] at h';cases h'
 ·have h':(bif Nat.beq g 0 then true else false)=true:=h;cases hq:Nat.beq g 0 with
  |false=>rw[hq] at h';cases h'
  |true=>have e:=yV hq;subst e;exact Go.Proofs.cell_of_shapedOpen_int (zero:=#[.int .i64 0]) hS (of_decide_eq_true (by kernel_rfl)) (by kernel_rfl) rfl (by kernel_rfl) (by kernel_rfl) Tryz.underlying3
end Go.Proofs.YtmeggnejljdlfaaGreatDoor
