import Derived.Test.YtbpldgeajbfgnaaGreatDoorXRend
import Derived.Test.YtbpldgeajbfgnaaGreatDoorXSpec
import Derived.Lib.SplitLaws
set_option linter.defProp false
namespace Go.Proofs.YtbpldgeajbfgnaaGreatDoor
set_option linter.unusedVariables false
set_option linter.unusedSimpArgs false
open Go Go.Vm
open Go.IntKind (i64)
mutual
def txs:Tn->Nat
 | .mk _ _ x _ ks=>x.length+uj ks
def uj:List Tn->Nat
 |[]=>0
 |t::ts=>txs t+uj ts
end
def QH:∀a b:List Tn,uj (a++b)=uj a+uj b
 |[],b=>by simp[uj]
 |t::a,b=>by rw[TV,uj,uj,QH a b];omega
def anT:∀{ks:List Tn} {t:Tn},t∈ks->txs t<=uj ks
 |[],_,h=>by cases h
 |u::us,t,h=>by
  rw[uj];rcases List.mem_cons.1 h with rfl|h
  ·omega
  ·have:=anT h;omega
mutual
def ao6(X:Nat):∀(t:Tn) (b:Nat),(∀n,n∈t.flat b->n.text.length<=X)->txs t<=X * t.size
 | .mk k o x y ks,b,h=>by
  rw[Tn.flat] at h;have h1:=aqi X ks b λn hn=>h n (List.mem_append_left _ hn)
  have h2:x.length<=X:=h ⟨k,o,x,y,ends ks b⟩ (by simp);rw[txs,Tn.size,Nat.mul_add,Nat.mul_one];omega
def aqi(X:Nat):∀(ks:List Tn) (b:Nat),(∀n,n∈kD ks b->n.text.length<=X)->uj ks<=X * sizes ks
 |[],b,_=>by simp[uj]
 |t::ts,b,h=>by
  rw[kD] at h;have h1:=ao6 X t b λn hn=>h n (List.mem_append_left _ hn)
  have h2:=aqi X ts _ λn hn=>h n (List.mem_append_right _ hn)
  rw[uj,sizes,Nat.mul_add];omega
end
def awd(n:Nd):Bool:=VQ n.kind n.op n.text n.kids.length
mutual
def agQ:∀(t:Tn) (b:Nat),(t.flat b).all awd=(dOk t)
 | .mk k o x y ks,b=>by rw[Tn.flat,List.all_append,ai3 ks b,dOk];simp[awd,eu]
def ai3:∀(ks:List Tn) (b:Nat),(kD ks b).all awd=anS ks
 |[],_=>rfl
 |t::ts,b=>by rw[kD,List.all_append,agQ t b,ai3 ts _,anS]
end
def agR{α:Type}(f:α->Bool):∀(l:List α) (i:Nat),UZ (λ_ x=>f x) l i=l.all f
 |[],_=>rfl
 |x::l,i=>by rw[UZ,agR f l,List.all_cons]
section
variable {t:Tn} {o:Bool} (h:t.size<=90000000)
include h
theorem VR:(t.flat 0).length<=90000000∧∀n,n∈t.flat 0->n.kids.length<=90000000:=
 ⟨by rw[t.flat_length];exact h,λn hn=>by have:=(abP t 0 n hn).1;omega⟩
theorem anU:∃q:Nat,(t.size:Int) - 1=(q:Int)∧(t.sts 0)[q]? =some 0:=by obtain⟨u,hu,hul⟩:=t.afj 0;have hp:=t.size_pos;refine⟨u.length,au, ?_⟩;rw[hu,List.getElem?_append_right (Nat.le_refl _),Nat.sub_self];rfl
theorem aaY:(M.oW (dh o (t.flat 0))).map (·.2)=some (decide (t.size<=4000)):=by
 have hp:=t.size_pos;obtain⟨h1,h2⟩:=VR h;have hout:=V5 (t.flat 0) o h1 h2 (t.flat 0) 0 [] rfl rfl (Nat.zero_le _) Sr;simp only[M.oW,M.DI,OB,ah,jg,t.flat_length]
 by_cases hs:t.size<=4000
 ·have e0:encI ([]++List.replicate ((t.flat 0).length - 0) 0)=List.replicate ((t.size:Int)).toNat [D.int .i64 0]:=by simp[encI,t.flat_length]
  rw[e0,pY,WT,t.flat_length] at hout;rw[zdt (show(1:Int)<=t.size by omega),zdt (show(t.size:Int)<=4000 by omega),Bool.true_and,Bool.not_true,bG,hout];have hg:(decide (0<=(t.size:Int)) && decide ((t.size:Int)<=(t.size:Int)) && decide ((t.size:Int) * 8<=140737488355328) && decide ((t.size:Int)<=140737488355328))=true:=by simp;omega
  obtain⟨q,hq1,hq2⟩:=anU h;simp only[hg,aS,ah,ql,letE];rw[aG au au,hq1];simp only[bJ,lK,hq2,OJ,ah,JW,Uj,MB,aS];rw[zdt hs];rfl
 ·rw[qw (show¬(t.size:Int)<=4000 by omega),Bool.and_false,Bool.not_false,aS,qw hs];rfl
theorem ahx:M.BJ (dh o (t.flat 0))=some ((dOk t) && decide (t.size<=4000)):=by
 have hl:=U0 (t.flat 0) (λ_ n=>awd n) (b:=M.Ls (dh o (t.flat 0)) (dh o (t.flat 0)) ((t.flat 0).length:Int))
  (λi n hi=>by have hil:=(MG.1 hi).1;rw[t.flat_length] at hil;simp only[M.Ls,M.FI,t.flat_length,bJ,uM,hi,OJ,ah,cD0,cD1,cD2,cD3,aaX,aZ];rw[zdt au,aS,aG au au];change _=some (bif VQ n.kind n.op n.text n.kids.length then _ else _);cases VQ n.kind n.op n.text n.kids.length<;>rfl)
  (by simp only[M.Ls,M.FI];rw[qw au,bG])
 rw[agR,agQ] at hl;have hs:=aaY (o:=o) h;simp only[M.BJ,M.Ol,M.FX,jg,hl,ah];cases hd:(dOk t) with
 |false=>rfl
 |true=>
  cases hx:M.oW (dh o (t.flat 0)) with
  |none=>rw[hx] at hs;cases hs
  |some r=>rw[hx] at hs;simp only[OJ,iq] at hs;simp only[aS,ql,letE,ah,hs,Bool.true_and]
theorem aaZ:M.vP (dh o (t.flat 0))=some (encI (t.sts 0),true):=by obtain⟨h1,h2⟩:=VR h;have hout:=V4 (t.flat 0) o h1 h2 (t.flat 0) 0 [] rfl rfl (Nat.zero_le _) Sr;rw[pY,WT] at hout;have e0:encI []=[]:=rfl;rw[e0] at hout;simp only[M.vP,M.Jh,hout,ah,ql,letE,MB,aS]
theorem ahy(hx:∀n,n∈t.flat 0->n.text.length<=1000000000):M.BI (dh o (t.flat 0))=some ((dOk t) && decide (t.size<=4000)):=by
 have hp:=t.size_pos;simp only[M.BI,M.Oe,OA,ah,jg,t.flat_length]
 by_cases hs:t.size<=4000
 ·have hl:=U0 (t.flat 0) (λ_ n=>awd n) (b:=M.Lj (dh o (t.flat 0)))
   (λi n hi=>by have hil:=(MG.1 hi).1;have hxn:=hx n (BX hi);rw[t.flat_length] at hil;simp only[M.Lj,M.FH,jg,t.flat_length,bJ,uM,hi,OJ,ah,cD0,cD1,cD2,cD3,adP _ _ n.text _ au,aZ];rw[zdt au,aS,aG au au];change _=some (bif VQ n.kind n.op n.text n.kids.length then _ else _);cases VQ n.kind n.op n.text n.kids.length<;>rfl)
   (by simp only[M.Lj,M.FH,jg];rw[qw au,bG])
  rw[agR,agQ] at hl;rw[zdt (show(1:Int)<=t.size by omega),zdt (show(t.size:Int)<=4000 by omega),Bool.true_and,Bool.not_true,bG,M.Qo,hl,ah,zdt hs,Bool.and_true];cases hd:(dOk t) with
  |false=>rfl
  |true=>obtain⟨q,hq1,hq2⟩:=anU h;simp only[aS,ql,letE,aaZ (o:=o) h,ah];rw[aG au au,hq1];simp only[bJ,lK,hq2,OJ,ah,JW,Uj];rfl
 ·rw[qw (show¬(t.size:Int)<=4000 by omega),Bool.and_false,Bool.not_false,aS,qw hs,Bool.and_false]
end
def ai4:M.BJ []=some false∧M.BI []=some false:=by
 constructor
 ·have:M.FX [] [] 0 0=some (.inr 0):=by rw[M.FX];exact bC rfl
  simp only[M.BJ,M.Ol,um,pY,this,ah,ql,letE,M.oW,M.DI,OB];rfl
 ·simp only[M.BI,M.Oe,OA,ah,um,pY];rfl
def grp(l:List Nd):Int:=((l.filter (·.kind==5)).length:Int)
def anV(l:List Nd)(o:Bool)(hl:l.length<=90000000):M.yj (dh o l)=some (grp l):=by
 have hg:∀i,((l.take i).filter (·.kind==5)).length<=l.length:=λi=>Nat.le_trans (List.length_filter_le _ _) (by rw[Ui];omega)
 have hloop:=jh (b:=M.ET (dh o l) (l.length:Int)) (t:=(grp l,(l.length:Int))) (λi=>(grp (l.take i),(i:Int))) l.length
  (by
   intro i hi;obtain⟨n,hn⟩:∃n,l[i]? =some n:=⟨l[i],by simp[hi]⟩
   have hgi:=hg i;simp only[M.ET,M.y7,bJ,uM,hn,OJ,ah,cD0,cD1,cD2,cD3];rw[zdt au,aS,gW hn,grp,grp,List.filter_append];cases hk:n.kind==5 with
   |true=>rw[aS,aG au au,aG au au];simp[hk]
   |false=>rw[bG,aG au au];simp[hk])
  (by simp only[M.ET,M.y7];rw[qw au,bG,List.take_length]) 0 (Nat.zero_le _)
 have e0:grp (l.take 0)=0:=rfl;rw[e0,pY] at hloop;simp only[M.yj,M.Lu,jg,M.Jo,hloop,ah]
mutual
def anW(l:List Nd):Tn->Nat->Row
 | .mk k n x _ ks,b=>[.int .i64 k,.int .i64 n,.str x,.sl true 5 (zh l ks b),.int .i64 (grp (l.take (b+sizes ks)))]
def zh(l:List Nd):List Tn->Nat->aA
 |[],_=>[]
 |t::ts,b=>anW l t b::zh l ts (b+t.size)
end
def YI(l:List Nd):∀(a c:List Tn) (b:Nat),zh l (a++c) b=zh l a b++zh l c (b+sizes a)
 |[],c,b=>by simp[zh,sizes]
 |t::a,c,b=>by rw[TV,zh,zh,YI l a c,sizes,TV,Nat.add_assoc]
def anX{l:List Nd}{ks:List Tn}{j:Nat}{t:Tn}{b:Nat}(hj:ks[j]? =some t):zh l (ks.take (j+1)) b=zh l (ks.take j) b++[anW l t (b+sizes (ks.take j))]:=by rw[gW hj,YI];rfl
def YJ(l:List Nd):∀(ks:List Tn) (b:Nat),(zh l ks b).length=ks.length
 |[],_=>rfl
 |t::ts,b=>by rw[zh,mV,YJ l ts,mV]
def awe(l:List Nd)(t:Tn)(b:Nat):anW l t b=[.int .i64 t.kind,.int .i64 t.op,.str t.text,.sl true 5 (zh l t.kids b),.int .i64 (grp (l.take (b+sizes t.kids)))]:=by cases t;rfl
def awf{l:List Nd}{o:Bool}(hl:l.length<=90000000)(t:Tn):∀(f b:Nat),Lies l b t->t.size<=f->
  M.ou f (dh o l) ((b+sizes t.kids:Nat):Int)=some (t.kind,t.op,t.text,zh l t.kids b,grp (l.take (b+sizes t.kids))):=by
 refine Tn.ind (P:=λt=>∀(f b:Nat),Lies l b t->t.size<=f->M.ou f (dh o l) ((b+sizes t.kids:Nat):Int)=some (t.kind,t.op,t.text,zh l t.kids b,grp (l.take (b+sizes t.kids)))) ?_ t;intro k op x y ks ih f b h hf;cases f with
 |zero=>rw[Tn.size] at hf;omega
 |succ f=>
  have hroot:l[b+sizes ks]? =some ⟨k,op,x,y,ends ks b⟩:=h.root;have hlt:=h.lt;rw[Tn.size] at hf hlt;have hkl:=jq ks;have hcut:cut (dh o l) 0 ((b+sizes ks:Nat):Int)=some (dh o (l.take (b+sizes ks))):=by rw[cut,zdt (Int.le_refl 0),zdt au,zdt (by rw[jg];omega)];simp only[Bool.and_self,aS,Int.toNat_zero,List.drop_zero,Uj,Nat.sub_zero,dh,List.map_take]
  have hgr:=anV (l.take (b+sizes ks)) o (by rw[Ui];omega);simp only[M.ou,M.Om,bJ,uM,Tn.kids,Tn.kind,Tn.op,Tn.text,hroot,OJ,ah,cD0,cD1,cD2,cD3,aZ,eu,hcut,hgr];generalize hG:grp (l.take (b+sizes ks))=gg;have hrec:∀j t,ks[j]? =some t->M.ou f (dh o l) ((b+sizes (ks.take j)+sizes t.kids:Nat):Int)=some (t.kind,t.op,t.text,zh l t.kids (b+sizes (ks.take j)),grp (l.take (b+sizes (ks.take j)+sizes t.kids))):=λj t hj=>ih t (BX hj) f _ (Lies.Pv h hj) (by have:=LV hj;omega)
  have hloop:=jh (b:=M.zF (M.ou f))
   (t:=if ks=[] then .inl (dh o l,encI (ends ks b),(ks.length:Int),0,0,0,[],0,k,op,x,gg) else .inr (dh o l,encI (ends ks b),(ks.length:Int),(ks.length:Int),0,0,[],0,k,op,x,gg,zh l ks b))
   (λj=>if j=0 then .inl (dh o l,encI (ends ks b),(ks.length:Int),0,0,0,[],0,k,op,x,gg) else .inr (dh o l,encI (ends ks b),(ks.length:Int),(j:Int),0,0,[],0,k,op,x,gg,zh l (ks.take j) b)) ks.length
   (by
    intro j hj;obtain⟨t,ht⟩:∃t,ks[j]? =some t:=⟨ks[j],by simp⟩
    have hr:=hrec j t ht;have he:=VF (b:=b) ht;rw[if_neg (show¬j+1=0 by omega),anX ht,awe]
    by_cases h0:j=0
    ·subst h0;rw[if_pos rfl];have hi:idx (encI (ends ks b)) 0=some [D.int .i64 ((b+sizes (ks.take 0)+sizes t.kids:Nat):Int)]:=by have:=bJ (encI (ends ks b)) 0;rw[pY] at this;rw[this,lK,he];rfl
     simp only[jm,M.zF,M.wV,hi,ah,JW,hr];rw[zdt au,aS];rfl
    ·rw[if_neg h0];simp only[jm,M.zF,M.wV,bJ,lK,he,OJ,ah,JW,hr,YJ,Ui,J9];rw[zdt au,aS,aX au,aS,aX au,aS,aG au au];rfl)
   (by
    by_cases h0:ks.length=0
    ·have he:ks=[]:=List.length_eq_zero_iff.1 h0;rw[if_pos h0,if_pos he];simp only[jm,M.zF,M.wV];rw[qw au,bG]
    ·have he:¬ks=[]:=λe=>h0 (by rw[e];rfl)
     rw[if_neg h0,if_neg he,List.take_length];simp only[jm,M.zF,M.wV];rw[qw au,bG]) 0 (Nat.zero_le _)
  rw[if_pos rfl] at hloop;rw[M.Qp,hloop,ah]
  by_cases he:ks=[]
  ·rw[if_pos he,he];rfl
  ·rw[if_neg he];rfl
def awg{t:Tn}{o:Bool}(h:t.size<=90000000):M.Ij (dh o (t.flat 0))=some (t.kind,t.op,t.text,zh (t.flat 0) t.kids 0,grp ((t.flat 0).take (sizes t.kids))):=by have hs:=t.uq;have h1:=M.ahr (awf (o:=o) (VR h).1 t t.size 0 (Lies.whole t) (Nat.le_refl _));rw[Nat.zero_add] at h1;simp only[M.Ij,M.Ru,jg,t.flat_length];rw[aG au au,show(t.size:Int) - 1=((sizes t.kids:Nat):Int) by omega,h1,ah]
mutual
def dcR:Tn->Row->Prop
 | .mk k n x _ ks,r=>∃rows g,r=[.int .i64 k,.int .i64 n,.str x,.sl false 5 rows,.int .i64 g]∧QW ks rows
def QW:List Tn->aA->Prop
 |[],rows=>rows=[]
 |t::ts,rows=>∃r rs,rows=r::rs∧dcR t r∧QW ts rs
end
def aa0(t:Tn)(r:Row):dcR t r↔∃rows g,r=[.int .i64 t.kind,.int .i64 t.op,.str t.text,.sl false 5 rows,.int .i64 g]∧QW t.kids rows:=by cases t;rfl
def Iu:∀{ts:List Tn} {rows:aA},QW ts rows->rows.length=ts.length
 |[],_,h=>by rw[QW] at h;rw[h];rfl
 |t::ts,_,h=>by obtain⟨r,rs,rfl,_,h2⟩:=h;rw[mV,Iu h2,mV]
def ac7:∀{a b:List Tn} {ra rb:aA},QW a ra->QW b rb->QW (a++b) (ra++rb)
 |[],_,_,_,h,h2=>by rw[QW] at h;subst h;exact h2
 |t::ts,_,_,_,⟨r,rs,e,h1,h2⟩,h3=>by subst e;exact⟨r,_,rfl,h1,ac7 h2 h3⟩
def aa1:∀{ts:List Tn} {rows:aA} {j:Nat} {t:Tn},QW ts rows->ts[j]? =some t->∃r,rows[j]? =some r∧dcR t r
 |[],_,_,_,_,h=>by simp at h
 |u::ts,_,0,t,⟨r,rs,rfl,h1,_⟩,h=>by cases h;exact⟨r,rfl,h1⟩
 |u::ts,_,j+1,t,⟨r,rs,rfl,_,h2⟩,h=>by rw[List.getElem?_cons_succ] at h⊢;exact aa1 h2 h
mutual
def aDP:∀(t:Tn) (r:Row),dcR t r->qg r=r
 | .mk k n x y ks,r,⟨rows,g,e,h⟩=>by subst e;simp only[qg,D.fz,ako ks rows h]
def ako:∀(ts:List Tn) (rows:aA),QW ts rows->aQ rows=rows
 |[],_,h=>by rw[QW] at h;subst h;rfl
 |t::ts,_,⟨r,rs,e,h1,h2⟩=>by subst e;rw[aQ,aDP t r h1,ako ts rs h2]
end
mutual
def arD(l:List Nd):∀(t:Tn) (b:Nat),dcR t (qg (anW l t b))
 | .mk k n x y ks,b=>⟨aQ (zh l ks b),_,rfl,XH l ks b⟩
def XH(l:List Nd):∀(ts:List Tn) (b:Nat),QW ts (aQ (zh l ts b))
 |[],_=>rfl
 |t::ts,b=>⟨qg (anW l t b),aQ (zh l ts (b+t.size)),rfl,arD l t b,XH l ts _⟩
end
def bytesOf_map:∀s:aC,bytesOf (s.map byteRow)=some s
 |[]=>rfl
 |c::s=>by
  have h:asByte (byteRow c)=some c:=by simp only[byteRow,asByte];simp
  rw[OQ,bytesOf,h,bytesOf_map s]
def Iw(s:aC):ay (s.map byteRow)=true:=by simp only[ay,List.all_map,List.all_eq_true];intro x _;rfl
mutual
def aa2:∀(t:Tn) (s:aC),BR t=some s->s.length<=txs t+t.size
 | .mk k n x y ks,s,h=>by
  rw[BR] at h;rw[txs,Tn.size];cases h1:k==1 with
  |true=>rw[h1,aS] at h;cases h;omega
  |false=>
   rw[h1,bG] at h;cases h2:k==2 with
   |true=>rw[h2,aS] at h;cases h;simp only[J9];omega
   |false=>
    rw[h2,bG] at h;cases h3:k==3 with
    |true=>rw[h3,aS] at h;cases h
    |false=>rw[h3,bG] at h;have:=ai5 ks s h;omega
def ai5:∀(ts:List Tn) (s:aC),zq ts=some s->s.length<=uj ts+sizes ts
 |[],s,h=>by cases h;simp
 |t::ts,s,h=>by
  rw[zq] at h;rw[uj,sizes];cases ha:BR t with
  |none=>rw[ha] at h;cases h
  |some a=>
   rw[ha] at h;cases hb:zq ts with
   |none=>rw[hb] at h;cases h
   |some b=>rw[hb] at h;cases h;have h1:=aa2 t a ha;have h2:=ai5 ts b hb;rw[qx];omega
end
def flR(o:Option (aC)):aC×Bool:=match o with
 |some s=>(s,true)
 |none=>([],false)
def ayL(t:Tn):∀(f:Nat) (rows:aA) (g:Int),t.size<=f->QW t.kids rows->txs t+t.size<=20000000000000->
  M.kT f t.kind t.op t.text rows g=some (flR (BR t)):=by
 refine Tn.ind (P:=λt=>∀(f:Nat) (rows:aA) (g:Int),t.size<=f->QW t.kids rows->txs t+t.size<=20000000000000->M.kT f t.kind t.op t.text rows g=some (flR (BR t))) ?_ t;intro k n x y ks ih f rows g hf hr hx;cases f with
 |zero=>rw[Tn.size] at hf;omega
 |succ f=>
  rw[Tn.size] at hf;rw[txs,Tn.size] at hx;simp only[M.kT,M.FK,Tn.kids,Tn.kind,Tn.op,Tn.text,BR] at hr⊢;cases h1:k==1 with
  |true=>rfl
  |false=>
  cases h2:k==2 with
  |true=>rfl
  |false=>
  cases h3:k==3 with
  |true=>rfl
  |false=>
  simp only[bG];have hrl:=Iu hr;have hkl:=jq ks;have key:∀(ts:List Tn) (j:Nat) (acc:aC),ks.drop j=ts->j<=ks.length->acc.length+(uj ts+sizes ts)<=20000000000000->
    dX (M.sZ (M.kT f) rows (rows.length:Int)) ((j:Int),acc.map byteRow)=some (match zq ts with
     |none=> .inl ()
     |some s=> .inr ((rows.length:Int),(acc++s).map byteRow)):=by
   intro ts;induction ts with
   |nil=>intro j acc hd hj _;have:ks.length<=j:=List.drop_eq_nil_iff.1 hd;have:j=rows.length:=au;subst this;apply bC;simp only[M.sZ,M.sW,zq];rw[qw au,bG,List.append_nil]
   |cons u ts ihl=>
    intro j acc hd hj hl;have hu:ks[j]? =some u:=by
     have:(ks.drop j)[0]? =some u:=by rw[hd];rfl
     simpa using this
    have hlt:j<ks.length:=(MG.1 hu).1;have hd':ks.drop (j+1)=ts:=by rw[<-List.drop_drop,hd];rfl
    obtain⟨r,hrj,hrD⟩:=aa1 hr hu;obtain⟨rows',g',rfl,hk'⟩:=(aa0 u r).1 hrD;have hmem:=BX hu;have hsz:=iE hmem;have htx:=anT hmem;have hfu:=ih u hmem f rows' g' au hk' au;rw[uj,sizes] at hl;have c0:bI .i64 [D.int .i64 u.kind,.int .i64 u.op,.str u.text,.sl false 5 rows',.int .i64 g'] 0=some u.kind:=rfl;have c1:bI .i64 [D.int .i64 u.kind,.int .i64 u.op,.str u.text,.sl false 5 rows',.int .i64 g'] 1=some u.op:=rfl;have c2:cStr [D.int .i64 u.kind,.int .i64 u.op,.str u.text,.sl false 5 rows',.int .i64 g'] 2=some u.text:=rfl;have c3:PE 5 [D.int .i64 u.kind,.int .i64 u.op,.str u.text,.sl false 5 rows',.int .i64 g'] 3=some rows':=rfl;have c4:bI .i64 [D.int .i64 u.kind,.int .i64 u.op,.str u.text,.sl false 5 rows',.int .i64 g'] 4=some g':=rfl;rw[zq];cases hfx:BR u with
    |none=>apply bC;simp only[M.sZ,M.sW,bJ,hrj,ah,c0,c1,c2,c3,c4,hfu,hfx,flR,Bool.not_false,aS];rw[zdt au,aS]
    |some a=>
     have hal:=aa2 u a hfx;have hs:M.sZ (M.kT f) rows (rows.length:Int) ((j:Int),acc.map byteRow)=some (.inl (((j+1:Nat):Int),(acc++a).map byteRow)):=by simp only[M.sZ,M.sW,bJ,hrj,ah,c0,c1,c2,c3,c4,hfu,hfx,flR,Bool.not_true,bG,List.length_map];rw[zdt au,aS,aX au,aS,aX au,aS,aG au au,List.map_append];rfl
     rw[dJ hs,ihl (j+1) (acc++a) hd' hlt (by rw[qx];omega)];cases zq ts with
     |none=>rfl
     |some b=>simp only[BO]
  have h0:=key ks 0 [] rfl (Nat.zero_le _) (by simp only[um];omega);have e0:([]:aC).map byteRow=[]:=rfl;rw[pY,e0] at h0;rw[M.GL,h0];cases zq ks with
  |none=>rfl
  |some s=>simp only[ah,ql,letE,List.nil_append,bytesOf_map,flR]
def agS:∀a b:List Tn,S9 (a++b)=bif(S9 a).2 then S9 a else((S9 a).1+(S9 b).1,(S9 b).2)
 |[],b=>by simp[S9]
 |t::a,b=>by
  rw[TV,S9,S9,agS a b];cases h:(bh t).2 with
  |true=>simp[h]
  |false=>simp only[bG];cases h2:(S9 a).2<;>simp[Nat.add_assoc,h2]
mutual
def aUl:∀t:Tn,(bh t).1<=txs t
 | .mk k n x y ks=>by
  have:=agT ks;rw[bh,txs];cases k==2||k==3 with
  |true=>simp
  |false=>cases k==1<;>simp<;>omega
def agT:∀ts:List Tn,(S9 ts).1<=uj ts
 |[]=>by simp[S9]
 |t::ts=>by have h1:=aUl t;have h2:=agT ts;rw[S9,uj];cases(bh t).2<;>simp<;>omega
end
def aep{α:Type}(a:List α)(x:α):(a.reverse++[x])[a.length]? =some x:=by rw[List.getElem?_append_right (by simp)];simp
def anY(w:Row)(c i k n:Int)(x:aC)(g:Int){ks:List Tn}{rows:aA}(hr:QW ks rows)(hk:ks.length<=2000000000)(st:aA)(hl:st.length<=2000000000):
  M.mF w c i k n x rows g ((rows.length:Int) - 1,st)=some (-1,st++rows.reverse):=by
 have hrl:=Iu hr;have key:∀(j:Nat),j<=ks.length->dX (M.vk w c i k n x rows g) ((j:Int) - 1,st++(rows.drop j).reverse)=some (-1,st++rows.reverse):=by
  intro j;induction j with
  |zero=>intro _;apply bC;simp only[jm,M.vk,M.oZ];rw[qw au,bG];rfl
  |succ j ihj=>
   intro hj;obtain⟨u,hu⟩:∃u,ks[j]? =some u:=⟨ks[j],by simp⟩
   obtain⟨r,hrj,hrD⟩:=aa1 hr hu;obtain⟨rows',g',rfl,hk'⟩:=(aa0 u r).1 hrD;have c0:bI .i64 [D.int .i64 u.kind,.int .i64 u.op,.str u.text,.sl false 5 rows',.int .i64 g'] 0=some u.kind:=rfl;have c1:bI .i64 [D.int .i64 u.kind,.int .i64 u.op,.str u.text,.sl false 5 rows',.int .i64 g'] 1=some u.op:=rfl;have c2:cStr [D.int .i64 u.kind,.int .i64 u.op,.str u.text,.sl false 5 rows',.int .i64 g'] 2=some u.text:=rfl;have c3:PE 5 [D.int .i64 u.kind,.int .i64 u.op,.str u.text,.sl false 5 rows',.int .i64 g'] 3=some rows':=rfl;have c4:bI .i64 [D.int .i64 u.kind,.int .i64 u.op,.str u.text,.sl false 5 rows',.int .i64 g'] 4=some g':=rfl;have hlen:(st++(rows.drop (j+1)).reverse).length<=4000000000:=by simp;omega
   have hdr:rows.drop j=[D.int .i64 u.kind,.int .i64 u.op,.str u.text,.sl false 5 rows',.int .i64 g']::rows.drop (j+1):=by obtain⟨h1,h2⟩:=MG.1 hrj;rw[List.drop_eq_getElem_cons h1,h2]
   rw[show(((j+1:Nat):Int) - 1)=(j:Int) by omega,<-ihj au,hdr,List.reverse_cons,<-BO];refine dJ ?_;simp only[jm,M.vk,M.oZ,bJ,hrj,ah,c0,c1,c2,c3,c4,J9];rw[zdt au,aS,aX au,aS,aX au,aS,aG au au]
 have:=key rows.length au;rw[List.drop_length,List.reverse_nil,List.append_nil] at this;exact this
def S6(w:Row)(c i:Int)(st:aA)(s:(Row×Int×Int×aA)⊕(Row×Int×Int×Int×Bool×aA×Int×Int×aC×aA×Int)):Prop:=
 s=.inl (w,c,i,st)∨∃a b d e f g h,s=.inr (w,c,i,a,b,st,d,e,f,g,h)
def arE(w:Row)(i:Int):∀(m:Nat) (us:List Tn) (rows:aA) (c:Nat) (s:_),sizes us<=m->m<=1000000000->QW us rows->c+uj us<=20000000000000->S6 w c i rows.reverse s->
  dX M.gZ s=some (bif(S9 us).2 then .inl ((c+(S9 us).1:Nat):Int) else .inr (w,((c+(S9 us).1:Nat):Int),i,[])):=by
 intro m;induction m with
 |zero=>
  intro us rows c s hm hmb hr hc hs;cases us with
  |cons u us=>have:=u.size_pos;rw[sizes] at hm;omega
  |nil=>
   rw[QW] at hr;subst hr;apply bC;rcases hs with rfl|⟨a,b,d,e,f,g,h,rfl⟩
   ·simp only[M.gZ,M.gY,List.reverse_nil,um,S9];rfl
   ·simp only[M.gZ,M.gY,List.reverse_nil,um,S9];rfl
 |succ m ih=>
  intro us rows c s hm hmb hr hc hs;cases us with
  |nil=>
   rw[QW] at hr;subst hr;apply bC;rcases hs with rfl|⟨a,b,d,e,f,g,h,rfl⟩
   ·simp only[M.gZ,M.gY,List.reverse_nil,um,S9];rfl
   ·simp only[M.gZ,M.gY,List.reverse_nil,um,S9];rfl
  |cons u us=>
   obtain⟨k,n,x,y,ks⟩:=u;obtain⟨r,rs,rfl,hD,hDs⟩:=hr;obtain⟨rows',g',rfl,hk'⟩:=hD;have hrl:=Iu hDs;have hkl:=Iu hk';have hs1:=jq us;have hs2:=jq ks;rw[sizes,Tn.size] at hm;rw[uj,txs] at hc;generalize hR:[D.int .i64 k,.int .i64 n,.str x,.sl false 5 rows',.int .i64 g']=R at hs;have c0:bI .i64 R 0=some k:=by rw[<-hR];rfl
   have c1:bI .i64 R 1=some n:=by rw[<-hR];rfl
   have c2:cStr R 2=some x:=by rw[<-hR];rfl
   have c3:cRo 5 R 3=some rows':=by rw[<-hR];rfl
   have c4:bI .i64 R 4=some g':=by rw[<-hR];rfl
   have hlen:((R::rs).reverse.length:Int)=(rs.length:Int)+1:=by simp
   have hw1:i64.wrap ((rs.length:Int)+1 - 1)=(rs.length:Int):=(aG au au).trans au;have hget:(R::rs).reverse[rs.length]? =some R:=by rw[List.reverse_cons];exact aep rs R
   have htk:(R::rs).reverse.take rs.length=rs.reverse:=by rw[List.reverse_cons];exact List.take_left' (by simp)
   have hd:(decide ((0:Int)<=(rs.length:Int)) && decide ((rs.length:Int)<=(rs.length:Int)+1))=true:=by simp;omega
   have hkids:=fun(cc:Int)=>anY w cc i k n x g' hk' au rs.reverse (by rw[List.length_reverse];omega)
   have hw2:i64.wrap ((rows'.length:Int) - 1)=(rows'.length:Int) - 1:=aG au au;have hgo:rs.reverse++rows'.reverse=(rows'++rs).reverse:=by rw[List.reverse_append]
   have hDk:QW (ks++us) (rows'++rs):=ac7 hk' hDs;rw[S9,bh];cases h2:k==2 with
   |true=>
    apply bC;have e2:k=2:=by simpa using h2
    have h1:(k==1)=false:=by rw[e2];rfl
    rcases hs with rfl|⟨a,b,d,e,f,g,h,rfl⟩<;>
    ·simp only[M.gZ,M.gY,hlen,hw1,bJ,Uj,hget,ah,c0,c1,c2,c3,c4,hd,aS,h1,h2,bG];rw[zdt au,aS];simp
   |false=>
   cases h3:k==3 with
   |true=>
    apply bC;have e3:k=3:=by simpa using h3
    have h1:(k==1)=false:=by rw[e3];rfl
    rcases hs with rfl|⟨a,b,d,e,f,g,h,rfl⟩<;>
    ·simp only[M.gZ,M.gY,hlen,hw1,bJ,Uj,hget,ah,c0,c1,c2,c3,c4,hd,aS,h1,h2,h3,bG];rw[zdt au,aS];simp
   |false=>
    generalize awh:(bif k==1 then x.length else 0)=tx;have htx:tx<=x.length:=by rw[<-awh];cases k==1<;>simp
    have hstep:∃s',M.gZ s=some (.inl s')∧S6 w ((c+tx:Nat):Int) i (rows'++rs).reverse s':=by
     cases h1:k==1 with
     |true=>
      rw[h1,aS] at awh;subst awh;have hw3:i64.wrap ((c:Int)+(x.length:Int))=((c+x.length:Nat):Int):=(aG au au).trans au;rcases hs with rfl|⟨a,b,d,e,f,g,h,rfl⟩<;>
      ·refine⟨_, ?_,.inr ⟨-1,false,k,n,x,rows',g',rfl⟩⟩
       ·simp only[M.gZ,M.gY,hlen,hw1,bJ,Uj,hget,ah,c0,c1,c2,c3,c4,hd,aS,h1,htk,hw2,hkids,hw3,hgo];rw[zdt au,aS]
     |false=>
      rw[h1,bG] at awh;subst awh;rcases hs with rfl|⟨a,b,d,e,f,g,h,rfl⟩<;>
      ·refine⟨_, ?_,.inr ⟨-1,false,k,n,x,rows',g',rfl⟩⟩
       ·simp only[M.gZ,M.gY,hlen,hw1,bJ,Uj,hget,ah,c0,c1,c2,c3,c4,hd,aS,bG,h1,h2,h3,htk,hw2,hkids,hgo,Nat.add_zero];rw[zdt au,aS]
    obtain⟨s',hb,hS⟩:=hstep;rw[dJ hb,ih (ks++us) (rows'++rs) (c+tx) s' (by rw[kW];omega) au hDk (by rw[QH];omega) hS,agS];simp only[Bool.or_self,bG];cases hb2:(S9 ks).2 with
    |true=>simp[hb2,Nat.add_assoc]
    |false=>simp only[bG];cases(S9 us).2<;>simp[Nat.add_assoc]
def isP(p:Pc)(r:Row):Prop:=∃rows g,r=[.int .i64 p.1.kind,.int .i64 p.1.op,.str p.1.text,.sl false 5 rows,.int .i64 g,.int .i64 p.2.1,.bool p.2.2]∧QW p.1.kids rows
def U5:List Pc->aA->Prop
 |[],rows=>rows=[]
 |p::ps,rows=>∃r rs,rows=r::rs∧isP p r∧U5 ps rs
def TS:∀{ts:List Pc} {rows:aA},U5 ts rows->rows.length=ts.length
 |[],_,h=>by rw[U5] at h;rw[h];rfl
 |t::ts,_,⟨r,rs,e,_,h2⟩=>by subst e;rw[mV,TS h2,mV]
def ac8:∀{a b:List Pc} {ra rb:aA},U5 a ra->U5 b rb->U5 (a++b) (ra++rb)
 |[],_,_,_,h,h2=>by rw[U5] at h;subst h;exact h2
 |t::ts,_,_,_,⟨r,rs,e,h1,h2⟩,h3=>by subst e;exact⟨r,_,rfl,h1,ac8 h2 h3⟩
def agU:∀{rows:aA},(∀r,r∈rows->qg r=r)->aQ rows=rows
 |[],_=>rfl
 |r::rs,h=>by rw[aQ,h r Yh,agU (λx hx=>h x (X9 _ hx))]
def aqj:∀{ps:List Pc} {rows:aA},U5 ps rows->∀r,r∈rows->qg r=r
 |[],_,h,r,hr=>by rw[U5] at h;subst h;cases hr
 |p::ps,_,⟨q,qs,e,⟨rows,g,e1,h1⟩,h2⟩,r,hr=>by
  subst e;rcases List.mem_cons.1 hr with rfl|hr
  ·subst e1;simp only[qg,D.fz,ako _ rows h1]
  ·exact aqj h2 r hr
def awi{ps:List Pc}{rows:aA}(h:U5 ps rows):aQ rows.reverse=rows.reverse:=
 agU λr hr=>aqj h r (List.mem_reverse.1 hr)
def DR(st:List Pc):List Tn:=st.map (·.1)
def X7(st:List Pc):st.length<=sizes (DR st):=by have:=jq (DR st);simpa[DR] using this
def agV(w:Row)(all:aA)(hw:PE 7 w 2=some all.reverse)(hall:all.length<=1000000000):∀(st:List Pc) (pre rows:aA) (c:Nat),U5 st rows->all=pre++rows->sizes (DR st)<=1000000000->c+uj (DR st)<=20000000000000->
  dX M.qJ (w,(c:Int),(rows.length:Int) - 1,[])=some (bif(S9 (DR st)).2 then .inl ((c+(S9 (DR st)).1:Nat):Int) else .inr (w,((c+(S9 (DR st)).1:Nat):Int), -1,[]))
 |[],pre,rows,c,h,ha,hs,hc=>by rw[U5] at h;subst h;apply bC;rfl
 |(t,ii,ff)::st,pre,rows,c,h,ha,hs,hc=>by
  obtain⟨r,rs,rfl,⟨rows',g',rfl,hk'⟩,hPs⟩:=h;have hrl:=TS hPs;have aDQ:=X7 st;have e1:DR ((t,ii,ff)::st)=t::DR st:=rfl;rw[e1,sizes] at hs;rw[e1,uj] at hc;have hb1:=agT [t];simp only[uj,Nat.add_zero] at hb1;generalize hR:[D.int .i64 t.kind,.int .i64 t.op,.str t.text,.sl false 5 rows',.int .i64 g',.int .i64 ii,.bool ff]=R at ha⊢;have c0:bI .i64 R 0=some t.kind:=by rw[<-hR];rfl
  have c1:bI .i64 R 1=some t.op:=by rw[<-hR];rfl
  have c2:cStr R 2=some t.text:=by rw[<-hR];rfl
  have c3:PE 5 R 3=some rows':=by rw[<-hR];rfl
  have c4:bI .i64 R 4=some g':=by rw[<-hR];rfl
  have hget:all.reverse[rs.length]? =some R:=by rw[ha,List.reverse_append,List.reverse_cons,BO,List.getElem?_append_right (by simp)];simp
  have hD:QW [t] [[D.int .i64 t.kind,.int .i64 t.op,.str t.text,.sl false 5 rows',.int .i64 g']]:=⟨_,[],rfl,(aa0 _ _).2 ⟨rows',g',rfl,hk'⟩,rfl⟩
  have hin:=arE w (rs.length:Int) t.size [t] _ c _ (by simp[sizes]) au hD (by simp only[uj];omega) (.inl rfl);rw[List.reverse_singleton] at hin;have e2:(S9 [t]).2=(bh t).2:=by cases hq:(bh t).2<;>simp[S9,hq]
  have e3:(S9 [t]).1=(bh t).1:=by cases hq:(bh t).2<;>simp[S9,hq]
  rw[e2,e3] at hin;rw[e3] at hb1;have e4:(((R::rs).length:Nat):Int) - 1=(rs.length:Int):=by simp only[mV];omega
  rw[e1,e4,S9];cases hq:(bh t).2 with
  |true=>apply bC;rw[hq,aS] at hin;simp only[jm,M.qJ,M.qI,hw,bJ,hget,ah,c0,c1,c2,c3,c4,um,J9,List.nil_append,M.uf,hin,ql,aS,hq];rw[zdt au,aS];rfl
  |false=>
   rw[hq,bG] at hin;have hstep:M.qJ (w,(c:Int),(rs.length:Int),[])=some (.inl (w,((c+(bh t).1:Nat):Int),(rs.length:Int) - 1,[])):=by simp only[jm,M.qJ,M.qI,hw,bJ,hget,ah,c0,c1,c2,c3,c4,um,J9,List.nil_append,M.uf,hin,ql,letE];rw[zdt au,aS,aG au au];rfl
   rw[dJ hstep,agV w all hw hall st (pre++[R]) rs (c+(bh t).1) hPs (by rw[ha];simp) au au];simp only[bG];cases(S9 (DR st)).2<;>simp[Nat.add_assoc]
def arF(w:Row){st:List Pc}{rows:aA}(h:U5 st rows)(hw:PE 7 w 2=some rows.reverse)(hs:sizes (DR st)<=1000000000)(hc:uj (DR st)<=20000000000000):
  M.nO w=some (((S9 (DR st)).1:Nat):Int):=by
 have hrl:=TS h;have aDQ:=X7 st;have:=agV w rows hw au st [] rows 0 h rfl hs au;rw[Nat.zero_add,pY] at this;simp only[M.nO,M.AB,hw,ah,List.length_reverse,M.zl];rw[aG au au,this];cases(S9 (DR st)).2<;>rfl
def aUm{t:Tn}{rows':aA}(g:Int)(hk:QW t.kids rows'){st:List Pc}{rows:aA}(h:U5 st rows)(s:aC)(col w:Int)(hs:t.size+sizes (DR st)<=1000000000)(hc:txs t+uj (DR st)<=10000000000000)
  (h0:0<=col) (h1:col<=40000000000000) (h2:0<=w) (h3:w<=10000):
  M.rV t.kind t.op t.text rows' g (s.map byteRow) col rows.reverse w=some (agP w col t st,s.map byteRow,col,rows.reverse,w):=by
 have hfl:=M.abL (ayL t t.size rows' g (Nat.le_refl _) hk au);have hbe:=arF [D.sl false 1 (s.map byteRow),D.int .i64 col,D.sl false 7 rows.reverse] h rfl au au;have awj:=agT (DR st);simp only[M.rV,M.Jp,hfl,ah,awi h,Iw,aS];unfold agP;cases hx:BR t with
 |none=>rfl
 |some a=>have hal:=aa2 t a hx;have e1:i64.wrap ((a.length:Int)+((S9 (DR st)).1:Int))=(a.length:Int)+((S9 (DR st)).1:Int):=aG au au;have e2:i64.wrap (w - col)=w - col:=aG au au;simp only[flR,aS,hbe,ah,e1,e2];rfl
def ayM{ks:List Tn}{rows:aA}(hr:QW ks rows)(k n:Int)(x:aC)(g ii:Int)(ff:Bool)(s:aC)(col:Int)(st:aA)(hk:ks.length<=1000000000)(hl:st.length<=1000000000):
  ∃ps,U5 (ks.map λt=>(t,ii,ff)) ps∧M.je k n x rows g ii ff (s.map byteRow) col st=some (s.map byteRow,col,st++ps.reverse):=by
 have hrl:=Iu hr;refine⟨rows.map (· ++[.int .i64 ii,.bool ff]), ?_, ?_⟩
 ·clear hk hrl;induction ks generalizing rows with
  |nil=>rw[QW] at hr;subst hr;rfl
  |cons u us ih=>obtain⟨r,rs,rfl,h1,h2⟩:=hr;obtain⟨rows',g',rfl,hk'⟩:=(aa0 u r).1 h1;exact⟨_,_,rfl,⟨rows',g',rfl,hk'⟩,ih h2⟩
 ·have key:∀(j:Nat),j<=ks.length->dX (M.zk ii ff col k n x rows g (s.map byteRow)) ((j:Int) - 1,st++((rows.drop j).map (· ++[D.int .i64 ii,.bool ff])).reverse)=some (-1,st++(rows.map (· ++[D.int .i64 ii,.bool ff])).reverse):=by
   intro j;induction j with
   |zero=>intro _;apply bC;simp only[jm,M.zk,M.tZ];rw[qw au,bG];rfl
   |succ j ihj=>
    intro hj;obtain⟨u,hu⟩:∃u,ks[j]? =some u:=⟨ks[j],by simp⟩
    obtain⟨r,hrj,hrD⟩:=aa1 hr hu;obtain⟨rows',g',rfl,hk'⟩:=(aa0 u r).1 hrD;have c0:bI .i64 [D.int .i64 u.kind,.int .i64 u.op,.str u.text,.sl false 5 rows',.int .i64 g'] 0=some u.kind:=rfl;have c1:bI .i64 [D.int .i64 u.kind,.int .i64 u.op,.str u.text,.sl false 5 rows',.int .i64 g'] 1=some u.op:=rfl;have c2:cStr [D.int .i64 u.kind,.int .i64 u.op,.str u.text,.sl false 5 rows',.int .i64 g'] 2=some u.text:=rfl;have c3:PE 5 [D.int .i64 u.kind,.int .i64 u.op,.str u.text,.sl false 5 rows',.int .i64 g'] 3=some rows':=rfl;have c4:bI .i64 [D.int .i64 u.kind,.int .i64 u.op,.str u.text,.sl false 5 rows',.int .i64 g'] 4=some g':=rfl;have hlen:(st++((rows.drop (j+1)).map (· ++[D.int .i64 ii,.bool ff])).reverse).length<=2000000000:=by simp;omega
    have hdr:rows.drop j=[D.int .i64 u.kind,.int .i64 u.op,.str u.text,.sl false 5 rows',.int .i64 g']::rows.drop (j+1):=by obtain⟨h1,h2⟩:=MG.1 hrj;rw[List.drop_eq_getElem_cons h1,h2]
    rw[show(((j+1:Nat):Int) - 1)=(j:Int) by omega,<-ihj au,hdr,OQ,List.reverse_cons,<-BO];refine dJ ?_;simp only[jm,M.zk,M.tZ,bJ,hrj,ah,c0,c1,c2,c3,c4,J9];rw[zdt au,aS,aX au,aS,aX au,aS,aG au au];rfl
  have:=key rows.length au;rw[List.drop_length,List.map_nil,List.reverse_nil,List.append_nil] at this;simp only[M.je,M.EW,M.CG];rw[aG au au,this];simp only[ah,Iw,aS]
def ayN(ii:Int)(s:aC)(col:Int)(st:aA)(h0:0<=ii)(h1:ii<=200000)(hs:s.length<=80000000000000):M.lU ii (s.map byteRow) col st=some ((brk s ii).map byteRow,ii,st):=by
 have hrep:M.strings_Repeat [32] ii=some (List.replicate ii.toNat 32):=by rw[M.strings_Repeat,zdt h0,zdt au,J9,aX (show 1<=1000000 by omega)];simp
 have e10:[[D.int .u8 10]]=[byteRow 10]:=rfl;have hb:s.map byteRow++[[D.int .u8 10]]++(List.replicate ii.toNat (32:UInt8)).map byteRow=(brk s ii).map byteRow:=by rw[brk,List.map_append,OQ,e10];simp
 simp only[M.lU,M.EU,hrep,ah,List.length_map,qx,List.length_replicate,J9];rw[aX au,aS,aX au,aS,aX au,aS,aX au,aS,hb,Iw,aS]
def awk(st:List Pc):Prop:=∀p,p∈st->dOk p.1=true∧0<=p.2.1∧p.2.1+40 * p.1.size<=200000
def aa3:∀{ks:List Tn} {t:Tn},anS ks=true->t∈ks->dOk t=true
 |[],_,_,h=>by cases h
 |u::us,t,h,ht=>by
  rw[anS,FN] at h;rcases List.mem_cons.1 ht with rfl|ht
  ·exact h.1
  ·exact aa3 h.2 ht
def awk.kids{k m:Int}{x y:aC}{ks:List Tn}{i:Int}{f:Bool}{st:List Pc}(h:awk ((.mk k m x y ks,i,f)::st))(j:Int)(g:Bool)(h1:i<=j)(h2:j<=i+40):awk (ks.map (λt=>(t,j,g))++st):=by
 intro p hp;rcases List.mem_append.1 hp with hp|hp
 ·obtain⟨t,ht,rfl⟩:=List.mem_map.1 hp;obtain⟨h3,h4,h5⟩:=h _ Yh;simp only[dOk,Tn.size,FN] at h3 h4 h5;have hsz:=iE ht;refine⟨aa3 h3.1 ht, ?_, ?_⟩<;>simp only<;>omega
 ·exact h p (X9 _ hp)
def aqk{m:Int}{x:aC}{c:Nat}(h:VQ 4 m x c=true):0<=m∧m<=40:=by cases hx:(x==[])<;>simp[VQ,hx] at h;exact h.1
def aa4(ks:List Tn)(j:Int)(g:Bool)(st:List Pc):DR (ks.map (λt=>(t,j,g))++st)=ks++DR st:=by simp[DR,List.map_append,Function.comp_def]
def sb{α β:Type}(a:α)(f:α->Option β):(some a).bind f=f a:=by cases h:f a<;>simp[h]
section
variable {k n i g w col:Int} {x:aC} {f:Bool} {rows' rs o:aA}
def aUn(hl:rs.length<=1000000000):M.qK (col,w,o,([D.int .i64 k,.int .i64 n,.str x,.sl false 5 rows',.int .i64 g,.int .i64 i,.bool f]::rs).reverse)=
  (bif k==1 then(bif((o.length+(x.map byteRow).length) * 1).ble 140737488355328 then(bif(o.length+(x.map byteRow).length).ble 140737488355328 then some (.inl (i64.wrap (col+(x.length:Int)),w,o++x.map byteRow,rs.reverse)) else none) else none) else
   bif k==2 then(bif f then(bif((o.length+1) * 1).ble 140737488355328 then(bif(o.length+1).ble 140737488355328 then some (.inl (i64.wrap (col+1),w,o++[[D.int IntKind.u8 32]],rs.reverse)) else none) else none) else
    (bif ay o then((M.lU i o col rs.reverse).bind λr=>some (.inl (r.2.1,w,r.1,r.2.2))) else none)) else
   bif k==3 then(bif ay o then((M.lU i o col rs.reverse).bind λr=>some (.inl (r.2.1,w,r.1,r.2.2))) else none) else
   bif k==4 then(bif ay o then((M.je k n x rows' g (i64.wrap (i+n)) f o col rs.reverse).bind λr=>some (.inl (r.2.1,w,r.1,r.2.2))) else none) else
   bif k==5 then(bif f then(bif ay o then((M.je k n x rows' g i true o col rs.reverse).bind λr=>some (.inl (r.2.1,w,r.1,r.2.2))) else none) else
    (bif ay o then((M.rV k n x rows' g o col rs.reverse w).bind λr=>(bif ay r.2.1 then((M.je k n x rows' g i r.1 r.2.1 r.2.2.1 r.2.2.2.1).bind λq=>some (.inl (q.2.1,r.2.2.2.2,q.1,q.2.2))) else none)) else none)) else
   (bif ay o then((M.je k n x rows' g i f o col rs.reverse).bind λr=>some (.inl (r.2.1,w,r.1,r.2.2))) else none)):=by
 generalize hR:[D.int .i64 k,.int .i64 n,.str x,.sl false 5 rows',.int .i64 g,.int .i64 i,.bool f]=R;have c0:bI .i64 R 0=some k:=by rw[<-hR];rfl
 have c1:bI .i64 R 1=some n:=by rw[<-hR];rfl
 have c2:cStr R 2=some x:=by rw[<-hR];rfl
 have c3:cRo 5 R 3=some rows':=by rw[<-hR];rfl
 have c4:bI .i64 R 4=some g:=by rw[<-hR];rfl
 have c5:bI .i64 R 5=some i:=by rw[<-hR];rfl
 have c6:OT R 6=some f:=by rw[<-hR];rfl
 have hlen:((R::rs).reverse.length:Int)=(rs.length:Int)+1:=by simp
 have awl:i64.wrap ((rs.length:Int)+1 - 1)=(rs.length:Int):=(aG au au).trans au;have hget:(R::rs).reverse[rs.length]? =some R:=by rw[List.reverse_cons];exact aep rs R
 have htk:(R::rs).reverse.take rs.length=rs.reverse:=by rw[List.reverse_cons];exact List.take_left' (by simp)
 have hd:(decide ((0:Int)<=(rs.length:Int)) && decide ((rs.length:Int)<=(rs.length:Int)+1))=true:=by simp;omega
 have hgt:decide ((rs.length:Int)+1>0)=true:=zdt au;simp only[M.qK,M.AL,hlen,awl,hgt,bJ,Uj,hget,sb,c0,c1,c2,c3,c4,c5,c6,hd,aS,htk]
end
structure ao7(m:Nat)(st:List Pc)(rows:aA)(s:aC)(col:Int):Prop where
 sz:sizes (DR st)<=m
 is:U5 st rows
 inv:awk st
 pos:0<=col
 len:s.length+(uj (DR st)+m * 200001)<=40000000000000
 col:col+(uj (DR st)+m * 200001)<=40000000000000
 tx:uj (DR st)<=10000000000000
def ao7.rest{m:Nat}{k n:Int}{x y:aC}{ks:List Tn}{i:Int}{f:Bool}{st:List Pc}{r:Row}{rs:aA}{s s':aC}{col col':Int}(h:ao7 (m+1) ((.mk k n x y ks,i,f)::st) (r::rs) s col)
  (h0:0<=col') (h1:s'.length<=s.length+(x.length+200001)) (h2:col'<=col+(x.length+200001)):ao7 m st rs s' col':=by
 obtain⟨a1,⟨r',rs',e,_,a2⟩,a3,a4,a5,a6,a7⟩:=h;cases e;simp only[DR,OQ,sizes,Tn.size,uj,txs] at a1 a5 a6 a7;refine⟨?_,a2,λp hp=>a3 p (X9 _ hp),h0, ?_, ?_, ?_⟩<;>simp only[DR]<;>omega
def ao7.kids{m:Nat}{k n:Int}{x y:aC}{ks:List Tn}{i:Int}{f:Bool}{st:List Pc}{r:Row}{rs ps:aA}{s:aC}{col:Int}(h:ao7 (m+1) ((.mk k n x y ks,i,f)::st) (r::rs) s col)
  {j:Int} {g:Bool} (h1:i<=j) (h2:j<=i+40) (hp:U5 (ks.map λt=>(t,j,g)) ps):ao7 m (ks.map (λt=>(t,j,g))++st) (ps++rs) s col:=by
 obtain⟨a1,⟨r',rs',e,_,a2⟩,a3,a4,a5,a6,a7⟩:=h;cases e;simp only[DR,OQ,sizes,Tn.size,uj,txs] at a1 a5 a6 a7;refine⟨?_,ac8 hp a2,a3.kids j g h1 h2,a4, ?_, ?_, ?_⟩<;>rw[aa4]<;>simp only[DR,kW,QH]<;>omega
def aDR(w:Int)(hw0:0<=w)(hw1:w<=10000):∀(m:Nat) (st:List Pc) (rows:aA) (s:aC) (col:Int),m<=4000->ao7 m st rows s col->
  ∃col',dX M.qK (col,w,s.map byteRow,rows.reverse)=some (col',w,(lay w m st s col).map byteRow,[]):=by
 intro m;induction m with
 |zero=>
  intro st rows s col hmb hH;cases st with
  |cons p st=>have:=p.1.size_pos;have:=hH.sz;simp only[DR,OQ,sizes] at this;omega
  |nil=>have hP:=hH.is;rw[U5] at hP;subst hP;exact⟨col,bC rfl⟩
 |succ m ih=>
  intro st rows s col hmb hH;cases st with
  |nil=>have hP:=hH.is;rw[U5] at hP;subst hP;exact⟨col,bC rfl⟩
  |cons p st=>
   obtain⟨t,i,f⟩:=p;obtain⟨k,n,x,y,ks⟩:=t;obtain⟨r,rs,rfl,⟨rows',g',rfl,hk'⟩,hPs⟩:=hH.is;obtain⟨hd0,hi0,hi1⟩:=hH.inv _ Yh;simp only[Tn.kind,Tn.op,Tn.text,Tn.kids] at hd0 hi0 hi1 hk' hH⊢;have hsz:=hH.sz;have hln:=hH.len;have hcl:=hH.col;have htx:=hH.tx;have hps:=hH.pos;have hrl:=TS hPs;have hkl:=Iu hk';have aDQ:=X7 st;have aDS:=jq ks;have e1:DR ((Tn.mk k n x y ks,i,f)::st)=Tn.mk k n x y ks::DR st:=rfl;rw[e1,sizes,Tn.size] at hsz;rw[e1,uj,txs] at hln hcl htx;rw[Tn.size] at hi1;have hrev:rs.reverse.length<=1000000000:=by rw[List.length_reverse];omega
   have hb:=aUn (k:=k) (n:=n) (i:=i) (g:=g') (w:=w) (col:=col) (x:=x) (f:=f) (rows':=rows') (rs:=rs) (o:=s.map byteRow) au;generalize ([D.int .i64 k,.int .i64 n,.str x,.sl false 5 rows',.int .i64 g',.int .i64 i,.bool f]:Row)=R at hb hH⊢;have az7:=ayN i s col rs.reverse hi0 au au;have hbl:(brk s i).length<=s.length+(x.length+200001):=by rw[brk,qx,mV,List.length_replicate];omega
   have hpu:=fun(ii:Int) (ff:Bool)=>ayM hk' k n x g' ii ff s col rs.reverse au hrev
   simp only[Iw,aS,List.length_map] at hb;rw[lay];cases h1:k==1 with
   |true=>rw[h1,aS,aX au,aS,aX au,aS,aG au au,<-List.map_append] at hb;rw[dJ hb,aS];exact ih st rs (s++x) _ au (hH.rest au (by rw[qx];omega) au)
   |false=>
   rw[h1,bG] at hb;rw[bG];cases h2:k==2 with
   |true=>
    rw[h2,aS] at hb;cases hf:f with
    |true=>have e32:[[D.int .u8 32]]=[byteRow 32]:=rfl;rw[hf,aS,aX au,aS,aX au,aS,aG au au,e32,<-List.map_singleton,<-List.map_append] at hb;rw[dJ hb,Bool.and_self,aS];rw[hf] at hH;exact ih st rs (s++[32]) _ au (hH.rest au (by rw[qx,J9];omega) au)
    |false=>rw[hf,bG,az7,ah] at hb;rw[dJ hb,Bool.and_false,bG,Bool.true_or,aS];rw[hf] at hH;exact ih st rs (brk s i) i au (hH.rest hi0 hbl au)
   |false=>
   rw[h2,bG] at hb;rw[Bool.false_and,bG,Bool.false_or];cases h3:k==3 with
   |true=>rw[h3,aS,az7,ah] at hb;rw[dJ hb,aS];exact ih st rs (brk s i) i au (hH.rest hi0 hbl au)
   |false=>
   rw[h3,bG] at hb;rw[bG];have go:∀(j:Int) (g:Bool),i<=j->j<=i+40->∀ps,U5 (ks.map λt=>(t,j,g)) ps->M.qK (col,w,s.map byteRow,(R::rs).reverse)=some (.inl (col,w,s.map byteRow,rs.reverse++ps.reverse))->
     ∃col',dX M.qK (col,w,s.map byteRow,(R::rs).reverse)=some (col',w,(lay w m (ks.map (λt=>(t,j,g))++st) s col).map byteRow,[]):=by
    intro j g hj1 hj2 ps hps hstep;rw[dJ hstep,<-List.reverse_append];exact ih _ (ps++rs) s col au (hH.kids hj1 hj2 hps)
   cases h4:k==4 with
   |true=>
    have ek:k=4:=by simpa using h4
    rw[dOk,FN,ek] at hd0;obtain⟨hn0,hn1⟩:=aqk hd0.2;obtain⟨ps,hps,hpush⟩:=hpu (i+n) f;rw[h4,aS,aG au au,hpush,ah] at hb;rw[aS];exact go (i+n) f au au ps hps hb
   |false=>
   rw[h4,bG] at hb;rw[bG];cases h5:k==5 with
   |true=>
    rw[h5,aS] at hb;rw[aS];cases hf:f with
    |true=>obtain⟨ps,hps,hpush⟩:=hpu i true;rw[hf,aS,hpush,ah] at hb;rw[Bool.true_or];exact go i true au au ps hps hb
    |false=>have hc1:=aUm (t:=.mk k n x y ks) g' hk' hPs s col w (by rw[Tn.size];omega) (by rw[txs];omega) hps au hw0 hw1;simp only[Tn.kind,Tn.op,Tn.text] at hc1;rw[Bool.false_or];obtain⟨ps,hps,hpush⟩:=hpu i (agP w col (.mk k n x y ks) st);rw[hf,bG,hc1,ah] at hb;simp only[Iw,aS,hpush,ah] at hb;exact go i (agP w col (.mk k n x y ks) st) au au ps hps hb
   |false=>rw[h5,bG] at hb;rw[bG];obtain⟨ps,hps,hpush⟩:=hpu i f;rw[hpush,ah] at hb;exact go i f au au ps hps hb
def rnR(t:Tn)(w:Int):aC×Bool:=flR (render t w)
def agW{t:Tn}{o:Bool}(w:Int)(h:t.size<=90000000)(hx:∀n,n∈t.flat 0->n.text.length<=1000000000):M.vU (dh o (t.flat 0)) w=some (rnR t w):=by
 simp only[M.vU,M.J8,ahx (o:=o) h,ah,OB,awg (o:=o) h,rnR,render];have awj:Nat.ble t.size 4000=decide (t.size<=4000):=by rw[Bool.eq_iff_iff,decide_eq_true_eq];exact Iff.of_eq Nat.ble_eq
 rw[awj,Bool.and_comm (decide (t.size<=4000))];cases hd:(dOk t) && decide (t.size<=4000) with
 |false=>rfl
 |true=>
  cases hw:decide (0<=w) && decide (w<=10000) with
  |false=>rfl
  |true=>
   simp only[FN,decide_eq_true_eq] at hd hw;have htx:=ao6 1000000000 t 0 hx;simp only[Bool.not_true,bG,Bool.and_self,aS,flR];obtain⟨col',hl⟩:=aDR w hw.1 hw.2 t.size [(t,0,false)] [[.int .i64 t.kind,.int .i64 t.op,.str t.text,.sl false 5 (aQ (zh (t.flat 0) t.kids 0)),.int .i64 (grp ((t.flat 0).take (sizes t.kids))),.int .i64 0,.bool false]] [] 0 hd.2
    ⟨by simp[DR,sizes],⟨_,[],rfl,⟨_,_,rfl,XH _ _ _⟩,rfl⟩,λp hp=>by simp only[List.mem_singleton] at hp;subst hp;refine⟨hd.1,Int.le_refl 0, ?_⟩;simp only;omega,Int.le_refl 0,
     by simp only[DR,OQ,List.map_nil,uj,um];omega,by simp only[DR,OQ,List.map_nil,uj];omega,by simp only[DR,OQ,List.map_nil,uj];omega⟩
   rw[List.reverse_singleton] at hl;have e0:([]:aC).map byteRow=[]:=rfl;rw[e0] at hl;simp only[M.wU,M.GN,M.EX,hl,ah,Iw,aS,bytesOf_map]
def adQ(w:Int):M.vU [] w=some ([],false):=by simp only[M.vU,M.J8,ai4.1,ah];rfl
mutual
def ai6:∀(t:Tn) (pre post:List Nd) (i:Nat),i<t.size->∃b u,Lies (pre++(t.flat pre.length++post)) b u∧b+sizes u.kids=pre.length+i
 | .mk k o x y ks,pre,post,i,h=>by
  rw[Tn.size] at h
  by_cases hi:i=sizes ks
  ·exact⟨pre.length,.mk k o x y ks,⟨pre,post,rfl,rfl⟩,by rw[hi];rfl⟩
  ·obtain⟨b,u,h1,h2⟩:=agX ks pre ([⟨k,o,x,y,ends ks pre.length⟩]++post) i au;refine⟨b,u, ?_,h2⟩;rw[Tn.flat,BO];exact h1
def agX:∀(ks:List Tn) (pre post:List Nd) (i:Nat),i<sizes ks->∃b u,Lies (pre++(kD ks pre.length++post)) b u∧b+sizes u.kids=pre.length+i
 |[],_,_,i,h=>by simp[sizes] at h
 |t::ts,pre,post,i,h=>by
  rw[sizes] at h
  by_cases hi:i<t.size
  ·obtain⟨b,u,h1,h2⟩:=ai6 t pre (kD ts (pre.length+t.size)++post) i hi;refine⟨b,u, ?_,h2⟩;rw[kD,BO];exact h1
  ·obtain⟨b,u,h1,h2⟩:=agX ts (pre++t.flat pre.length) post (i - t.size) au;rw[qx,t.flat_length] at h1 h2;refine⟨b,u, ?_,au⟩;rw[kD,BO,<-BO pre];exact h1
end
def ayO{t:Tn}{i:Nat}(h:i<t.size):∃b u,Lies (t.flat 0) b u∧b+sizes u.kids=i:=by obtain⟨b,u,h1,h2⟩:=ai6 t [] [] i h;refine⟨b,u,by simpa using h1,by simpa using h2⟩
mutual
def agY:Tn->Bool
 | .mk k _ _ _ ks=>k==3||JV ks
def JV:List Tn->Bool
 |[]=>false
 |t::ts=>(agY t)||JV ts
end
def aa5{k n:Int}{x:aC}{c:Nat}(h:VQ k n x c=true)(hk:k=1∨k=2∨k=3):c=0:=by rcases hk with rfl|rfl|rfl<;>cases hn:(n==0)<;>cases hx:(x==[])<;>simp[VQ,hn,hx] at h<;>omega
def awm{k n:Int}{x:aC}{c:Nat}(h:VQ k n x c=true)(hk:k=5):c=1:=by subst hk;cases hn:(n==0)<;>cases hx:(x==[])<;>simp[VQ,hn,hx] at h<;>omega
def aDT{k n:Int}{x:aC}{c:Nat}(h:VQ k n x c=true)(h1:(k==1)=false)(h2:(k==2)=false)(h3:(k==3)=false)(h4:(k==4)=false)(h5:(k==5)=false):n=0:=by
 cases hn:(n==0) with
 |true=>simpa using hn
 |false=>simp[VQ,hn,h4] at h
mutual
def anZ:∀t:Tn,dOk t=true->(BR t).isNone=(agY t)
 | .mk k n x y ks,h=>by
  rw[dOk,FN] at h;rw[BR,agY];cases h1:k==1 with
  |true=>
   have hl:=aa5 h.2 (.inl (by simpa using h1));have:ks=[]:=List.length_eq_zero_iff.1 hl;have e:k=1:=by simpa using h1
   subst this;subst e;rfl
  |false=>
  cases h2:k==2 with
  |true=>
   have hl:=aa5 h.2 (.inr (.inl (by simpa using h2)));have:ks=[]:=List.length_eq_zero_iff.1 hl;have e:k=2:=by simpa using h2
   subst this;subst e;rfl
  |false=>
  cases h3:k==3 with
  |true=>rfl
  |false=>simp only[bG,Bool.false_or];exact ai7 ks h.1
def ai7:∀ts:List Tn,anS ts=true->(zq ts).isNone=JV ts
 |[],_=>rfl
 |t::ts,h=>by
  rw[anS,FN] at h;have h1:=anZ t h.1;have h2:=ai7 ts h.2;rw[zq,JV,<-h1,<-h2];cases BR t with
  |none=>rfl
  |some a=>cases zq ts<;>rfl
end
def VT(l:List Bool):aA:=l.map λb=>[.bool b]
def an0(l:List Bool):(VT l).length=l.length:=by simp[VT]
def an1(l:List Bool)(j:Nat):(VT l)[j]? =(l[j]?).map λb=>[D.bool b]:=by simp[VT]
def arG(l:List Bool):ay (VT l)=true:=by simp only[ay,VT,List.all_map,List.all_eq_true];intro x _;rfl
def awn(l:List Nd)(L:List Bool)(i:Nat):Prop:=L.length=i∧∀b u,Lies l b u->b+sizes u.kids<i->L[b+sizes u.kids]? =some (agY u)
def YK:∀a b:List Tn,JV (a++b)=(JV a||JV b)
 |[],b=>rfl
 |t::a,b=>by rw[TV,JV,JV,YK a b,Bool.or_assoc]
def awo{l:List Nd}{o:Bool}{L:List Bool}{i:Nat}(hI:awn l L i)(hl:l.length<=90000000){b:Nat}{u:Tn}(hu:Lies l b u)(hi:b+sizes u.kids=i)(is:Bool):
  M.Ji (dh o l) (i:Int) (VT L) (is,0)=some (is||JV u.kids,(u.kids.length:Int)):=by
 obtain⟨k,n,x,y,ks⟩:=u;have hroot:l[b+sizes ks]? =some ⟨k,n,x,y,ends ks b⟩:=hu.root;simp only[Tn.kids] at hi⊢;rw[hi] at hroot;have hlt:=hu.lt;rw[Tn.size] at hlt;have aDS:=jq ks;have hloop:=jh (b:=M.ER (dh o l) (i:Int) (VT L)) (t:=(is||JV ks,(ks.length:Int))) (λj=>(is||JV (ks.take j),(j:Int))) ks.length
  (by
   intro j hj;obtain⟨t,ht⟩:∃t,ks[j]? =some t:=⟨ks[j],by simp⟩
   have he:=VF (b:=b) ht;have hst:=LV ht;have hts:=t.uq;have hLt:=hI.2 _ t (Lies.Pv hu ht) au;rw[gW ht,YK,<-Bool.or_assoc];generalize (is||JV (ks.take j))=c;simp only[M.ER,M.yX,bJ,uM,hroot,OJ,ah,cD3,aZ,eu,lK,he,JW,Uj,an1,hLt];rw[zdt au,aS,aG au au];cases c with
   |true=>rfl
   |false=>simp only[bG,JV,Bool.or_false,Bool.false_or];rfl)
  (by simp only[M.ER,M.yX,bJ,uM,hroot,OJ,ah,cD3,aZ,eu];rw[qw au,bG,List.take_length]) 0 (Nat.zero_le _)
 rw[pY,List.take_zero,JV,Bool.or_false] at hloop;exact hloop
def awp{t:Tn}{o:Bool}(h:t.size<=90000000):∃L,awn (t.flat 0) L t.size∧M.yh (dh o (t.flat 0))=some (VT L):=by
 have key:∀(m i:Nat) (L:List Bool),t.size - i=m->i<=t.size->awn (t.flat 0) L i->∃L',awn (t.flat 0) L' t.size∧dX (M.yZ (dh o (t.flat 0))) ((i:Int),VT L)=some ((t.size:Int),VT L'):=by
  intro m;induction m with
  |zero=>intro i L hm hi hI;have:i=t.size:=au;subst this;refine⟨L,hI,bC ?_⟩;simp only[jm,M.yZ,M.yY,jg,t.flat_length];rw[qw au,bG]
  |succ m ih=>
   intro i L hm hi hI;have hlt:i<t.size:=au;obtain⟨b,u,hu,hbi⟩:=ayO hlt;have hroot:=Lies.root' hu;rw[hbi] at hroot;have hin:=λb u hu hbi=>awo (o:=o) hI (VR h).1 (b:=b) (u:=u) hu hbi (u.kind==3)
   have hin0:=hin b u hu hbi;have hL:=hI.1;have hstep:M.yZ (dh o (t.flat 0)) ((i:Int),VT L)=some (.inl (((i+1:Nat):Int),VT (L++[u.kind==3||JV u.kids]))):=by simp only[jm,M.yZ,M.yY,jg,t.flat_length,bJ,uM,hroot,OJ,ah,cD0,hin0,an0,J9];rw[zdt au,aS,aX au,aS,aX au,aS,aG au au];simp[VT]
   rw[dJ hstep];refine ih (i+1) _ au hlt ⟨by simp[hL],λb2 u2 hu2 hb2=> ?_⟩
   by_cases hc:b2+sizes u2.kids<i
   ·rw[List.getElem?_append_left au];exact hI.2 b2 u2 hu2 hc
   ·have hb2:b2+sizes u2.kids=i:=au;have h2:=hin b2 u2 hu2 hb2;have hr2:=Lies.root' hu2;rw[hb2,hroot] at hr2;simp only[iq,Nd.mk.injEq] at hr2;rw[<-hr2.1,hin0] at h2;simp only[iq,jM] at h2;rw[hb2,List.getElem?_append_right au,hL,Nat.sub_self,List.getElem?_cons_zero,h2.1,hr2.1];cases u2;rfl
 obtain⟨L,h1,h2⟩:=key t.size 0 [] rfl (Nat.zero_le _) ⟨rfl,λ_ _ _ h=>absurd h (Nat.not_lt_zero _)⟩;have e0:VT []=[]:=rfl;rw[pY,e0] at h2;refine⟨L,h1, ?_⟩;simp only[M.yh,M.Ll,M.Jj,h2,ah,arG,aS]
def isI(l:List Nd)(p:Pc)(r:Row):Prop:=∃b,Lies l b p.1∧r=[.int .i64 ((b+sizes p.1.kids:Nat):Int),.int .i64 p.2.1,.bool p.2.2]
def OI(l:List Nd):List Pc->aA->Prop
 |[],rows=>rows=[]
 |p::ps,rows=>∃r rs,rows=r::rs∧isI l p r∧OI l ps rs
def MF{l:List Nd}:∀{ts:List Pc} {rows:aA},OI l ts rows->rows.length=ts.length
 |[],_,h=>by rw[OI] at h;rw[h];rfl
 |t::ts,_,⟨r,rs,e,_,h2⟩=>by subst e;rw[mV,MF h2,mV]
def TT{l:List Nd}:∀{a b:List Pc} {ra rb:aA},OI l a ra->OI l b rb->OI l (a++b) (ra++rb)
 |[],_,_,_,h,h2=>by rw[OI] at h;subst h;exact h2
 |t::ts,_,_,_,⟨r,rs,e,h1,h2⟩,h3=>by subst e;exact⟨r,_,rfl,h1,TT h2 h3⟩
def ai8{l:List Nd}:∀{ps:List Pc} {rows:aA},OI l ps rows->rows.all (λr=>r.all D.flat)=true
 |[],_,h=>by rw[OI] at h;subst h;rfl
 |p::ps,_,⟨r,rs,e,⟨b,_,e1⟩,h2⟩=>by subst e;subst e1;rw[List.all_cons,ai8 h2];rfl
def ZI{l:List Nd}{ps:List Pc}{rows:aA}(h:OI l ps rows):ay rows.reverse=true:=by rw[ay,List.all_reverse];exact ai8 h
def aql{l:List Nd}{b:Nat}{k n:Int}{x y:aC}{ks:List Tn}(hu:Lies l b (.mk k n x y ks))(n':Int)(x':aC)(k' ii:Int)(ff:Bool){st:List Pc}{rows:aA}(hst:OI l st rows)(hl:l.length<=90000000)(hs:st.length<=1000000000):
  ∃ps,OI l (ks.map λt=>(t,ii,ff)) ps∧M.jZ rows.reverse k' n' x' (encI (ends ks b)) ii ff=some (ps++rows).reverse:=by
 have hlt:=hu.lt;rw[Tn.size] at hlt;have aDS:=jq ks;have hrl:=MF hst;have aDG:∀j t,ks[j]? =some t->isI l (t,ii,ff) [.int .i64 ((b+sizes (ks.take j)+sizes t.kids:Nat):Int),.int .i64 ii,.bool ff]:=λj t ht=>⟨_,Lies.Pv hu ht,rfl⟩
 have key:∀(j:Nat),j<=ks.length->∀ps,OI l ((ks.drop j).map λt=>(t,ii,ff)) ps->∃ps',OI l (ks.map λt=>(t,ii,ff)) ps'∧
   dX (M.GK ii ff k' n' x' (encI (ends ks b))) ((j:Int) - 1,(ps++rows).reverse)=some (-1,(ps'++rows).reverse):=by
  intro j;induction j with
  |zero=>intro _ ps hps;refine⟨ps,hps,bC ?_⟩;simp only[jm,M.GK,M.AA];rw[qw au,bG];rfl
  |succ j ihj=>
   intro hj ps hps;obtain⟨t,ht⟩:∃t,ks[j]? =some t:=⟨ks[j],by simp⟩
   have he:=VF (b:=b) ht;have hpl:=MF hps;rw[List.length_map,List.length_drop] at hpl;have hdr:ks.drop j=t::ks.drop (j+1):=by obtain⟨h1,h2⟩:=MG.1 ht;rw[List.drop_eq_getElem_cons h1,h2]
   have hlen:(ps++rows).reverse.length<=2000000000:=by rw[List.length_reverse,qx];omega
   obtain⟨ps',h1,h2⟩:=ihj au ([.int .i64 ((b+sizes (ks.take j)+sizes t.kids:Nat):Int),.int .i64 ii,.bool ff]::ps) (by rw[hdr];exact⟨_,_,rfl,aDG j t ht,hps⟩);refine⟨ps',h1, ?_⟩;rw[show(((j+1:Nat):Int) - 1)=(j:Int) by omega,<-h2];refine dJ ?_;simp only[jm,M.GK,M.AA,bJ,lK,he,OJ,ah,JW,J9];rw[zdt au,aS,aX au,aS,aX au,aS,aG au au];simp
 obtain⟨ps,h1,h2⟩:=key ks.length (Nat.le_refl _) [] (by rw[List.drop_length];rfl);rw[List.nil_append] at h2;refine⟨ps,h1, ?_⟩;simp only[M.jZ,M.Og,M.Lp,aZ,eu];rw[aG au au,h2];simp only[ah,ZI (TT h1 hst),aS]
def cost(p:Pc):Nat×Bool:=bif p.2.2 then(((BR p.1).getD []).length,false) else(bh p.1)
def X8:List Pc->Nat×Bool
 |[]=>(0,false)
 |p::ps=>bif(cost p).2 then cost p else((cost p).1+(X8 ps).1,(X8 ps).2)
def agZ:∀a b:List Pc,X8 (a++b)=bif(X8 a).2 then X8 a else((X8 a).1+(X8 b).1,(X8 b).2)
 |[],b=>by simp[X8]
 |t::a,b=>by
  rw[TV,X8,X8,agZ a b];cases h:(cost t).2 with
  |true=>simp[h]
  |false=>simp only[bG];cases h2:(X8 a).2<;>simp[Nat.add_assoc,h2]
def aqm(i:Int):∀ts:List Tn,X8 (ts.map λt=>(t,i,false))=S9 ts
 |[]=>rfl
 |t::ts=>by rw[OQ,X8,S9,aqm i ts];rfl
def an2(i:Int):∀(ts:List Tn) (s:aC),zq ts=some s->X8 (ts.map λt=>(t,i,true))=(s.length,false)
 |[],s,h=>by cases h;rfl
 |t::ts,s,h=>by
  rw[zq] at h;cases ha:BR t with
  |none=>rw[ha] at h;cases h
  |some a=>
   rw[ha] at h;cases hb:zq ts with
   |none=>rw[hb] at h;cases h
   |some b=>rw[hb] at h;cases h;rw[OQ,X8,an2 i ts b hb];simp[cost,ha]
def an3:∀(st:List Pc),(∀p,p∈st->p.2.2=false)->X8 st=S9 (DR st)
 |[],_=>rfl
 |p::st,h=>by
  have e:=h p Yh;have ec:cost p=(bh p.1):=by rw[cost,e];rfl
  have:=an3 st λq hq=>h q (X9 _ hq)
  rw[X8,this,ec];rfl
def RInv(st:List Pc):Prop:=∀p,p∈st->dOk p.1=true∧(p.2.2=true->∃s,BR p.1=some s)
def ag0:∀{ts:List Tn} {s:aC} {t:Tn},zq ts=some s->t∈ts->∃a,BR t=some a
 |[],_,_,_,h=>by cases h
 |u::ts,s,t,h,ht=>by
  rw[zq] at h;cases ha:BR u with
  |none=>rw[ha] at h;cases h
  |some a=>
   rw[ha] at h;cases hb:zq ts with
   |none=>rw[hb] at h;cases h
   |some b=>
    rcases List.mem_cons.1 ht with rfl|ht
    ·exact⟨a,ha⟩
    ·exact ag0 hb ht
def ZJ{k n:Int}{x y:aC}{ks:List Tn}(h1:(k==1)=false)(h2:(k==2)=false)(h3:(k==3)=false):BR (.mk k n x y ks)=zq ks:=by rw[BR,h1,h2,h3];rfl
def RInv.kids{k n:Int}{x y:aC}{ks:List Tn}{i:Int}{f:Bool}{st:List Pc}(h:RInv ((.mk k n x y ks,i,f)::st))(h1:(k==1)=false)(h2:(k==2)=false)(h3:(k==3)=false)(j:Int)(g:Bool)
  (hg:g=true->∃s,BR (.mk k n x y ks)=some s):RInv (ks.map (λt=>(t,j,g))++st):=by
 intro p hp;rcases List.mem_append.1 hp with hp|hp
 ·obtain⟨t,ht,rfl⟩:=List.mem_map.1 hp;obtain⟨h4,h5⟩:=h _ Yh;rw[dOk,FN] at h4;refine⟨aa3 h4.1 ht,λe=> ?_⟩;obtain⟨s,hs⟩:=hg e;rw[ZJ h1 h2 h3] at hs;exact ag0 hs ht
 ·exact h p (X9 _ hp)
def awq{l:List Nd}{o:Bool}(hl:l.length<=90000000){b:Nat}{k n:Int}{x y:aC}{ks:List Tn}(hu:Lies l b (.mk k n x y ks))(rest:aA)(room:Int)(at_:Int){ii:Int}{f:Bool}{st:List Pc}{rows:aA}(hst:OI l st rows)(hs:st.length<=1000000000)
  (hr:0<=room) (hx:x.length<=20000000000000) (hr2:room<=40000000000000) (hdn:VQ k n x ks.length=true) (an4:f=true->(k==3)=false):
  ∃ps,OI l (ks.map λt=>(t,ii,f)) ps∧
  M.fQ (dh o l) rest (room,at_,([.int .i64 ((b+sizes ks:Nat):Int),.int .i64 ii,.bool f]::rows).reverse)=
   some (bif k==1 then .inl (room - (x.length:Int),at_,(ps++rows).reverse) else bif k==2 then(bif !f then .inr (.inl ()) else .inl (room - 1,at_,(ps++rows).reverse)) else bif k==3 then .inr (.inl ()) else .inl (room,at_,(ps++rows).reverse)):=by
 obtain⟨ps,hps,hkids⟩:=aql (l:=l) hu n x k ii f hst hl hs;refine⟨ps,hps, ?_⟩;have hroot:l[b+sizes ks]? =some ⟨k,n,x,y,ends ks b⟩:=hu.root;have hrl:=MF hst;generalize hR:[D.int .i64 ((b+sizes ks:Nat):Int),.int .i64 ii,.bool f]=R;have c0:bI .i64 R 0=some ((b+sizes ks:Nat):Int):=by rw[<-hR];rfl
 have c1:bI .i64 R 1=some ii:=by rw[<-hR];rfl
 have c2:OT R 2=some f:=by rw[<-hR];rfl
 have hlen:((R::rows).reverse.length:Int)=(rows.length:Int)+1:=by simp
 have awl:i64.wrap ((rows.length:Int)+1 - 1)=(rows.length:Int):=(aG au au).trans au;have hget:(R::rows).reverse[rows.length]? =some R:=by rw[List.reverse_cons];exact aep rows R
 have htk:(R::rows).reverse.take rows.length=rows.reverse:=by rw[List.reverse_cons];exact List.take_left' (by simp)
 have hd:(decide ((0:Int)<=(rows.length:Int)) && decide ((rows.length:Int)<=(rows.length:Int)+1))=true:=by simp;omega
 have hz:(((rows.length:Int)+1)==0)=false:=MJ.2 au;have hge:decide (room>=0)=true:=zdt hr;have hfl:=ZI hst;have az8:(k=1∨k=2∨k=3)->ps=[]:=by intro hk;have hc:=aa5 hdn hk;have:ks=[]:=List.length_eq_zero_iff.1 hc;subst this;exact hps
 have hwa:i64.wrap (room - (x.length:Int))=room - (x.length:Int):=aG au au;have hwb:i64.wrap (room - 1)=room - 1:=aG au au;simp only[jm,M.fQ,M.nJ,hwa,hwb,hge,hlen,hz,awl,bJ,Uj,hget,sb,c0,c1,c2,hd,aS,bG,uM,hroot,OJ,cD0,cD1,cD2,cD3,htk,hfl,hkids];cases h1:k==1 with
 |true=>rw[az8 (.inl (by simpa using h1))];rfl
 |false=>
 cases h2:k==2 with
 |true=>rw[az8 (.inr (.inl (by simpa using h2)))];cases f<;>rfl
 |false=>cases h3:k==3<;>rfl
def ayP{l:List Nd}{o:Bool}(hl:l.length<=90000000){all:aA}(hall:all.length<=1000000000):∀(m:Nat) (us rs:List Pc) (rows rws pre:aA) (room:Int),sizes (DR us)+sizes (DR rs)<=m->m<=1000000000->OI l us rows->OI l rs rws->all=pre++rws->
  RInv (us++rs)-> -50000000000000<=room->room<=40000000000000->uj (DR us)+uj (DR rs)<=20000000000000->
  (decide (((X8 (us++rs)).1:Int)<=room)=true∧dX (M.fQ (dh o l) all.reverse) (room,(rws.length:Int),rows.reverse)=some (.inl ()))∨
  (decide (((X8 (us++rs)).1:Int)<=room)=false∧∃s,dX (M.fQ (dh o l) all.reverse) (room,(rws.length:Int),rows.reverse)=some (.inr s)):=by
 intro m;induction m with
 |zero=>
  intro us rs rows rws pre room hm hmb hU hR ha hI hr0 hr1 htx;have hu0:us=[]:=by
   cases us with
   |nil=>rfl
   |cons p us=>have:=p.1.size_pos;simp only[DR,OQ,sizes] at hm;omega
  have a5A:rs=[]:=by
   cases rs with
   |nil=>rfl
   |cons p us=>have:=p.1.size_pos;simp only[DR,OQ,sizes] at hm;omega
  subst hu0;subst a5A;rw[OI] at hU hR;subst hU;subst hR
  by_cases hr:0<=room
  ·refine .inl ⟨zdt (by simpa[X8] using hr),bC ?_⟩;simp only[jm,M.fQ,M.nJ,zdt (show room>=0 from hr)];rfl
  ·refine .inr ⟨qw (by simp[X8];omega),(room,0,[]),bC ?_⟩;simp only[jm,M.fQ,M.nJ,qw (show¬room>=0 by omega)];rfl
 |succ m ih=>
  intro us rs rows rws pre room hm hmb hU hR ha hI hr0 hr1 htx
  by_cases hr:0<=room
  case neg=>refine .inr ⟨qw au,(room,(rws.length:Int),rows.reverse),bC ?_⟩;simp only[jm,M.fQ,M.nJ,qw (show¬room>=0 by omega)];rfl
  have top:∀(p:Pc) (us rs:List Pc) (rows rws pre:aA) (r:Row),sizes (DR (p::us))+sizes (DR rs)<=m+1->isI l p r->OI l us rows->OI l rs rws->all=pre++rws->RInv (p::us++rs)->uj (DR (p::us))+uj (DR rs)<=20000000000000->
    ∀R,M.fQ (dh o l) all.reverse (room,(rws.length:Int),(r::rows).reverse)=R->
    (∀q:(Int×Int×aA)⊕((Unit)⊕(Int×Int×aA)),R=some q->
     (decide (((X8 (p::us++rs)).1:Int)<=room)=true∧q=.inr (.inl ()))∨
     (∃s,q=.inl s∧((decide (((X8 (p::us++rs)).1:Int)<=room)=true∧dX (M.fQ (dh o l) all.reverse) s=some (.inl ()))∨
      (decide (((X8 (p::us++rs)).1:Int)<=room)=false∧∃s',dX (M.fQ (dh o l) all.reverse) s=some (.inr s')))))∧R≠none:=by
   intro p us rs rows rws pre r hm hp hU hR ha hI htx R hRd;obtain⟨t,ii,f⟩:=p;obtain⟨k,n,x,y,ks⟩:=t;obtain⟨b,hu,rfl⟩:=hp;simp only[Tn.kids] at hu hRd;obtain⟨hd0,hfl⟩:=hI _ Yh;simp only at hd0 hfl;have hd1:=hd0;rw[dOk,FN] at hd1;have e1:DR ((Tn.mk k n x y ks,ii,f)::us)=Tn.mk k n x y ks::DR us:=rfl;rw[e1,sizes,Tn.size] at hm;rw[e1,uj,txs] at htx;have hul:=X7 us;have an4:f=true->(k==3)=false:=by
    intro e;obtain⟨s,hs⟩:=hfl e;cases h3:k==3 with
    |false=>rfl
    |true=>
     have e3:k=3:=by simpa using h3
     subst e3;cases hs
   obtain⟨ps,hps,hone⟩:=awq (o:=o) hl hu all.reverse room (rws.length:Int) (ii:=ii) (f:=f) hU au hr au hr1 hd1.2 an4;rw[hone] at hRd;subst hRd;refine⟨λq hq=> ?_,by simp⟩;simp only[iq] at hq;subst hq;have hIr:RInv (us++rs):=λp hp=>hI p (X9 _ hp)
   rw[TV,X8];cases h1:k==1 with
   |true=>
    have ek:k=1:=by simpa using h1
    have hk0:ks=[]:=List.length_eq_zero_iff.1 (aa5 hd1.2 (.inl ek));subst hk0;have hc:cost (Tn.mk k n x y [],ii,f)=(x.length,false):=by subst ek;cases f<;>simp[cost,BR,bh,S9]
    have hps0:ps=[]:=hps;subst hps0;simp only[aS,List.nil_append,hc,bG];refine .inr ⟨_,rfl, ?_⟩;have:=ih us rs rows rws pre (room - (x.length:Int)) au au hU hR ha hIr au au au;have hdd:decide (((x.length+(X8 (us++rs)).1:Nat):Int)<=room)=decide (((X8 (us++rs)).1:Int)<=room - (x.length:Int)):=by rw[Bool.eq_iff_iff,decide_eq_true_eq,decide_eq_true_eq];omega
    rw[hdd];exact this
   |false=>
   cases h2:k==2 with
   |true=>
    have ek:k=2:=by simpa using h2
    have hk0:ks=[]:=List.length_eq_zero_iff.1 (aa5 hd1.2 (.inr (.inl ek)));subst hk0;cases hf:f with
    |false=>
     have hc:cost (Tn.mk k n x y [],ii,false)=(0,true):=by subst ek;simp[cost,bh]
     simp only[hc,aS];exact .inl ⟨zdt au,rfl⟩
    |true=>
     have hc:cost (Tn.mk k n x y [],ii,true)=(1,false):=by subst ek;simp[cost,BR]
     have hps0:ps=[]:=hps;subst hps0;simp only[aS,bG,List.nil_append,hc,Bool.not_true];refine .inr ⟨_,rfl, ?_⟩;have:=ih us rs rows rws pre (room - 1) au au hU hR ha hIr au au au;have hdd:decide (((1+(X8 (us++rs)).1:Nat):Int)<=room)=decide (((X8 (us++rs)).1:Int)<=room - 1):=by rw[Bool.eq_iff_iff,decide_eq_true_eq,decide_eq_true_eq];omega
     rw[hdd];exact this
   |false=>
   cases h3:k==3 with
   |true=>
    have ek:k=3:=by simpa using h3
    have hf:f=false:=by
     cases hf:f with
     |false=>rfl
     |true=>rw[an4 hf] at h3;cases h3
    subst hf;have hc:cost (Tn.mk k n x y ks,ii,false)=(0,true):=by subst ek;simp[cost,bh]
    simp only[hc,aS];exact .inl ⟨zdt au,rfl⟩
   |false=>
    simp only[bG];refine .inr ⟨_,rfl, ?_⟩;have hIk:=hI.kids h1 h2 h3 ii f hfl;have:=ih (ks.map (λt=>(t,ii,f))++us) rs (ps++rows) rws pre room (by rw[aa4,kW];omega) au (TT hps hU) hR ha (by rw[BO];exact hIk) au au (by rw[aa4,QH];omega);have hcf:X8 (ks.map (λt=>(t,ii,f)))=cost (Tn.mk k n x y ks,ii,f):=by
     cases hf:f with
     |true=>rw[hf] at hfl;obtain⟨s,hs⟩:=hfl rfl;have hs':=hs;rw[ZJ h1 h2 h3] at hs';rw[an2 ii ks s hs',cost,hs];rfl
     |false=>rw[aqm,cost,bh,h1,h2,h3];simp
    rw[BO,agZ,hcf] at this;exact this
  cases us with
  |cons p us=>
   obtain⟨r,rows',rfl,hp,hU'⟩:=hU;obtain⟨t1,t2⟩:=top p us rs rows' rws pre r hm hp hU' hR ha hI htx _ rfl;cases hb:M.fQ (dh o l) all.reverse (room,(rws.length:Int),(r::rows').reverse) with
   |none=>exact absurd hb t2
   |some q=>
    rcases t1 q hb with⟨h1,rfl⟩|⟨s,rfl,h1⟩
    ·exact .inl ⟨h1,bC hb⟩
    ·rw[dJ hb];exact h1
  |nil=>
   rw[OI] at hU;subst hU;cases rs with
   |nil=>rw[OI] at hR;subst hR;refine .inl ⟨zdt (by simpa[X8] using hr),bC ?_⟩;simp only[jm,M.fQ,M.nJ,zdt (show room>=0 from hr)];rfl
   |cons p rs=>
    obtain⟨r,ahz,rfl,hp,hR'⟩:=hR;have a6y:=X7 rs;have hrl:=MF hR';have hm':sizes (DR [p])+sizes (DR rs)<=m+1:=by simp only[DR,OQ,List.map_nil,sizes] at hm⊢;omega
    have a5B:uj (DR [p])+uj (DR rs)<=20000000000000:=by simp only[DR,OQ,List.map_nil,uj] at htx⊢;omega
    obtain⟨t1,t2⟩:=top p [] rs [] ahz (pre++[r]) r hm' hp rfl hR' (by rw[ha];simp) hI a5B _ rfl;have hsame:M.fQ (dh o l) all.reverse (room,(((r::ahz).length:Nat):Int),[].reverse)=M.fQ (dh o l) all.reverse (room,(ahz.length:Int),[r].reverse):=by
     obtain⟨b,hu,rfl⟩:=hp;have az9:all.reverse[ahz.length]? =some [.int .i64 ((b+sizes p.1.kids:Nat):Int),.int .i64 p.2.1,.bool p.2.2]:=by rw[ha,List.reverse_append,List.reverse_cons,BO,List.getElem?_append_right (by simp)];simp
     generalize hR:[D.int .i64 ((b+sizes p.1.kids:Nat):Int),.int .i64 p.2.1,.bool p.2.2]=R at az9⊢;have c0:bI .i64 R 0=some ((b+sizes p.1.kids:Nat):Int):=by rw[<-hR];rfl
     have c1:bI .i64 R 1=some p.2.1:=by rw[<-hR];rfl
     have c2:OT R 2=some p.2.2:=by rw[<-hR];rfl
     have hge:decide (room>=0)=true:=zdt hr;have hl1:(((R::ahz).length:Nat):Int)=(ahz.length:Int)+1:=by simp
     have hz:(((ahz.length:Int)+1)==0)=false:=MJ.2 au;have hw1:i64.wrap ((ahz.length:Int)+1 - 1)=(ahz.length:Int):=(aG au au).trans au;have hb1:Nat.ble ((0+1) * 24) 140737488355328=true:=aX au;have hb2:Nat.ble (0+1) 140737488355328=true:=aX au;have hz0:(((0:Nat):Int)==0)=true:=rfl;have hz1:(((1:Nat):Int)==0)=false:=rfl;have hq0:i64.wrap (((1:Nat):Int) - 1)=((0:Nat):Int):=(aG au au).trans au;have hg0:([R]:aA)[0]? =some R:=rfl;simp only[jm,M.fQ,M.nJ,List.reverse_nil,List.reverse_singleton,hge,aS,bG,hl1,hz,hz0,hz1,hw1,bJ,az9,sb,c0,c1,c2,List.nil_append,um,J9,hb1,hb2,hR,hq0,hg0,Uj]
    cases hb:M.fQ (dh o l) all.reverse (room,(ahz.length:Int),[r].reverse) with
    |none=>exact absurd hb t2
    |some q=>
     rcases t1 q hb with⟨h1,rfl⟩|⟨s,rfl,h1⟩
     ·exact .inl ⟨h1,bC (hsame.trans hb)⟩
     ·rw[dJ (hsame.trans hb)];exact h1
def awr(ii:Int)(s:aC)(h0:0<=ii)(h1:ii<=200000)(hs:s.length<=80000000000000):M.qY (s.map byteRow) ii=some ((brk s ii).map byteRow):=by
 obtain⟨n,rfl⟩:∃n:Nat,ii=n:=⟨ii.toNat,au⟩
 have hloop:=jh (b:=M.ES (n:Int)) (t:=((n:Int),(s++(10::List.replicate n 32)).map byteRow)) (λi=>((i:Int),(s++(10::List.replicate i 32)).map byteRow)) n
  (by
   intro i hi;have hlen:((s++(10::List.replicate i (32:UInt8))).map byteRow).length=s.length+(i+1):=by simp
   have e32:[[D.int .u8 32]]=[byteRow 32]:=rfl;simp only[M.ES,M.y5,hlen];rw[zdt au,aS,aX au,aS,aX au,aS,aG au au,e32,<-List.map_singleton,<-List.map_append,BO,TV,<-List.replicate_succ'];rfl)
  (by simp only[M.ES,M.y5];rw[qw au,bG]) 0 (Nat.zero_le _)
 have e10:s.map byteRow++[[D.int .u8 10]]=(s++(10::List.replicate 0 32)).map byteRow:=by simp[byteRow]
 rw[pY] at hloop;simp only[M.qY,M.Lm,List.length_map,M.Jk,e10,hloop,ah,Iw,aS];rw[aX au,aS,aX au,aS];rfl
section
variable {l:List Nd} {o:Bool} {b:Nat} {k n i w col:Int} {x y:aC} {ks:List Tn} {f:Bool} {rs out:aA} {L:List Bool}
def aDU(hl:rs.length<=1000000000)(hu:Lies l b (.mk k n x y ks))(hf:ay rs.reverse=true)(hL:L[b+sizes ks]? =some (agY (.mk k n x y ks)))(u:Tn)(h5:k=5->ks=[u]):M.yx (dh o l) w (VT L) (col,out,([.int .i64 ((b+sizes ks:Nat):Int),.int .i64 i,.bool f]::rs).reverse)=
  (bif k==1 then(bif((out.length+(x.map byteRow).length) * 1).ble 140737488355328 then(bif(out.length+(x.map byteRow).length).ble 140737488355328 then some (.inl (i64.wrap (col+(x.length:Int)),out++x.map byteRow,rs.reverse)) else none) else none) else
   bif k==2||k==3 then(bif f then(bif((out.length+1) * 1).ble 140737488355328 then(bif(out.length+1).ble 140737488355328 then some (.inl (i64.wrap (col+1),out++[[D.int IntKind.u8 32]],rs.reverse)) else none) else none) else
    (bif ay out then((M.qY out i).bind λr=>some (.inl (i,r,rs.reverse))) else none)) else
   bif k==5 then(bif f then((M.jZ rs.reverse k n x (encI (ends ks b)) i true).bind λr=>some (.inl (col,out,r))) else
    (bif !(agY (.mk k n x y ks)) then((M.xI (dh o l) rs.reverse ((b+sizes u.kids:Nat):Int) i true (i64.wrap (w - col))).bind λq=>(M.jZ rs.reverse k n x (encI (ends ks b)) i q).bind λr=>some (.inl (col,out,r))) else
     ((M.jZ rs.reverse k n x (encI (ends ks b)) i false).bind λr=>some (.inl (col,out,r))))) else
   ((M.jZ rs.reverse k n x (encI (ends ks b)) (i64.wrap (i+n)) f).bind λr=>some (.inl (col,out,r)))):=by
 have hroot:l[b+sizes ks]? =some ⟨k,n,x,y,ends ks b⟩:=hu.root;generalize hR:[D.int .i64 ((b+sizes ks:Nat):Int),.int .i64 i,.bool f]=R;have c0:bI .i64 R 0=some ((b+sizes ks:Nat):Int):=by rw[<-hR];rfl
 have c1:bI .i64 R 1=some i:=by rw[<-hR];rfl
 have c2:OT R 2=some f:=by rw[<-hR];rfl
 have cb:∀z:Bool,OT [D.bool z] 0=some z:=λ_=>rfl
 have hlen:((R::rs).reverse.length:Int)=(rs.length:Int)+1:=by simp
 have awl:i64.wrap ((rs.length:Int)+1 - 1)=(rs.length:Int):=(aG au au).trans au;have hget:(R::rs).reverse[rs.length]? =some R:=by rw[List.reverse_cons];exact aep rs R
 have htk:(R::rs).reverse.take rs.length=rs.reverse:=by rw[List.reverse_cons];exact List.take_left' (by simp)
 have hd:(decide ((0:Int)<=(rs.length:Int)) && decide ((rs.length:Int)<=(rs.length:Int)+1))=true:=by simp;omega
 have hgt:decide ((rs.length:Int)+1>0)=true:=zdt au;simp only[M.yx,M.Jl,hlen,awl,hgt,bJ,Uj,hget,sb,c0,c1,c2,hd,aS,htk,uM,hroot,OJ,cD0,cD1,cD2,cD3,hf,an1,hL,cb];cases h1:k==1 with
 |true=>rfl
 |false=>
 cases h2:k==2 with
 |true=>rfl
 |false=>
 cases h3:k==3 with
 |true=>rfl
 |false=>
 cases h5':k==5 with
 |false=>rfl
 |true=>
  have hks:=h5 (by simpa using h5');subst hks;have e0:idx (encI (ends [u] b)) 0=some [D.int .i64 ((b+sizes u.kids:Nat):Int)]:=by have:=bJ (encI (ends [u] b)) 0;rw[pY] at this;rw[this,lK,VF (ks:=[u]) (j:=0) (t:=u) rfl];rfl
  cases f with
  |true=>rfl
  |false=>
   cases agY (.mk k n x y [u]) with
   |true=>rfl
   |false=>simp only[bG,Bool.not_false,aS,e0,ah,JW,Bool.or_self]
end
def ahA(st:List Pc):Prop:=∃a c,st=a++c∧(∀p,p∈a->p.2.2=true)∧∀p,p∈c->p.2.2=false
def ahA.aUo{t:Tn}{i:Int}{st:List Pc}(h:ahA ((t,i,false)::st)):∀p,p∈st->p.2.2=false:=by
 obtain⟨a,c,e,h1,h2⟩:=h;cases a with
 |nil=>rw[List.nil_append] at e;intro p hp;exact h2 p (by rw[<-e];exact X9 _ hp)
 |cons q a=>rw[TV] at e;cases e;exact absurd (h1 _ Yh) (by simp)
def ahA.tail{p:Pc}{st:List Pc}(h:ahA (p::st)):ahA st:=by
 obtain⟨a,c,e,h1,h2⟩:=h;cases a with
 |nil=>rw[List.nil_append] at e;exact⟨[],st,rfl,(λ_ h=>by cases h),λq hq=>h2 q (by rw[<-e];exact X9 _ hq)⟩
 |cons q a=>rw[TV] at e;cases e;exact⟨a,c,rfl,λq hq=>h1 q (X9 _ hq),h2⟩
def ahA.kids{t:Tn}{i:Int}{f:Bool}{st:List Pc}(h:ahA ((t,i,f)::st))(ks:List Tn)(j:Int)(g:Bool)(hg:f=true->g=true):ahA (ks.map (λt=>(t,j,g))++st):=by
 cases g with
 |true=>
  obtain⟨a,c,e,h1,h2⟩:=h.tail;refine⟨ks.map (λt=>(t,j,true))++a,c,by rw[e,BO],λp hp=> ?_,h2⟩;rcases List.mem_append.1 hp with hp|hp
  ·obtain⟨t,_,rfl⟩:=List.mem_map.1 hp;rfl
  ·exact h1 p hp
 |false=>
  cases f with
  |true=>exact absurd (hg rfl) (by simp)
  |false=>
   have hn:=h.aUo;refine⟨[],ks.map (λt=>(t,j,false))++st,rfl,(λ_ h=>by cases h),λp hp=> ?_⟩;rcases List.mem_append.1 hp with hp|hp
   ·obtain⟨t,_,rfl⟩:=List.mem_map.1 hp;rfl
   ·exact hn p hp
structure ao8(l:List Nd)(m:Nat)(st:List Pc)(rows:aA)(s:aC)(col:Int):Prop where
 sz:sizes (DR st)<=m
 is:OI l st rows
 inv:awk st
 rin:RInv st
 fin:ahA st
 pos:0<=col
 len:s.length+(uj (DR st)+m * 200001)<=40000000000000
 col:col+(uj (DR st)+m * 200001)<=40000000000000
 tx:uj (DR st)<=10000000000000
def ao8.rest{l:List Nd}{m:Nat}{k n:Int}{x y:aC}{ks:List Tn}{i:Int}{f:Bool}{st:List Pc}{r:Row}{rs:aA}{s s':aC}{col col':Int}(h:ao8 l (m+1) ((.mk k n x y ks,i,f)::st) (r::rs) s col)
  (h0:0<=col') (h1:s'.length<=s.length+(x.length+200001)) (h2:col'<=col+(x.length+200001)):ao8 l m st rs s' col':=by
 obtain⟨a1,⟨r',rs',e,_,a2⟩,a3,b1,b2,a4,a5,a6,a7⟩:=h;cases e;simp only[DR,OQ,sizes,Tn.size,uj,txs] at a1 a5 a6 a7;refine⟨?_,a2,λp hp=>a3 p (X9 _ hp),λp hp=>b1 p (X9 _ hp),b2.tail,h0, ?_, ?_, ?_⟩<;>simp only[DR]<;>omega
def ao8.kids{l:List Nd}{m:Nat}{k n:Int}{x y:aC}{ks:List Tn}{i:Int}{f:Bool}{st:List Pc}{r:Row}{rs ps:aA}{s:aC}{col:Int}(h:ao8 l (m+1) ((.mk k n x y ks,i,f)::st) (r::rs) s col)
  {j:Int} {g:Bool} (h1:i<=j) (h2:j<=i+40) (hp:OI l (ks.map λt=>(t,j,g)) ps) (k1:(k==1)=false) (k2:(k==2)=false) (k3:(k==3)=false) (hg:g=true->∃s,BR (.mk k n x y ks)=some s) (hfg:f=true->g=true):
  ao8 l m (ks.map (λt=>(t,j,g))++st) (ps++rs) s col:=by
 obtain⟨a1,⟨r',rs',e,_,a2⟩,a3,b1,b2,a4,a5,a6,a7⟩:=h;cases e;simp only[DR,OQ,sizes,Tn.size,uj,txs] at a1 a5 a6 a7;refine⟨?_,TT hp a2,a3.kids j g h1 h2,b1.kids k1 k2 k3 j g hg,b2.kids ks j g hfg,a4, ?_, ?_, ?_⟩<;>rw[aa4]<;>simp only[DR,kW,QH]<;>omega
def ayQ(T:Tn)(o:Bool)(hT:T.size<=4000)(L:List Bool)(hL:awn (T.flat 0) L T.size)(w:Int)(hw0:0<=w)(hw1:w<=10000):∀(m:Nat) (st:List Pc) (rows:aA) (s:aC) (col:Int),m<=4000->ao8 (T.flat 0) m st rows s col->
  ∃col',dX (M.yx (dh o (T.flat 0)) w (VT L)) (col,s.map byteRow,rows.reverse)=some (col',(lay w m st s col).map byteRow,[]):=by
 intro m;induction m with
 |zero=>
  intro st rows s col hmb hH;cases st with
  |cons p st=>have:=p.1.size_pos;have:=hH.sz;simp only[DR,OQ,sizes] at this;omega
  |nil=>have hP:=hH.is;rw[OI] at hP;subst hP;exact⟨col,bC rfl⟩
 |succ m ih=>
  intro st rows s col hmb hH;cases st with
  |nil=>have hP:=hH.is;rw[OI] at hP;subst hP;exact⟨col,bC rfl⟩
  |cons p st=>
   obtain⟨t,i,f⟩:=p;obtain⟨k,n,x,y,ks⟩:=t;obtain⟨r,rs,rfl,⟨b,hu,rfl⟩,hPs⟩:=hH.is;obtain⟨hd0,hi0,hi1⟩:=hH.inv _ Yh;obtain⟨_,awt⟩:=hH.rin _ Yh;simp only[Tn.kids] at hd0 hi0 hi1 hu awt hH⊢;have hsz:=hH.sz;have hln:=hH.len;have hcl:=hH.col;have htx:=hH.tx;have hps:=hH.pos;have hrl:=MF hPs;have aDQ:=X7 st;have aDS:=jq ks;have hlt:=hu.lt;rw[T.flat_length,Tn.size] at hlt;have e1:DR ((Tn.mk k n x y ks,i,f)::st)=Tn.mk k n x y ks::DR st:=rfl;rw[e1,sizes,Tn.size] at hsz;rw[e1,uj,txs] at hln hcl htx;rw[Tn.size] at hi1;have hd1:=hd0;rw[dOk,FN] at hd1;have hLb:=hL.2 b _ hu (by simp only[Tn.kids];omega);simp only[Tn.kids] at hLb;have aUp:(T.flat 0).length<=90000000:=by rw[T.flat_length];omega
   obtain⟨u,hu5⟩:∃u,k=5->ks=[u]:=by
    cases ks with
    |nil=>exact⟨.mk 0 0 [] [] [],λe=>absurd (awm hd1.2 e) (by simp)⟩
    |cons v vs=>exact⟨v,λe=>by have:=awm hd1.2 e;cases vs with
      |nil=>rfl
      |cons _ _=>simp at this⟩
   have hb:=aDU (o:=o) (i:=i) (w:=w) (col:=col) (f:=f) (rs:=rs) (out:=s.map byteRow) (L:=L) au hu (ZI hPs) hLb u hu5;have hkids:=fun(ii:Int) (ff:Bool)=>aql hu n x k ii ff hPs aUp au
   generalize ([.int .i64 ((b+sizes ks:Nat):Int),.int .i64 i,.bool f]:Row)=R at hb hH⊢;have hbr:=awr i s hi0 au au;have hbl:(brk s i).length<=s.length+(x.length+200001):=by rw[brk,qx,mV,List.length_replicate];omega
   simp only[Iw,aS,List.length_map] at hb;rw[lay];cases h1:k==1 with
   |true=>rw[h1,aS,aX au,aS,aX au,aS,aG au au,<-List.map_append] at hb;rw[dJ hb,aS];exact ih st rs (s++x) _ au (hH.rest au (by rw[qx];omega) au)
   |false=>
   rw[h1,bG] at hb;rw[bG];cases h23:(k==2||k==3) with
   |true=>
    rw[h23,aS] at hb;cases hf:f with
    |true=>
     have h2:(k==2)=true:=by
      cases h2:k==2 with
      |true=>rfl
      |false=>
       rw[h2,Bool.false_or] at h23;have ek:k=3:=by simpa using h23
       obtain⟨s',hs'⟩:=awt hf;subst ek;cases hs'
     have e32:[[D.int .u8 32]]=[byteRow 32]:=rfl;rw[hf,aS,aX au,aS,aX au,aS,aG au au,e32,<-List.map_singleton,<-List.map_append] at hb;rw[dJ hb,h2,Bool.and_self,aS];rw[hf] at hH;exact ih st rs (s++[32]) _ au (hH.rest au (by rw[qx,J9];omega) au)
    |false=>rw[hf,bG,hbr,ah] at hb;rw[dJ hb,Bool.and_false,bG,aS];rw[hf] at hH;exact ih st rs (brk s i) i au (hH.rest hi0 hbl au)
   |false=>
   rw[h23,bG] at hb;obtain⟨h2,h3⟩:(k==2)=false∧(k==3)=false:=by simpa using h23
   rw[h2,Bool.false_and,bG,bG];have go:∀(j:Int) (g:Bool),i<=j->j<=i+40->(g=true->∃s,BR (.mk k n x y ks)=some s)->(f=true->g=true)->∀ps,OI (T.flat 0) (ks.map λt=>(t,j,g)) ps->M.yx (dh o (T.flat 0)) w (VT L) (col,s.map byteRow,(R::rs).reverse)=some (.inl (col,s.map byteRow,(ps++rs).reverse))->
     ∃col',dX (M.yx (dh o (T.flat 0)) w (VT L)) (col,s.map byteRow,(R::rs).reverse)=some (col',(lay w m (ks.map (λt=>(t,j,g))++st) s col).map byteRow,[]):=by
    intro j g hj1 hj2 hg hfg ps hps hstep;rw[dJ hstep];exact ih _ (ps++rs) s col au (hH.kids hj1 hj2 hps h1 h2 h3 hg hfg)
   cases h4:k==4 with
   |true=>
    have ek:k=4:=by simpa using h4
    have h5:(k==5)=false:=by rw[ek];rfl
    rw[ek] at hd1;obtain⟨hn0,hn1⟩:=aqk hd1.2;obtain⟨ps,hps,hpush⟩:=hkids (i+n) f;rw[h5,bG,aG au au,hpush,ah] at hb;rw[aS];exact go (i+n) f au au awt (λe=>e) ps hps hb
   |false=>
   rw[bG];cases h5:k==5 with
   |true=>
    rw[h5,aS] at hb;rw[aS];have ek:k=5:=by simpa using h5
    cases hf:f with
    |true=>obtain⟨ps,hps,hpush⟩:=hkids i true;rw[hf,aS,hpush,ah] at hb;rw[Bool.true_or];exact go i true au au (λ_=>awt hf) (λ_=>rfl) ps hps hb
    |false=>
     rw[hf,bG] at hb;rw[Bool.false_or];have hks:=hu5 ek;have an4:=anZ (.mk k n x y ks) hd0;rw[<-an4] at hb;cases hx:BR (.mk k n x y ks) with
     |none=>
      rw[hx] at hb;obtain⟨ps,hps,hpush⟩:=hkids i false;simp only[Option.isNone_none,Bool.not_true,bG,hpush,ah] at hb;have aDV:agP w col (.mk k n x y ks) st=false:=by rw[agP,hx]
      rw[aDV];exact go i false au au (λe=>by cases e) (λe=>by rw[hf] at e;cases e) ps hps hb
     |some a=>
      rw[hx] at hb;have hal:=aa2 _ a hx;rw[txs,Tn.size] at hal;have hn:=ahA.aUo (t:=.mk k n x y ks) (i:=i) (st:=st) (by have:=hH.fin;rw[hf] at this;exact this);have hxk:=hx;rw[ZJ h1 h2 h3,hks] at hxk;have hfu:∃a',BR u=some a'∧a'.length=a.length:=by
       rw[zq,zq] at hxk;cases hq:BR u with
       |none=>rw[hq] at hxk;cases hxk
       |some a'=>rw[hq] at hxk;cases hxk;exact⟨a',rfl,by simp⟩
      obtain⟨a',ha',hla⟩:=hfu;have hsu:sizes ks=u.size:=by rw[hks];simp[sizes]
      have htu:uj ks=txs u:=by rw[hks];simp[uj]
      have hmu:u∈ks:=by rw[hks];exact Yh
      have a5C:OI (T.flat 0) [(u,i,true)] [[.int .i64 ((b+sizes u.kids:Nat):Int),.int .i64 i,.bool true]]:=by have:=Lies.Pv hu (j:=0) (t:=u) (by rw[hks];rfl);exact⟨_,[],rfl,⟨b,by simpa[sizes] using this,rfl⟩,rfl⟩
      have awj:=agT (DR st);have hfit:=ayP (l:=T.flat 0) (o:=o) aUp (all:=rs) au (sizes (DR [(u,i,true)])+sizes (DR st)) [(u,i,true)] st _ rs [] (w - col) (Nat.le_refl _) (by simp only[DR,OQ,List.map_nil,sizes];simp only[DR] at hsz;omega) a5C hPs rfl
       (λp hp=>by
        rcases List.mem_append.1 hp with hp|hp
        ·simp only[List.mem_singleton] at hp;subst hp;exact⟨aa3 hd1.1 hmu,λ_=>⟨a',ha'⟩⟩
        ·exact hH.rin p (X9 _ hp)) au au (by simp only[DR,OQ,List.map_nil,uj];simp only[DR] at htx;omega)
      have hfb:(X8 ([(u,i,true)]++st)).1=a.length+(S9 (DR st)).1:=by rw[List.singleton_append,X8,an3 st hn];simp[cost,ha',hla]
      rw[hfb] at hfit;have aDV:agP w col (.mk k n x y ks) st=decide (((a.length+(S9 (DR st)).1:Nat):Int)<=w - col):=by rw[agP,hx];simp only[Int.natCast_add];rfl
      have hrun:M.xI (dh o (T.flat 0)) rs.reverse ((b+sizes u.kids:Nat):Int) i true (w - col)=some (agP w col (.mk k n x y ks) st):=by
       rw[aDV];simp only[M.xI,M.Oh,List.length_reverse,M.Lr];rw[List.reverse_singleton] at hfit;rcases hfit with⟨q1,q2⟩|⟨q1,s',q2⟩
       ·rw[q2,q1];rfl
       ·rw[q2,q1];rfl
      obtain⟨ps,hps,hpush⟩:=hkids i (agP w col (.mk k n x y ks) st);simp only[Option.isNone_some,Bool.not_false,aS] at hb;rw[aG au au,hrun,ah,hpush,ah] at hb;exact go i _ au au (λ_=>⟨a,hx⟩) (λe=>by rw[hf] at e;cases e) ps hps hb
   |false=>have hn0:=aDT hd1.2 h1 h2 h3 h4 h5;rw[h5,bG,hn0,Int.add_zero,aG au au] at hb;rw[bG];obtain⟨ps,hps,hpush⟩:=hkids i f;rw[hn0] at hpush;rw[hpush,ah] at hb;exact go i f au au awt (λe=>e) ps hps hb
def ag1{t:Tn}{o:Bool}(w:Int)(h:t.size<=90000000)(hx:∀n,n∈t.flat 0->n.text.length<=1000000000):M.vS (dh o (t.flat 0)) w=some (rnR t w):=by
 simp only[M.vS,M.J7,ahy (o:=o) h hx,ah,OA,rnR,render];have awj:Nat.ble t.size 4000=decide (t.size<=4000):=by rw[Bool.eq_iff_iff,decide_eq_true_eq];exact Iff.of_eq Nat.ble_eq
 rw[awj,Bool.and_comm (decide (t.size<=4000))];cases hd:(dOk t) && decide (t.size<=4000) with
 |false=>rfl
 |true=>
  cases hw:decide (0<=w) && decide (w<=10000) with
  |false=>rfl
  |true=>
   simp only[FN,decide_eq_true_eq] at hd hw;have htx:=ao6 1000000000 t 0 hx;obtain⟨L,hL,hLr⟩:=awp (o:=o) h;have hp:=t.size_pos;have hs:=t.uq;simp only[Bool.not_true,bG,Bool.and_self,aS,flR,hLr,ah,jg,t.flat_length];obtain⟨col',hl⟩:=ayQ t o hd.2 L hL w hw.1 hw.2 t.size [(t,0,false)] [[.int .i64 ((0+sizes t.kids:Nat):Int),.int .i64 0,.bool false]] [] 0 hd.2
    ⟨by simp[DR,sizes],⟨_,[],rfl,⟨0,Lies.whole t,rfl⟩,rfl⟩,(λp hp=>by simp only[List.mem_singleton] at hp;subst hp;refine⟨hd.1,Int.le_refl 0, ?_⟩;simp only;omega),(λp hp=>by simp only[List.mem_singleton] at hp;subst hp;exact⟨hd.1,λe=>by cases e⟩),
     ⟨[],_,rfl,(λ_ h=>by cases h),(λp hp=>by simp only[List.mem_singleton] at hp;subst hp;rfl)⟩,Int.le_refl 0,
     by simp only[DR,OQ,List.map_nil,uj,um];omega,by simp only[DR,OQ,List.map_nil,uj];omega,by simp only[DR,OQ,List.map_nil,uj];omega⟩
   rw[List.reverse_singleton] at hl;have e0:([]:aC).map byteRow=[]:=rfl;have ew:i64.wrap ((t.size:Int) - 1)=((0+sizes t.kids:Nat):Int):=(aG au au).trans au;rw[e0] at hl;simp only[ew,M.Oi,hl,ah,bytesOf_map]
def adR(w:Int):M.vS [] w=some ([],false):=by simp only[M.vS,M.J7,ai4.2,ah];rfl
def aUq(r:List Nd):Prop:=r=[]∨∃d:Tn,r=d.flat 0∧d.size<=90000000∧Tj d
def ayR{r:List Nd}(hr:aUq r)(w:Int):∃q:aC×Bool,q.1.length<=3000∧M.xJ (dh false r) w=some q∧M.rW (dh false r) w=some q:=by
 have key:∀p:aC×Bool,M.vS (dh false r) w=some p->M.vU (dh false r) w=some p->∃q:aC×Bool,q.1.length<=3000∧M.xJ (dh false r) w=some q∧M.rW (dh false r) w=some q:=by
  intro p h1 h2;simp only[M.xJ,M.Oj,M.rW,M.Jq,h1,h2,ah];cases hp:p.2 with
  |false=>exact⟨([],false),by simp,rfl,rfl⟩
  |true=>
   by_cases hl:(p.1.length:Int)>3000
   ·rw[zdt hl];exact⟨([],false),by simp,rfl,rfl⟩
   ·rw[qw hl];exact⟨(p.1,true),by simp only;omega,rfl,rfl⟩
 rcases hr with rfl|⟨d,rfl,h1,h2⟩
 ·exact key _ (adR w) (adQ w)
 ·exact key _ (ag1 w h1 (agz d 0 h2)) (agW w h1 (agz d 0 h2))
def an5{l:List Nd}(h:Ok l)(w:Int):∃q:aC×Bool,q.1.length<=3000∧M.BK (bV false l) w=some q∧M.BL (bV false l) w=some q:=by
 have key:∃r,aUq r∧M.nS (bV false l)=some (dh true r)∧M.nT (bV false l)=some (dh true r):=by
  rcases ahw h with h1|⟨T,hP,h1⟩
  ·exact⟨[],.inl rfl,h1⟩
  ·have:=agO hP;refine⟨(U1 T).flat 0,.inr ⟨_,rfl,au, ?_⟩,h1⟩;rw[U1,xQ];exact agI hP.its
 obtain⟨r,hr,h1,h2⟩:=key;obtain⟨q,hq,h3,h4⟩:=ayR hr w;refine⟨q,hq, ?_, ?_⟩
 ·simp only[M.BK,M.Rw,ah,h1,anE,h3]
 ·simp only[M.BL,M.Rx,ah,h2,anE,h4]
def arH(l:List Nd)(w:Int)(hl:l.length<=maxLen)(hf:∀n,n∈l->Fit n):M.sD (bV false l) w=some true:=by
 simp only[M.sD,M.CJ];rw[Zx l false 1048576 au au hl hf,ah]
 by_cases hs:(l.length+wNs l:Int)<=1048576
 ·rw[if_pos hs,qw au,bG];have hkk:∀n,n∈l->n.kids.length<=1048576:=by intro n hn;have h1:=aeh hn;have h2:wN n=n.text.length+n.other.length+n.kids.length:=rfl;omega
  have ol:Ok l:=avK hs hf au hkk;obtain⟨q,_,h1,h2⟩:=an5 ol w;have a1:=Zy l false ol.len ol.k;have a4:=VD l false false hl (λn hn=>(hf n hn).kids);have e1:(q.1==q.1)=true:=by simp
  have e2:(q.2==q.2)=true:=by simp
  simp only[a1,afd,h1,h2,a4,e1,e2,ah,aS,bG,Bool.not_true]
 ·rw[if_neg hs];rfl
def Q5(c:aC):List (aC)->List (aC)
 |[]=>[c]
 |h::t=>(c++h)::t
def mO:aC->List (aC)
 |[]=>[[]]
 |c::l=>if c=10 then[]::mO l else Q5 [c] (mO l)
def ai9(a b:aC)(l:List (aC)):Q5 a (Q5 b l)=Q5 (a++b) l:=by cases l<;>simp[Q5]
def ab3{l:List (aC)}(h:l≠[]):Q5 [] l=l:=by
 cases l with
 |nil=>exact absurd rfl h
 |cons x l=>rfl
def Tc:∀l,mO l≠[]
 |[]=>by simp[mO]
 |c::l=>by
  rw[mO];split
  ·simp
  ·cases h:mO l<;>simp[Q5]
def TU:∀(a b:aC),(10:UInt8) ∉ a->mO (a++b)=Q5 a (mO b)
 |[],b,_=>(ab3 (Tc b)).symm
 |c::a,b,h=>by
  have hc:¬c=10:=λe=>h (by simp[e])
  rw[TV,mO,if_neg hc,TU a b (λhx=>h (by simp[hx])),ai9];rfl
def XI:∀l,(mO l).length<=l.length+1
 |[]=>by simp[mO]
 |c::l=>by
  have:=XI l;rw[mO];split
  ·simp only[mV];omega
  ·cases h:mO l with
   |nil=>simp[Q5]
   |cons x t=>rw[h] at this;simp only[Q5,mV] at this⊢;omega
def aja:∀(k:Nat) (s:aC),s.count 10<=k->Lib.splitK [10] 0 k s=mO s
 |0,s,h=>by
  have hn:(10:UInt8) ∉ s:=λhx=>by have:=List.count_pos_iff.2 hx;omega
  have:=TU s [] hn;rw[List.append_nil] at this;rw[this,Lib.splitK];simp[mO,Q5]
 |k+1,s,h=>by
  have hge:=Lib.indexByte_ge s 10;rw[Lib.splitK,Lib.index_one]
  by_cases hm:Lib.indexByte s 10= -1
  ·rw[if_pos (by rw[hm];rfl)];have hn:(10:UInt8) ∉ s:=λhx=>by obtain⟨i,hi⟩:=List.mem_iff_getElem?.1 hx;exact Lib.indexByte_none hm i hi
   have:=TU s [] hn;rw[List.append_nil] at this;rw[this];simp[mO,Q5]
  ·rw[if_neg (by simpa using hm)];obtain⟨i,hi⟩:∃i:Nat,Lib.indexByte s 10=i:=⟨(Lib.indexByte s 10).toNat,au⟩
   obtain⟨h1,h2⟩:=Lib.indexByte_some hi;have hil:=(MG.1 h1).1;rw[hi,Uj,Nat.add_zero,J9];have hs:s=s.take i++10::s.drop (i+1):=by
    have h3:s[i]=10:=by have:=List.getElem?_eq_getElem hil;rw[this] at h1;exact Option.some.inj h1
    rw[<-h3,<-List.drop_eq_getElem_cons hil,List.take_append_drop]
   have hn:(10:UInt8) ∉ s.take i:=λhx=>by obtain⟨j,hj⟩:=List.mem_iff_getElem?.1 hx;have hjl:=(MG.1 hj).1;rw[Ui] at hjl;rw[List.getElem?_take,if_pos au] at hj;exact h2 j au hj
   have hc:(s.drop (i+1)).count 10<=k:=by have:=congrArg (List.count 10) hs;rw[List.count_append,List.count_cons] at this;simp at this;omega
   rw[aja k _ hc]
   conv=>rhs;rw[hs]
   rw[TU _ _ hn,mO,if_pos rfl];simp[Q5]
def arI(s:aC):Zm s [10]=mO s:=by rw[Zm,Lib.splitB_data];refine aja _ _ ?_;show s.count 10<=Lib.count s [10];rw[Lib.count_one];exact Nat.le_refl _
def VU(s:aC):List (aC):=if(mO s).getLast? =some [] then(mO s).dropLast else mO s
@[simp] theorem ab4(l:List (aC)):ay (encS l)=true:=by simp only[ay,encS,List.all_map,List.all_eq_true];intro x _;rfl
def arJ(l:List (aC))(n:Nat):(encS l).take n=encS (l.take n):=by simp[encS,List.map_take]
def an6(a b:List (aC)):encS a++encS b=encS (a++b):=by simp[encS]
def an7(s:aC):(VU s).length<=s.length+1:=by
 have:=XI s;unfold VU;split
 ·rw[List.length_dropLast];omega
 ·exact this
def adS(s:aC)(h:s.length<=1048576):M.AX s=some (encS (VU s)):=by
 have hlen:=XI s;have hpos:=List.length_pos_iff.2 (Tc s);have hb:Nat.blt s.length 4294967281=true:=by rw[Nat.blt_eq];omega
 have hi:(((mO s).length:Nat):Int) - 1=(((mO s).length - 1:Nat):Int):=au;have hl:(mO s)[(mO s).length - 1]? =(mO s).getLast? :=(List.getLast?_eq_getElem?).symm;obtain⟨z,hz⟩:∃z,(mO s).getLast? =some z:=⟨_,List.getLast?_eq_some_getLast (Tc s)⟩
 simp only[M.AX,M.Ov,M.strings_Split,hb,arI,qL,J9];rw[show(true && Nat.ble 1 1)=true from rfl,aS,ah,qL,aG au au,hi,bJ,Uj,UR,hl,hz];simp only[OJ,ah,cS0,arJ,ab4,aS];rw[VU,hz]
 by_cases hzz:z=[]
 ·subst hzz;rw[if_pos rfl,zdt au,zdt au,List.dropLast_eq_take];rfl
 ·rw[if_neg (by simpa using hzz)];have:(z==[])=false:=by simpa using hzz
  rw[this];rfl
def awu{s:aC}{a b:Nat}(h1:a<=b)(h2:b<=s.length):cut s (a:Int) (b:Int)=some ((s.drop a).take (b - a)):=by rw[cut,zdt au,zdt au,zdt au];rfl
def arK(a cur rest:aC):(a++cur++rest).drop a.length=cur++rest:=by rw[BO,List.drop_left]
def QX:∀(rest:aC) (a cur:aC) (out:List (aC)),(a++cur++rest).length<=1048576->out.length<=a.length->
  ∃(a' cur':aC) (out':List (aC)),M.tN (a++cur++rest) ((a.length:Int),((a.length+cur.length:Nat):Int),encS out)=some ((a'.length:Int),(((a++cur++rest).length:Nat):Int),encS out')∧
   a++cur++rest=a'++cur'∧out'++[cur']=out++Q5 cur (mO rest)∧out'.length<=a'.length
 |[],a,cur,out,h,ho=>by refine⟨a,cur,out, ?_,by simp,by simp[mO,Q5],ho⟩;rw[M.tN];apply bC;simp only[jm,M.GX,M.wE,List.append_nil,qx];rw[qw au,bG]
 |c::rest,a,cur,out,h,ho=>by
  have hl:(a++cur++c::rest).length=a.length+cur.length+(rest.length+1):=by simp;omega
  have hget:(a++cur++c::rest)[a.length+cur.length]? =some c:=by rw[<-qx,List.getElem?_append_right (Nat.le_refl _),Nat.sub_self];rfl
  by_cases hc:c=10
  ·subst hc;have e:a++cur++10::rest=(a++cur++[10])++[]++rest:=by simp
   obtain⟨a',cur',out',h1,h2,h3,h4⟩:=QX rest (a++cur++[10]) [] (out++[cur]) (by rw[<-e];exact h) (by simp;omega);rw[<-e] at h1 h2;refine⟨a',cur',out', ?_,h2, ?_,h4⟩
   ·rw[M.tN] at h1⊢;rw[dJ (s':=(((a++cur++[10]).length:Int),(((a++cur++[10]).length+([]:aC).length:Nat):Int),encS (out++[cur]))) ?_]
    ·exact h1
    ·simp only[jm,M.GX,M.wE,bJ,hget,ah];rw[zdt au,aS,show((((10:UInt8).toNat:Nat):Int)==10)=true from rfl,aS,awu au au,ah,arK,Nat.add_sub_cancel_left,List.take_left,
      aG au au,aX (by rw[qL,J9];omega),aS,aX (by rw[qL,J9];omega),aS]
     simp[encS];omega
   ·rw[h3,mO,if_pos rfl,ab3 (Tc rest)];simp[Q5]
  ·have e:a++cur++c::rest=a++(cur++[c])++rest:=by simp
   obtain⟨a',cur',out',h1,h2,h3,h4⟩:=QX rest a (cur++[c]) out (by rw[<-e];exact h) ho;rw[<-e] at h1 h2;refine⟨a',cur',out', ?_,h2, ?_,h4⟩
   ·rw[M.tN] at h1⊢;rw[dJ (s':=((a.length:Int),((a.length+(cur++[c]).length:Nat):Int),encS out)) ?_]
    ·exact h1
    ·have hne:(((c.toNat:Nat):Int)==10)=false:=by rw[MJ];intro hx;apply hc;have:c.toNat=10:=au;exact UInt8.toNat_inj.1 this
     simp only[jm,M.GX,M.wE,bJ,hget,ah];rw[zdt au,aS,hne,bG,aG au au];simp;omega
   ·rw[h3,mO,if_neg hc,ai9]
def adT(s:aC)(h:s.length<=1048576):M.AV s=some (encS (VU s)):=by
 obtain⟨a',cur',out',h1,h2,h3,h4⟩:=QX s [] [] [] (by simpa using h) (by simp);simp only[List.nil_append,um,Nat.add_zero,pY] at h1 h2 h3;rw[ab3 (Tc s)] at h3;have hl:s.length=a'.length+cur'.length:=by have:=congrArg List.length h2;rw[qx] at this;exact this
 simp only[jm,M.AV,M.Ou];have h1':M.tN s (0,0,[])=_:=h1;rw[h1',ah];rw[VU,<-h3,List.getLast?_append];simp only[List.getLast?_singleton,Option.some_or,List.dropLast_concat]
 by_cases hc:cur'=[]
 ·subst hc;rw[qw (by simp at hl;omega),bG,ab4,aS,if_pos rfl]
 ·have hp:=List.length_pos_iff.2 hc;rw[zdt au,aS,awu au (Nat.le_refl _),ah,if_neg (by simpa using hc)];have hd:(s.drop a'.length).take (s.length - a'.length)=cur':=by rw[h2,List.drop_left,List.take_of_length_le (by rw[qx];omega)]
  rw[hd,show[[D.str cur']]=encS [cur'] from rfl,an6,ab4,qL,qL,J9];rw[aX au,aS,aX au,aS,aS]
def aa6{l:List Nd}(h:Ok l)(w:Int):∃n:Int, -1<=n∧n<=4000∧M.o7 (bV false l) w=some n∧M.o8 (bV false l) w=some n:=by
 obtain⟨q,hq,h1,h2⟩:=an5 h w;have h3:=adT q.1 au;have h4:=adS q.1 au;have hl:=an7 q.1;simp only[M.o7,M.Ju,M.o8,M.Jv,h1,h2,ah];cases q.2 with
 |false=>exact⟨-1,au,au,rfl,rfl⟩
 |true=>exact⟨((VU q.1).length:Int),au,au,by simp only[Bool.not_true,bG,h3,ah,qL],by simp only[Bool.not_true,bG,h4,ah,qL]⟩
def ahB(l:List Nd)(w:Int)(hl:l.length<=maxLen)(hf:∀n,n∈l->Fit n):M.ni (bV false l) w=some true:=by
 simp only[M.ni,M.wF];rw[Zx l false 1048576 au au hl hf,ah]
 by_cases hs:(l.length+wNs l:Int)<=1048576
 ·rw[if_pos hs,qw au,bG];have hkk:∀n,n∈l->n.kids.length<=1048576:=by intro n hn;have h1:=aeh hn;have h2:wN n=n.text.length+n.other.length+n.kids.length:=rfl;omega
  have ol:Ok l:=avK hs hf au hkk;obtain⟨q,_,_,h1,h2⟩:=aa6 ol w;have a1:=Zy l false ol.len ol.k;have a4:=VD l false false hl (λn hn=>(hf n hn).kids);simp only[a1,afd,h1,h2,a4,bne_self_eq_false,ah,aS,bG,Bool.not_true]
 ·rw[if_neg hs];rfl
def ajb{l:List Nd}(h:Ok l)(m:Int):∀(k w:Nat),w+k=81->∃r:Int⊕Int,M.oI (bV false l) m (w:Int)=some r∧M.oJ (bV false l) m (w:Int)=some r
 |0,w,hw=>by
  refine⟨.inr (w:Int), ?_, ?_⟩
  ·rw[M.oI];apply bC;simp only[M.CO,M.tq];rw[qw au,bG]
  ·rw[M.oJ];apply bC;simp only[M.CP,M.tu];rw[qw au,bG]
 |k+1,w,hw=>by
  obtain⟨n,hn1,hn2,h1,h2⟩:=aa6 h (w:Int);have hi:M.bg n 0 m=some (decide (n>=0) && decide (n<=m)):=dI n 0 m;have hw1:i64.wrap ((w:Int)+1)=((w+1:Nat):Int):=by rw[aG au au];omega
  by_cases hb:n>=0∧n<=m
  ·refine⟨.inl (w:Int), ?_, ?_⟩
   ·rw[M.oI];apply bC;simp only[M.CO,M.tq,h1,ah];rw[zdt au,aS,zdt hb.1,aS,zdt hb.2,aS]
   ·rw[M.oJ];apply bC;simp only[M.CP,M.tu,h2,hi,ah];rw[zdt au,aS,zdt hb.1,zdt hb.2];rfl
  ·obtain⟨r,r1,r2⟩:=ajb h m k (w+1) au;refine⟨r, ?_, ?_⟩
   ·rw[M.oI] at r1⊢;rw[dJ (s':=((w+1:Nat):Int)) ?_]
    ·exact r1
    ·simp only[M.CO,M.tq,h1,ah,hw1];rw[zdt au,aS]
     by_cases h0:n>=0
     ·rw[zdt h0,aS,qw (λe=>hb ⟨h0,e⟩),bG]
     ·rw[qw h0,bG]
   ·rw[M.oJ] at r2⊢;rw[dJ (s':=((w+1:Nat):Int)) ?_]
    ·exact r2
    ·simp only[M.CP,M.tu,h2,hi,ah,hw1];have e:(decide (n>=0) && decide (n<=m))=false:=by rw[Bool.and_eq_false_iff,decide_eq_false_iff_not,decide_eq_false_iff_not];omega
     rw[zdt au,aS,e,bG]
def akp{l:List Nd}(h:Ok l)(m:Int):∃n:Int,M.vX (bV false l) m=some n∧M.vY (bV false l) m=some n:=by
 obtain⟨r,r1,r2⟩:=ajb h m 81 0 rfl;have r1':M.oI (bV false l) m 0=some r:=r1;have r2':M.oJ (bV false l) m 0=some r:=r2;simp only[M.vX,M.Jw,M.vY,M.Jy,r1',r2',ah];cases r with
 |inl x=>exact⟨x,rfl,rfl⟩
 |inr x=>exact⟨-1,rfl,rfl⟩
def ahC(l:List Nd)(m:Int)(hl:l.length<=maxLen)(hf:∀n,n∈l->Fit n):M.ny (bV false l) m=some true:=by
 simp only[M.ny,M.wG];rw[Zx l false 1048576 au au hl hf,ah]
 by_cases hs:(l.length+wNs l:Int)<=1048576
 ·rw[if_pos hs,qw au,bG];have hkk:∀n,n∈l->n.kids.length<=1048576:=by intro n hn;have h1:=aeh hn;have h2:wN n=n.text.length+n.other.length+n.kids.length:=rfl;omega
  have ol:Ok l:=avK hs hf au hkk;obtain⟨q,h1,h2⟩:=akp ol m;have a1:=Zy l false ol.len ol.k;have a4:=VD l false false hl (λn hn=>(hf n hn).kids);simp only[a1,afd,h1,h2,a4,bne_self_eq_false,ah,aS,bG,Bool.not_true]
 ·rw[if_neg hs];rfl
end Go.Proofs.YtbpldgeajbfgnaaGreatDoor
