import Derived.Test.YtbkndkcpmnjaeaaGreatDoorXRend
import Derived.Lib.ItoaNum
set_option linter.defProp false
namespace Go.Proofs.YtbkndkcpmnjaeaaGreatDoor
set_option linter.unusedVariables false
set_option linter.unusedSimpArgs false
open Go Go.Vm
open Go.IntKind (i64)
mutual
def txs:Tn->Nat
 | .mk _ _ x _ ks=>x.length+aeK ks
def aeK:List Tn->Nat
 |[]=>0
 |t::ts=>txs t+aeK ts
end
def akT:∀{ks:List Tn} {t:Tn},t∈ks->txs t<=aeK ks
 |[],_,h=>by cases h
 |u::us,t,h=>by
  rw[aeK];rcases List.mem_cons.1 h with rfl|h
  ·omega
  ·have:=akT h;omega
mutual
def amI(X:Nat):∀(t:Tn) (b:Nat),(∀n,n∈t.flat b->n.text.length<=X)->txs t<=X * t.size
 | .mk k o x y ks,b,h=>by
  rw[Tn.flat] at h;have h1:=an1 X ks b λn hn=>h n (List.mem_append_left _ hn)
  have h2:x.length<=X:=h ⟨k,o,x,y,ends ks b⟩ (by simp);rw[txs,Tn.size,Nat.mul_add,Nat.mul_one];omega
def an1(X:Nat):∀(ks:List Tn) (b:Nat),(∀n,n∈gX ks b->n.text.length<=X)->aeK ks<=X * sizes ks
 |[],b,_=>by simp[aeK]
 |t::ts,b,h=>by
  rw[gX] at h;have h1:=amI X t b λn hn=>h n (List.mem_append_left _ hn)
  have h2:=an1 X ts _ λn hn=>h n (List.mem_append_right _ hn)
  rw[aeK,sizes,Nat.mul_add];omega
end
def ayu(n:Nd):Bool:=aeH n.kind n.op n.text n.kids.length
mutual
def akU:∀(t:Tn) (b:Nat),(t.flat b).all ayu=(Yn t)
 | .mk k o x y ks,b=>by rw[Tn.flat,List.all_append,agF ks b,Yn];simp[ayu,dP]
def agF:∀(ks:List Tn) (b:Nat),(gX ks b).all ayu=DZ ks
 |[],_=>rfl
 |t::ts,b=>by rw[gX,List.all_append,akU t b,agF ts _,DZ]
end
def akV{α:Type}(f:α->Bool):∀(l:List α) (i:Nat),OU (λ_ x=>f x) l i=l.all f
 |[],_=>rfl
 |x::l,i=>by rw[OU,akV f l,List.all_cons]
section
variable {t:Tn} {o:Bool} (h:t.size<=90000000)
include h
theorem amJ:(t.flat 0).length<=90000000∧∀n,n∈t.flat 0->n.kids.length<=90000000:=
 ⟨by rw[t.flat_length];exact h,λn hn=>by have:=(Hf t 0 n hn).1;omega⟩
theorem at7:∃q:Nat,(t.size:Int) - 1=(q:Int)∧(t.sts 0)[q]? =some 0:=by obtain⟨u,hu,hul⟩:=t.Vk 0;have hp:=t.size_pos;refine⟨u.length,au, ?_⟩;rw[hu,List.getElem?_append_right (Nat.le_refl _),Nat.sub_self];rfl
theorem Ze:M.ug (jV o (t.flat 0))=some (encI (t.sts 0),true):=by obtain⟨h1,h2⟩:=amJ h;have hout:=UM (t.flat 0) o h1 h2 (t.flat 0) 0 [] rfl rfl (Nat.zero_le _) Qd;rw[vM,Oh] at hout;have e0:encI []=[]:=rfl;rw[e0] at hout;simp only[M.ug,M.G7,hout,ah,uw,letE,wu,aU]
theorem afA(hx:∀n,n∈t.flat 0->n.text.length<=1000000000):M.FB (jV o (t.flat 0))=some ((Yn t) && decide (t.size<=4000)):=by
 have hp:=t.size_pos;simp only[M.FB,M.PE,CS,ah,lG,t.flat_length]
 by_cases hs:t.size<=4000
 ·have hl:=VF (t.flat 0) (λ_ n=>ayu n) (b:=M.I4 (jV o (t.flat 0)))
   (λi n hi=>by have hil:=(Jm.1 hi).1;have hxn:=hx n (Ib hi);rw[t.flat_length] at hil;simp only[M.I4,M.Dt,lG,t.flat_length,bW,DK,hi,Ic,ah,cD0,cD1,cD2,cD3,ab3 _ _ n.text _ au,aZ];rw[zdt au,aU,aC au au];change _=some (bif aeH n.kind n.op n.text n.kids.length then _ else _);cases aeH n.kind n.op n.text n.kids.length<;>rfl)
   (by simp only[M.I4,M.Dt,lG];rw[uq au,bZ])
  rw[akV,akU] at hl;rw[zdt (show(1:Int)<=t.size by omega),zdt (show(t.size:Int)<=4000 by omega),Bool.true_and,Bool.not_true,bZ,M.NJ,hl,ah,zdt hs,Bool.and_true];cases hd:(Yn t) with
  |false=>rfl
  |true=>obtain⟨q,hq1,hq2⟩:=at7 h;simp only[aU,uw,letE,Ze (o:=o) h,ah];rw[aC au au,hq1];simp only[bW,nD,hq2,Ic,ah,Qa,RX];rfl
 ·rw[uq (show¬(t.size:Int)<=4000 by omega),Bool.and_false,Bool.not_false,aU,uq hs,Bool.and_false]
end
mutual
def dcR:Tn->Row->Prop
 | .mk k n x _ ks,r=>∃rows g,r=[.int .i64 k,.int .i64 n,.str x,.sl false 5 rows,.int .i64 g]∧ahY ks rows
def ahY:List Tn->aA->Prop
 |[],rows=>rows=[]
 |t::ts,rows=>∃r rs,rows=r::rs∧dcR t r∧ahY ts rs
end
def ayv(t:Tn)(r:Row):dcR t r↔∃rows g,r=[.int .i64 t.kind,.int .i64 t.op,.str t.text,.sl false 5 rows,.int .i64 g]∧ahY t.kids rows:=by cases t;rfl
def abr:∀{ts:List Tn} {rows:aA},ahY ts rows->rows.length=ts.length
 |[],_,h=>by rw[ahY] at h;rw[h];rfl
 |t::ts,_,h=>by obtain⟨r,rs,rfl,_,h2⟩:=h;rw[oh,abr h2,oh]
def akW:∀{ts:List Tn} {rows:aA} {j:Nat} {t:Tn},ahY ts rows->ts[j]? =some t->∃r,rows[j]? =some r∧dcR t r
 |[],_,_,_,_,h=>by simp at h
 |u::ts,_,0,t,⟨r,rs,rfl,h1,_⟩,h=>by cases h;exact⟨r,rfl,h1⟩
 |u::ts,_,j+1,t,⟨r,rs,rfl,_,h2⟩,h=>by rw[List.getElem?_cons_succ] at h⊢;exact akW h2 h
def bytesOf_map:∀s:aF,bytesOf (s.map byteRow)=some s
 |[]=>rfl
 |c::s=>by
  have h:asByte (byteRow c)=some c:=by simp only[byteRow,asByte];simp
  rw[WH,bytesOf,h,bytesOf_map s]
mutual
def aeL:∀(t:Tn) (s:aF),Om t=some s->s.length<=txs t+t.size
 | .mk k n x y ks,s,h=>by
  rw[Om] at h;rw[txs,Tn.size];cases h1:k==1 with
  |true=>rw[h1,aU] at h;cases h;omega
  |false=>
   rw[h1,bZ] at h;cases h2:k==2 with
   |true=>rw[h2,aU] at h;cases h;simp only[Le];omega
   |false=>
    rw[h2,bZ] at h;cases h3:k==3 with
    |true=>rw[h3,aU] at h;cases h
    |false=>rw[h3,bZ] at h;have:=agG ks s h;omega
def agG:∀(ts:List Tn) (s:aF),LZ ts=some s->s.length<=aeK ts+sizes ts
 |[],s,h=>by cases h;simp
 |t::ts,s,h=>by
  rw[LZ] at h;rw[aeK,sizes];cases ha:Om t with
  |none=>rw[ha] at h;cases h
  |some a=>
   rw[ha] at h;cases hb:LZ ts with
   |none=>rw[hb] at h;cases h
   |some b=>rw[hb] at h;cases h;have h1:=aeL t a ha;have h2:=agG ts b hb;rw[rX];omega
end
def flR(o:Option (aF)):aF×Bool:=match o with
 |some s=>(s,true)
 |none=>([],false)
def ayw(t:Tn):∀(f:Nat) (rows:aA) (g:Int),t.size<=f->ahY t.kids rows->txs t+t.size<=20000000000000->
  M.jQ f t.kind t.op t.text rows g=some (flR (Om t)):=by
 refine Tn.ind (P:=λt=>∀(f:Nat) (rows:aA) (g:Int),t.size<=f->ahY t.kids rows->txs t+t.size<=20000000000000->M.jQ f t.kind t.op t.text rows g=some (flR (Om t))) ?_ t;intro k n x y ks ih f rows g hf hr hx;cases f with
 |zero=>rw[Tn.size] at hf;omega
 |succ f=>
  rw[Tn.size] at hf;rw[txs,Tn.size] at hx;simp only[M.jQ,M.Dh,Tn.kids,Tn.kind,Tn.op,Tn.text,Om] at hr⊢;cases h1:k==1 with
  |true=>rfl
  |false=>
  cases h2:k==2 with
  |true=>rfl
  |false=>
  cases h3:k==3 with
  |true=>rfl
  |false=>
  simp only[bZ];have hrl:=abr hr;have hkl:=lV ks;have key:∀(ts:List Tn) (j:Nat) (acc:aF),ks.drop j=ts->j<=ks.length->acc.length+(aeK ts+sizes ts)<=20000000000000->
    fM (M.qJ (M.jQ f) rows (rows.length:Int)) ((j:Int),acc.map byteRow)=some (match LZ ts with
     |none=> .inl ()
     |some s=> .inr ((rows.length:Int),(acc++s).map byteRow)):=by
   intro ts;induction ts with
   |nil=>intro j acc hd hj _;have:ks.length<=j:=List.drop_eq_nil_iff.1 hd;have:j=rows.length:=au;subst this;apply dZ;simp only[M.qJ,M.qI,LZ];rw[uq au,bZ,List.append_nil]
   |cons u ts ihl=>
    intro j acc hd hj hl;have hu:ks[j]? =some u:=by
     have:(ks.drop j)[0]? =some u:=by rw[hd];rfl
     simpa using this
    have hlt:j<ks.length:=(Jm.1 hu).1;have hd':ks.drop (j+1)=ts:=by rw[<-List.drop_drop,hd];rfl
    obtain⟨r,hrj,hrD⟩:=akW hr hu;obtain⟨rows',g',rfl,hk'⟩:=(ayv u r).1 hrD;have hmem:=Ib hu;have hsz:=lu hmem;have htx:=akT hmem;have hfu:=ih u hmem f rows' g' au hk' au;rw[aeK,sizes] at hl;have c0:fZ .i64 [D.int .i64 u.kind,.int .i64 u.op,.str u.text,.sl false 5 rows',.int .i64 g'] 0=some u.kind:=rfl;have c1:fZ .i64 [D.int .i64 u.kind,.int .i64 u.op,.str u.text,.sl false 5 rows',.int .i64 g'] 1=some u.op:=rfl;have c2:cStr [D.int .i64 u.kind,.int .i64 u.op,.str u.text,.sl false 5 rows',.int .i64 g'] 2=some u.text:=rfl;have c3:TD 5 [D.int .i64 u.kind,.int .i64 u.op,.str u.text,.sl false 5 rows',.int .i64 g'] 3=some rows':=rfl;have c4:fZ .i64 [D.int .i64 u.kind,.int .i64 u.op,.str u.text,.sl false 5 rows',.int .i64 g'] 4=some g':=rfl;rw[LZ];cases hfx:Om u with
    |none=>apply dZ;simp only[M.qJ,M.qI,bW,hrj,ah,c0,c1,c2,c3,c4,hfu,hfx,flR,Bool.not_false,aU];rw[zdt au,aU]
    |some a=>
     have hal:=aeL u a hfx;have hs:M.qJ (M.jQ f) rows (rows.length:Int) ((j:Int),acc.map byteRow)=some (.inl (((j+1:Nat):Int),(acc++a).map byteRow)):=by simp only[M.qJ,M.qI,bW,hrj,ah,c0,c1,c2,c3,c4,hfu,hfx,flR,Bool.not_true,bZ,List.length_map];rw[zdt au,aU,aX au,aU,aX au,aU,aC au au,List.map_append];rfl
     rw[iC hs,ihl (j+1) (acc++a) hd' hlt (by rw[rX];omega)];cases LZ ts with
     |none=>rfl
     |some b=>simp only[BO]
  have h0:=key ks 0 [] rfl (Nat.zero_le _) (by simp only[zM];omega);have e0:([]:aF).map byteRow=[]:=rfl;rw[vM,e0] at h0;rw[M.Em,h0];cases LZ ks with
  |none=>rfl
  |some s=>simp only[ah,uw,letE,List.nil_append,bytesOf_map,flR]
def flL:List Nd->Option (aF)
 |[]=>some []
 |n::l=>bif n.kind==1 then(flL l).map (n.text++ ·) else bif n.kind==2 then(flL l).map ([32]++ ·) else bif n.kind==3 then none else flL l
def two(a b:Option (aF)):Option (aF):=match a with
 |none=>none
 |some x=>match b with
  |none=>none
  |some y=>some (x++y)
def ayx(a:Option (aF)):two a (some [])=a:=by cases a<;>simp[two]
def ahZ:∀a b:List Nd,flL (a++b)=two (flL a) (flL b)
 |[],b=>by rw[List.nil_append,flL];cases flL b<;>rfl
 |n::a,b=>by
  rw[Xg,flL,flL,ahZ a b];cases n.kind==1 with
  |true=>cases flL a<;>cases flL b<;>simp[two]
  |false=>
  cases n.kind==2 with
  |true=>cases flL a<;>cases flL b<;>simp[two]
  |false=>
  cases n.kind==3 with
  |true=>rfl
  |false=>rfl
mutual
def akX:∀(t:Tn) (b:Nat),Yn t=true->flL (t.flat b)=Om t
 | .mk k n x y ks,b,h=>by
  rw[Yn,vF] at h;have hk:=agH ks b h.1;rw[Tn.flat,ahZ,hk,Om];simp only[flL];have hd:=h.2;unfold aeH at hd;have key:∀(e:ks.length=0),LZ ks=some []:=λe=>by rw[List.eq_nil_of_length_eq_zero e];rfl
  cases h0:(!(k==4) && !(n==0))||(!(k==1) && !(x==[])) with
  |true=>rw[h0,aU] at hd;cases hd
  |false=>
  rw[h0,bZ] at hd;cases h1:k==1 with
  |true=>rw[h1,aU,vF] at hd;rw[key (qU hd.2)];simp[two]
  |false=>
  rw[h1,bZ] at hd;cases h2:k==2 with
  |true=>rw[h2,Bool.true_or,aU] at hd;rw[key (qU hd)];simp[two]
  |false=>
  rw[h2,Bool.false_or] at hd;cases h3:k==3 with
  |true=>rw[h3,aU] at hd;rw[key (qU hd)];rfl
  |false=>simp only[bZ];rw[ayx]
def agH:∀(ks:List Tn) (b:Nat),DZ ks=true->flL (gX ks b)=LZ ks
 |[],b,_=>rfl
 |t::ts,b,h=>by rw[DZ,vF] at h;rw[gX,ahZ,akX t b h.1,agH ts _ h.2,LZ];rfl
end
def aeM(k:Int):Bool:=(decide (k>=20) && decide (k<=34)) &&(!(k==33) && !(k==34))
def UW:List Nd->Nat
 |[]=>0
 |n::l=>(bif aeM n.kind then 1 else 0)+UW l
def aax:∀l:List Nd,UW l<=l.length
 |[]=>Nat.le_refl _
 |n::l=>by have:=aax l;rw[UW,oh];cases aeM n.kind<;>simp only[aU,bZ]<;>omega
def Ut:∀a b:List Nd,UW (a++b)=UW a+UW b
 |[],b=>by rw[List.nil_append,UW,Nat.zero_add]
 |n::a,b=>by rw[Xg,UW,UW,Ut a b,Nat.add_assoc]
def akY{l:List Nd}{j:Nat}{n:Nd}(h:l[j]? =some n):UW (l.take (j+1))=UW (l.take j)+(bif aeM n.kind then 1 else 0):=by rw[gq h,Ut,UW,UW,Nat.add_zero]
def az7(u:Tn):aF:=(flR (Om (Jh u))).1
def kU:List Tn->List (aF)
 |[]=>[]
 |u::l=>(bif u.kind==33 then[] else[az7 u])++kU l
def Yd:∀a b:List Tn,kU (a++b)=kU a++kU b
 |[],b=>rfl
 |u::a,b=>by rw[Xg,kU,kU,Yd a b,BO]
def Rk(t:Tn):aF:=bif t.kind==40 then[66,69,71,73,78] else bif t.kind==41 then[69,78,68] else bif t.kind==44 then Rj t.text t.kids else
 bif t.kind==42||t.kind==43 then wX (kU t.kids) true else[]
def Zf(t:Tn):aF:=(Lib.decDigits (UW (t.flat 0))++[32])++Rk t
def lK:List Tn->List (aF)
 |[]=>[]
 |t::l=>(bif t.kind==34 then[] else[Zf t])++lK l
def Uu:∀a b:List Tn,lK (a++b)=lK a++lK b
 |[],b=>rfl
 |u::a,b=>by rw[Xg,lK,lK,Uu a b,BO]
def Uw:∀l:List Tn,(lK l).length<=l.length
 |[]=>Nat.le_refl _
 |t::l=>by have:=Uw l;rw[lK,rX,oh];cases t.kind==34<;>simp only[aU,bZ,oh,zM]<;>omega
def an2:∀(n u:Nat),u<=n->(Lib.decDigits u).length<=u+1
 |0,u,h=>by rw[Lib.decDigits,dif_pos au];simp
 |n+1,u,h=>by
  rw[Lib.decDigits];split
  ·simp
  ·have:=an2 n (u / 10) au;simp only[rX,oh,zM];omega
def isS(t:Tn):Prop:=20<=t.kind∧t.kind<=34
def aeN:∀{ks:List Tn},(∀u,u∈ks->(aeD u).size+2<=40 * u.size)->sizes (Ri ks)+2 * ks.length<=40 * sizes ks
 |[],_=>by simp[Ri,sizes]
 |t::ts,h=>by
  have h1:=h t zmf;have h2:=aeN (ks:=ts) λu hu=>h u (zmm _ hu)
  rw[Ri,sizes,sizes,oh];omega
def Zg:∀ks:List Tn,(Ri ks).length=ks.length
 |[]=>rfl
 |t::ts=>by rw[Ri,oh,Zg ts,oh]
def apy(op:Int)(y:aF)(ks:List Tn):(aCm op y ks).size<=32 * sizes ks+27:=by
 have h1:=Un ⟨1,false,false,true,false⟩ (bif y==[] then ks else ks.take (ks.length - 1));have h2:sizes (bif y==[] then ks else ks.take (ks.length - 1))<=sizes ks:=by
  cases(y==[]) with
  |true=>exact Nat.le_refl _
  |false=>exact take_size _ _
 have h3:=zD (PI ks (ks.length - 1)) ⟨9,false,false,false,false⟩;have h4:=aat ks (ks.length - 1);unfold aCm;generalize (bif y==[] then ks else ks.take (ks.length - 1))=args at *;simp only[o7,lU,sizes,jc];cases Nat.blt 0 args.length<;>cases(y==[])<;>simp only[aU,bZ,sizes,jc]<;>omega
def aeO(w:aF)(ks:List Tn):(akH w ks).size<=16 * sizes ks+2:=by
 cases ks with
 |nil=>simp[akH,jc]
 |cons t l=>have:=aau t;simp only[akH,o7,sizes,jc];omega
def ayy{α:Type}{l:List α}(h:l.length=4):∃a b c d,l=[a,b,c,d]:=by
 match l,h with
 |[a,b,c,d],_=>exact⟨a,b,c,d,rfl⟩
def ah0{α:Type}{l:List α}(h:l.length=2):∃a b,l=[a,b]:=by
 match l,h with
 |[a,b],_=>exact⟨a,b,rfl⟩
def apz{α:Type}{l:List α}(h:l.length=3):∃a b c,l=[a,b,c]:=by
 match l,h with
 |[a,b,c],_=>exact⟨a,b,c,rfl⟩
def aL8{k op:Int}{x y:aF}{ks:List Tn}(h:zH (Tn.mk k op x y ks)){i:Nat}{t:Tn}(e:ks[i]? =some t)(hc:cls k op ks.length i=1∨cls k op ks.length i=2):isS t∧zH t:=by obtain⟨h1,h2⟩:=OV h e;refine⟨?_,h2⟩;unfold isS;rcases hc with hc|hc<;>rw[hc] at h1<;>simp only[yZ] at h1<;>omega
def amK(t:Tn):zH t->isS t->(aeD t).size+2<=40 * t.size:=by
 refine Tn.ind (P:=λt=>zH t->isS t->(aeD t).size+2<=40 * t.size) ?_ t;intro k op x y ks ih hok hs;have hc:=Ji hok;simp only[isS,Tn.kind] at hs;have ihk:∀{i:Nat} {u:Tn},ks[i]? =some u->(cls k op ks.length i=1∨cls k op ks.length i=2)->(aeD u).size+2<=40 * u.size:=by intro i u e hcl;obtain⟨h1,h2⟩:=aL8 hok e hcl;exact ih u (Ib e) h2 h1
 rw[aeD,Tn.size];have hk:k=20∨k=21∨k=22∨k=23∨k=24∨k=25∨k=26∨k=27∨k=28∨k=29∨k=30∨k=31∨k=32∨k=33∨k=34:=au;rcases hk with rfl|rfl|rfl|rfl|rfl|rfl|rfl|rfl|rfl|rfl|rfl|rfl|rfl|rfl|rfl<;>simp only[aLY,Int.reduceBEq,aU,bZ]
 ·have h1:=zD (PI ks 0) .top;have h2:=aat ks 0;unfold Jh;omega
 ·have:=apy op y ks;omega
 ·rw[jc];omega
 ·have:=aeO [101,120,105,116] ks;omega
 ·have:=aeO [114,101,116,117,114,110] ks;omega
 ·rw[jc];omega
 ·rw[jc];omega
 ·cases ks with
  |nil=>rw[jc];omega
  |cons u l=>have:=Un .top (u::l);simp only[o7,jc,sizes] at this⊢;omega
 ·rcases hc.cnd rfl with h2|h3
  ·obtain⟨u,v,rfl⟩:=ah0 h2;have a0:=zD u .top;have a1:=ihk (i:=1) (u:=v) rfl (by simp[cls]);simp[wC,PI,Ri,Jh,o7,jc,sizes,show Nat.blt 2 2=false from rfl] at *;omega
  ·obtain⟨u,v,z,rfl⟩:=apz h3;have a0:=zD u .top;have a1:=ihk (i:=1) (u:=v) rfl (by simp[cls]);have a2:=ihk (i:=2) (u:=z) rfl (by simp[cls]);simp[wC,PI,Ri,Jh,o7,jc,sizes,show Nat.blt 2 3=true from rfl] at *;omega
 ·obtain⟨u,v,rfl⟩:=ah0 (hc.two au);have a0:=zD u .top;have a1:=ihk (i:=1) (u:=v) rfl (by simp[cls]);simp[wC,PI,Ri,Jh,o7,jc,sizes] at *;omega
 ·obtain⟨u,v,rfl⟩:=ah0 (hc.two au);have a0:=zD v .top;have a1:=ihk (i:=0) (u:=u) rfl (by simp[cls]);simp[wC,PI,Ri,Jh,o7,jc,sizes] at *;omega
 ·obtain⟨u,v,z,q,rfl⟩:=ayy (hc.four rfl);have a0:=zD u ⟨1,false,true,false,false⟩;have a1:=aau v;have a2:=aau z;have a3:=ihk (i:=3) (u:=q) rfl (by simp[cls]);have a4:(bif u.kind==16 then uG [] else(EN u) ⟨1,false,true,false,false⟩).size<=16 * u.size:=by
   refine jK _ ?_ ?_
   ·have:=u.size_pos;rw[jc];omega
   ·omega
  simp[wC,PI,Ri,o7,jc,sizes] at *;omega
 ·obtain⟨u,rfl⟩:=zlo.1 (hc.one au);have a1:=ihk (i:=0) (u:=u) rfl (by simp[cls]);simp[wC,PI,Ri,o7,jc,sizes] at *;omega
 ·have h1:=aps (Ri ks);have h2:=aeN (ks:=ks) λu hu=>by obtain⟨i,hi⟩:=List.mem_iff_getElem?.1 hu;exact ihk hi (by simp[cls])
  rw[Zg] at h1;omega
 ·rw[jc];omega
def ayz(l:List Nd)(o:Bool)(d:Int)(hl:l.length<=90000000)(hk:∀n,n∈l->n.kids.length<=90000000∧∀e,e∈n.kids-> -4000000000<=e+d∧e+d<=4000000000):
  M.pR (jV o l) d=some (jV true (l.map (Nd.up d))):=by
 simp only[M.pR,M.IV];have hloop:=jl (b:=M.CB (jV o l) d) (t:=((l.length:Int),jV true (l.map (Nd.up d)))) (λi=>((i:Int),jV true ((l.take i).map (Nd.up d)))) l.length
  (by
   intro i hi;obtain⟨n,hn⟩:∃n,l[i]? =some n:=⟨l[i],by simp[hi]⟩
   obtain⟨hkl,hke⟩:=hk n (Ib hn);have hin:=jl (b:=M.Cm (jV o l) d (i:Int) (jV true ((l.take i).map (Nd.up d))) n.kind n.op n.text) (t:=((n.kids.length:Int),encI (n.kids.map (· +d)))) (λj=>((j:Int),encI ((n.kids.take j).map (· +d)))) n.kids.length
    (by
     intro j hj;obtain⟨e,he⟩:∃e,n.kids[j]? =some e:=⟨n.kids[j],by simp[hj]⟩
     have:=hke e (Ib he);simp only[mg,M.Cm,M.wR,bW,DK,hn,Ic,ah,cD3,aZ,nD,he,Qa,List.length_map,RZ,Le];rw[zdt au,aU,aX au,aU,aX au,aU,aC au au,aC au au,gq he];simp[encI])
    (by simp only[mg,M.Cm,M.wR,bW,DK,hn,Ic,ah,cD3,aZ];rw[uq au,bZ,List.take_length]) 0 (Nat.zero_le _)
   simp only[vM,List.take_zero,List.map_nil] at hin;have hin':M.GV (jV o l) d (i:Int) (jV true ((l.take i).map (Nd.up d))) n.kind n.op n.text (0,[])=some ((n.kids.length:Int),encI (n.kids.map (· +d))):=hin;simp only[mg,M.CB,M.wS,lG,bW,DK,hn,Ic,ah,cD0,cD1,cD2,cD3,hin',wu,aU,List.length_map,RZ,Le];rw[zdt au,aU,aX au,aU,aX au,aU,aC au au,gq hn,List.map_append,Us];rfl)
  (by simp only[mg,M.CB,M.wS,lG];rw[uq au,bZ,List.take_length]) 0 (Nat.zero_le _)
 simp only[vM,List.take_zero,List.map_nil] at hloop;have LY:M.GX (jV o l) d (0,[])=some ((l.length:Int),jV true (l.map (Nd.up d))):=hloop;rw[LY,ah]
def Ba(ts:List Tn):aA:=ts.map λt=>[.sl false 4 (jV false (t.flat 0))]
def ah1(t:Tn)(n:Nd)(hn:n∈t.flat 0):n.kids.length<=t.size∧∀e,e∈n.kids->0<=e∧e<t.size:=by obtain⟨h1,h2⟩:=Hf t 0 n hn;refine⟨au,λe he=> ?_⟩;have:=h2 e he;omega
def amL(k op:Int)(ts:List Tn)(hs:sizes ts<=90000000):M.dA k op (Ba ts)=some (jV true ((Tn.mk k op [] [] ts).flat 0)):=by
 have htl:=lV ts;simp only[mg,M.dA,M.KO];have hpl:(Ba ts).length=ts.length:=by simp[Ba]
 have hloop:=jl (b:=M.yQ)
  (t:=if ts=[] then .inl (Ba ts,0,[],k,op,[]) else .inr (Ba ts,(ts.length:Int),jV true (gX ts 0),k,op,[],encI (ends ts 0)))
  (λj=>if j=0 then .inl (Ba ts,0,[],k,op,[]) else .inr (Ba ts,(j:Int),jV true (gX (ts.take j) 0),k,op,[],encI (ends (ts.take j) 0))) ts.length
  (by
   intro j hj;obtain⟨t,ht⟩:∃t,ts[j]? =some t:=⟨ts[j],by simp[hj]⟩
   have hst:=Jf ht;have hp:=t.size_pos;have hr:(Ba ts)[j]? =some [.sl false 4 (jV false (t.flat 0))]:=by simp[Ba,ht]
   have c0:TD 4 [D.sl false 4 (jV false (t.flat 0))] 0=some (jV false (t.flat 0)):=rfl;have hfl:(jV true (gX (ts.take j) 0)).length=sizes (ts.take j):=by rw[lG,lW]
   have hsh:M.pR (jV false (t.flat 0)) ((sizes (ts.take j):Nat):Int)=some (jV true (t.flat (sizes (ts.take j)))):=by
    rw[ayz (t.flat 0) false _ (by rw[t.flat_length];omega) (λn hn=> ?_)]
    ·rw[t.acv 0 (sizes (ts.take j))];congr 4<;>omega
    ·obtain⟨h1,h2⟩:=ah1 t n hn;refine⟨au,λe he=> ?_⟩;have:=h2 e he;omega
   have hrl:(jV true (t.flat (sizes (ts.take j)))).length=t.size:=by rw[lG,t.flat_length]
   have hel:(encI (ends (ts.take j) 0)).length=j:=by rw[aZ,dP,RZ];omega
   rw[if_neg (show¬j+1=0 by omega),aap ht,X9 ht]
   by_cases h0:j=0
   ·subst h0;have hi:idx (Ba ts) 0=some [.sl false 4 (jV false (t.flat 0))]:=by have:=bW (Ba ts) 0;rw[vM] at this;rw[this,hr]
    rw[if_pos rfl];have z:sizes (ts.take 0)=0:=rfl;rw[z] at hsh hrl;have z2:(([]:aA).length:Int)=((0:Nat):Int):=rfl;simp only[mg,M.yQ,M.uD,hpl,hi,ah,c0,z2,hsh,hrl,List.nil_append,zM,Nat.zero_add];rw[zdt au,aU,aX au,aU,aX au,aU,aC au au,aC au au];simp[encI,jV,gX,ends,sizes]
   ·rw[if_neg h0];simp only[mg,M.yQ,M.uD,hpl,bW,hr,ah,c0,hfl,hsh,hrl,hel,rX,Le];rw[zdt au,aU,aX au,aU,aX au,aU,aX au,aU,aX au,aU,aC au au,aC au au,Us,Nat.zero_add];simp[encI])
  (by
   by_cases h0:ts=[]
   ·rw[if_pos (by rw[h0];rfl),if_pos h0];subst h0;rfl
   ·have h1:¬ts.length=0:=λe=>h0 (List.length_eq_zero_iff.1 e)
    rw[if_neg h1,if_neg h0,List.take_length];simp only[mg,M.yQ,M.uD,hpl];rw[uq au,bZ]) 0 (Nat.zero_le _)
 rw[if_pos rfl] at hloop;rw[M.IW,hloop,ah]
 by_cases h0:ts=[]
 ·rw[if_pos h0];subst h0;rfl
 ·rw[if_neg h0];simp only[uw,letE,wu,aU,lG,lW,Le];rw[aX au,aU,aX au,aU,Tn.flat,Us];rfl
mutual
def QH(w:Bool):Tn->Row
 | .mk k n x _ ks=>[.int .i64 k,.int .i64 n,.str x,.sl w 5 (xg w ks),.int .i64 0]
def xg(w:Bool):List Tn->aA
 |[]=>[]
 |t::ts=>QH w t::xg w ts
end
def aay(w:Bool):∀ts:List Tn,xg w ts=ts.map (QH w)
 |[]=>rfl
 |t::ts=>by rw[xg,aay w ts];rfl
def ah2(w:Bool)(a:List Tn):(xg w a).length=a.length:=by simp[aay]
mutual
def ayA(w:Bool):∀t:Tn,vP (QH w t)=QH false t
 | .mk k n x y ks=>by have:=Zh w ks;simp only[QH,vP,D.fz,this]
def Zh(w:Bool):∀ts:List Tn,aJ (xg w ts)=xg false ts
 |[]=>rfl
 |t::ts=>by rw[xg,aJ,ayA w t,Zh w ts,xg]
end
def Ye{α:Type}(a b:Bool)(x y:α):(bif a||b then x else y)=bif a then x else bif b then x else y:=by cases a<;>rfl
def ah3{α:Type}(a b:Bool)(x y:α):(bif a && b then x else y)=bif a then(bif b then x else y) else y:=by cases a<;>rfl
def Tq{α:Type}(a:Bool)(x y:α):some (bif a then x else y)=bif a then some x else some y:=by cases a<;>rfl
def Ux(op:Int):M.lX op=some (wZ op)∧M.sN op=some (wZ op):=by simp only[M.lX,M.FC,M.sN,M.KI,wZ,Ye,Tq];constructor<;>first|trivial|rfl
def Uy(k op:Int)(x y:aF)(r:aA):M.ng k op x y r=some (lvl k op)∧M.dw k op x y r=some (lvl k op):=by simp only[M.ng,M.Ku,M.dw,M.KJ,lvl,Ye,Tq,(Ux op).1,(Ux op).2,ah];constructor<;>first|trivial|rfl
def Zi(p:Ps):M.zi p.level p.lJ p.qK p.qL p.kT=some (kX p)∧M.zl p.level p.lJ p.qK p.qL p.kT=some (kX p):=by simp only[M.zi,M.Pq,M.zl,M.Pz,fB,dn,ah,kX,ge_iff_le];cases(decide (1<=p.level) && decide (p.level<=15))<;>cases p.lJ<;>exact⟨rfl,rfl⟩
def L6:M.qX=some (1,false,false,false,false)∧M.jX=some (1,false,false,false,false):=⟨rfl,rfl⟩
def ayB(k op:Int)(p:Ps):fits k op p=bif !(kX p) then false else bif lvl k op==0 then false else bif p.qK && k==13 then false else bif p.qL &&(k==12 && op==62) then false else
  bif p.kT &&(k==11||(k==9||k==4)) then false else bif p.lJ && k==9 then true else decide (p.level<=lvl k op):=by
 unfold fits;rw[Ye];cases(p.lJ && k==9)<;>rfl
def acF(k op:Int)(x y:aF)(r:aA)(p:Ps):M.Dw k op x y r p.level p.lJ p.qK p.qL p.kT=some (fits k op p)∧M.Dx k op x y r p.level p.lJ p.qK p.qL p.kT=some (fits k op p):=by rw[ayB];simp only[M.Dw,M.QZ,M.Dx,M.Q8,(Uy k op x y r).1,(Uy k op x y r).2,(Zi p).1,(Zi p).2,ah,Ye,ah3,Tq];constructor<;>first|trivial|rfl
def nb0(j:Nat):((j:Int)==0)=Nat.beq j 0:=by cases j<;>rfl
def nb1(j:Nat):((j:Int)==1)=Nat.beq j 1:=by
 rcases j with _|_|j
 ·rfl
 ·rfl
 ·rw[Lu.2 au];rfl
def gt0(j:Nat):decide ((j:Int)>0)= !(Nat.beq j 0):=by
 cases j with
 |zero=>rfl
 |succ j=>rw[zdt au];rfl
def akZ(op:Int)(j:Nat):M.vV op (j:Int)=some (bif Nat.beq j 0 then(sides op).1 else(sides op).2):=by simp only[M.vV,M.Iz,(Ux op).1,ah,nb0,sides];cases wZ op==3<;>cases wZ op==4<;>cases wZ op==6<;>cases wZ op==7<;>cases wZ op==8<;>cases wZ op==9<;>cases wZ op==10<;>cases Nat.beq j 0<;>rfl
def amM(op:Int):M.vK op=some (sides op):=by simp only[M.vK,M.KP,(Ux op).2,ah,sides,Tq]
def ak0(k op:Int)(x y:aF)(r:aA)(j:Nat):M.sH k op x y r (j:Int)=some (Uk k op j):=by simp only[M.sH,M.IB,akZ,ah,Uk,gt0];cases k==15<;>cases k==14<;>cases k==13<;>cases k==11<;>cases k==12<;>cases Nat.beq j 0<;>rfl
def Ps.zL(p:Ps):Int×Bool×Bool×Bool×Bool:=(p.level,p.lJ,p.qK,p.qL,p.kT)
def an3(j n:Nat)(h:n<=1048576):(decide ((j:Int)>=0) && decide ((j:Int)<=i64.wrap ((n:Int) - 1)))=Nat.blt j n:=by
 rw[aC au au];cases hb:Nat.blt j n with
 |true=>rw[Nat.blt_eq] at hb;rw[zdt au,zdt au];rfl
 |false=>
  have:¬j<n:=by rw[<-Nat.blt_eq,hb];simp
  rw[uq (show¬(j:Int)<=(n:Int) - 1 by omega),Bool.and_false]
def many(n:Nat):decide ((n:Int)>1)=Nat.blt 1 n:=by
 cases hb:Nat.blt 1 n with
 |true=>rw[Nat.blt_eq] at hb;exact zdt au
 |false=>
  have:¬1<n:=by rw[<-Nat.blt_eq,hb];simp
  exact uq au
def VJ(k op:Int)(x y:aF)(r:aA)(j:Nat)(p:Ps)(hr:r.length<=1048576):M.vW k op x y r (j:Int) p.level p.lJ p.qK p.qL p.kT=some (dG k op r.length j p).zL:=by
 simp only[M.vW,M.Nl,(Zi p).1,dn,(Uy k op x y r).1,ak0,L6.1,ah,an3 j r.length hr,many,nb0,nb1,dG];cases kX p with
 |false=>rfl
 |true=>
  cases Nat.blt j r.length with
  |false=>rfl
  |true=>
   cases hz:(lvl k op==0) with
   |true=>rfl
   |false=>
    cases h15:(lvl k op==15) with
    |true=>rfl
    |false=>
     simp only[Bool.not_true,bZ,Bool.false_or];have fin:∀z:Int,(bif k==11 then some (z,k==6,p.qK,p.qL,false) else bif k==9 then some (z,k==6,p.qK,p.qL,false) else bif k==10 then some (z,k==6,p.qK,p.qL,false) else bif k==6 then some (z,k==6,p.qK,p.qL,false) else
       bif Nat.beq j 0 then(bif p.kT then some (z,k==6,p.qK,p.qL,true) else bif Nat.beq j 1 then(bif k==12 then some (z,k==6,p.qK,p.qL,op==99) else some (z,k==6,p.qK,p.qL,false)) else some (z,k==6,p.qK,p.qL,false)) else
       bif Nat.beq j 1 then(bif k==12 then some (z,k==6,p.qK,p.qL,op==99) else some (z,k==6,p.qK,p.qL,false)) else some (z,k==6,p.qK,p.qL,false))=
       some (z,k==6,p.qK,p.qL,bif k==11||(k==9||(k==10||k==6)) then false else(Nat.beq j 0 && p.kT)||(Nat.beq j 1 &&(k==12 && op==99))):=by
      intro z;cases h11:(k==11) with
      |true=>rfl
      |false=>cases h9:(k==9) with
       |true=>rfl
       |false=>cases h10:(k==10) with
        |true=>rfl
        |false=>cases h6:(k==6) with
         |true=>rfl
         |false=>simp only[bZ,Bool.or_false];cases Nat.beq j 0<;>cases p.kT<;>cases Nat.beq j 1<;>cases(k==12)<;>simp
     cases h13:(k==13) with
     |true=>
      cases Nat.blt 1 r.length with
      |true=>rfl
      |false=>exact fin _
     |false=>exact fin _
def abt(k op:Int)(x y:aF)(r:aA)(j:Nat):M.pz k op x y r (j:Int)=some (oH k j):=by simp only[M.pz,M.IC,nb0,oH];cases Nat.beq j 0<;>cases k==9<;>cases k==10<;>rfl
def kY(k:Int)(hk:I64 k):M.iG k=some (k,spell k,0)∧M.dD k=some (k,spell k,0):=by simp only[M.iG,M.Q5,M.dD,M.NI,(mO k hk).1,(mO k hk).2,ah];constructor<;>first|trivial|rfl
def opF(s:aF):List (aF)->Nat->Int->Nat->Int×Nat
 |[],_,k,m=>(k,m)
 |g::l,i,k,m=>bif Nat.blt m g.length && g.isPrefixOf s then opF s l (i+1) (30+(i:Int)) g.length else opF s l (i+1) k m
def acG(s:aF):∀(l:List (aF)) (i:Nat) (k:Int) (m:Nat),(opF s l i k m).2=aeB s l m
 |[],_,_,_=>rfl
 |g::l,i,k,m=>by
  rw[opF,aeB];cases(Nat.blt m g.length && g.isPrefixOf s) with
  |true=>rw[aU,aU,acG s l]
  |false=>rw[bZ,bZ,acG s l]
def an4(s:aF)(L:List (aF)){b:Int×Int×Int->Option (Int×Int×Int⊕Int×Int×Int)}
  (hb:∀(i:Nat) g k (m:Nat),L[i]? =some g->m<=2->b (k,(m:Int),(i:Int))=some (.inl (bif Nat.blt m g.length && g.isPrefixOf s then(30+(i:Int),(g.length:Int),(i:Int)+1) else(k,(m:Int),(i:Int)+1))))
  (he:∀k m,b (k,m,(L.length:Int))=some (.inr (k,m,(L.length:Int)))) (h2:∀g,g∈L->g.length<=2):
  fM b (0,0,0)=some ((opF s L 0 0 0).1,((opF s L 0 0 0).2:Int),(L.length:Int)):=by
 have key:∀(t:List (aF)) (i:Nat) (k:Int) (m:Nat),L.drop i=t->i<=L.length->m<=2->fM b (k,(m:Int),(i:Int))=some ((opF s t i k m).1,((opF s t i k m).2:Int),(L.length:Int)):=by
  intro t;induction t with
  |nil=>
   intro i k m hd hi hm;have:i=L.length:=by have:=congrArg List.length hd;simp at this;omega
   subst this;exact dZ (he _ _)
  |cons g t ih=>
   intro i k m hd hi hm;have hx:L[i]? =some g:=by
    have:(L.drop i)[0]? =some g:=by rw[hd];rfl
    simpa using this
   have hlt:i<L.length:=(Jm.1 hx).1;have hd':L.drop (i+1)=t:=by rw[<-List.drop_drop,hd];rfl
   have hs:=hb i g k m hx hm;have hg:=h2 g (Ib hx);rw[opF];cases hc:(Nat.blt m g.length && g.isPrefixOf s) with
   |true=>rw[hc,aU] at hs;rw[iC hs,aU,show(i:Int)+1=((i+1:Nat):Int) by omega,ih (i+1) _ _ hd' hlt hg]
   |false=>rw[hc,bZ] at hs;rw[iC hs,bZ,show(i:Int)+1=((i+1:Nat):Int) by omega,ih (i+1) _ _ hd' hlt hm]
 have:=key L 0 0 0 rfl (Nat.zero_le _) au;rw[vM] at this;exact this
def ayC{α:Type}(s:List α)(n:Nat)(h:n<=s.length):cut s 0 (n:Int)=some (s.take n):=by unfold cut;rw[zdt au,zdt au,zdt au];simp
def pre_eq:∀(g s:aF),g.length<=s.length->(s.take g.length==g)=g.isPrefixOf s
 |[],s,_=>by simp
 |x::g,[],h=>by simp at h
 |x::g,y::s,h=>by
  have hr:=pre_eq g s (by simpa using h);have hxy:(y==x)=(x==y):=by rw[Bool.eq_iff_iff,beq_iff_eq,beq_iff_eq];exact⟨Eq.symm,Eq.symm⟩
  rw[List.isPrefixOf,oh,List.take_succ_cons,<-hr,<-hxy];rfl
def agI(g s:aF)(h:s.length<g.length):g.isPrefixOf s=false:=by
 cases hp:g.isPrefixOf s with
 |false=>rfl
 |true=>have:=(List.isPrefixOf_iff_prefix.1 hp).length_le;omega
def ah4(s g:aF):M.strings_HasPrefix s g=some (g.isPrefixOf s):=by
 simp only[M.strings_HasPrefix,M.zS,M.iD,M.lZ]
 by_cases h:g.length<=s.length
 ·rw[zdt au,aU,ayC s g.length h,ah,ah,pre_eq g s h]
 ·rw[uq au,bZ,ah,agI g s au]
def aua:∀g,g∈RN->g.length<=2:=by decide+kernel
def acH(m n:Nat):decide ((n:Int)>(m:Int))=Nat.blt m n:=by
 cases hb:Nat.blt m n with
 |true=>rw[Nat.blt_eq] at hb;exact zdt au
 |false=>
  have:¬m<n:=by rw[<-Nat.blt_eq,hb];simp
  exact uq au
def ah5(s:aF)(h0:s≠[])(hs:s.length<=4000000):M.rH s 0=some ((opF s RN 0 0 0).1,((aeB s RN 0:Nat):Int)):=by
 have hl:RN.length=39:=rfl;have hn:1<=s.length:=by cases s with|nil=>exact absurd rfl h0|cons=>simp
 simp only[M.rH,M.Q7,M.Px,dn,ah];rw[aC au au,zdt au,zdt au,Bool.and_self,Bool.not_true,bZ];have hc:=ayC s s.length (Nat.le_refl _);rw[List.take_length] at hc;rw[an4 s RN (λi g k m hg hm=> ?_) (λk m=> ?_) aua,ah,acG]
 ·have hi:=(Jm.1 hg).1;rw[hl] at hi;have hsc:=anU i hi;simp only[Qe,hg] at hsc;simp only[M.Vy,M.Kw,RX,hsc,ah,hc,ah4,acH];rw[zdt au,zdt au,aC au au,aC au au];cases Nat.blt m g.length<;>cases g.isPrefixOf s<;>rfl
 ·rw[hl];rfl
def ak1{s:aF}(h:s≠[])(hl:s.length<=2000000):∃c,idx s (i64.wrap ((s.length:Int) - 1))=some c∧lastB s=(c.toNat:Int):=by
 have hn:1<=s.length:=by cases s with|nil=>exact absurd rfl h|cons=>simp
 obtain⟨c,hc⟩:∃c,s[s.length - 1]? =some c:=⟨s[s.length - 1],by simp⟩
 refine⟨c, ?_, ?_⟩
 ·rw[aC au au,show((s.length:Int) - 1)=((s.length - 1:Nat):Int) by omega,bW,hc]
 ·rw[lastB,List.getLast?_eq_getElem?,hc]
def an5{s:aF}(h:s≠[]):∃c,idx s 0=some c∧amE s=(c.toNat:Int):=by
 cases s with
 |nil=>exact absurd rfl h
 |cons c s=>exact⟨c,rfl,rfl⟩
def an6(c:UInt8):i64.wrap (c.toNat:Int)=(c.toNat:Int):=by have:=aks c;exact aC au au
def abu(a b:Tk):FV a b=bif a.text==[] then false else bif b.text==[] then false else bif a.kind==2 then false else bif a.kind==1 then false else bif b.kind==1 then false else
 bif isW (lastB a.text) && isW (amE b.text) then true else
 bif a.kind==3 &&(isW (amE b.text)||amE b.text==46) then true else
 bif a.kind==6 && b.kind==32 then true else
 bif !(decide (30<=a.kind) && decide (a.kind<=68)) then false else Nat.blt a.text.length (aeB (a.text++b.text) RN 0):=by
 unfold FV;simp only[Ye]
def aaz(a b:Tk)(ha:a.text.length<=2000000)(hb:b.text.length<=2000000):M.sJ a.kind a.text a.at_ b.kind b.text b.at_=some (FV a b):=by
 rw[abu];simp only[M.sJ,M.IE]
 by_cases h1:a.text=[]
 ·rw[show(a.text==[])=true by simpa using h1,aU,aU]
 ·rw[show(a.text==[])=false by simpa using h1,bZ,bZ]
  by_cases h2:b.text=[]
  ·rw[show(b.text==[])=true by simpa using h2,aU,aU]
  ·obtain⟨c,hc,hc'⟩:=ak1 h1 ha;obtain⟨d,hd,hd'⟩:=an5 h2;have hop:=ah5 (a.text++b.text) (by simp[h1]) (by simp only[rX];omega);rw[show(b.text==[])=false by simpa using h2,bZ,bZ,hc',hd'];simp only[hc,hd,ah,an6,NR,M.gV,M.yD,dn,hop,acH,ge_iff_le,Ye,ah3,Tq,aX (show a.text.length+b.text.length<=9223372036854775807 by omega),aU]
def RQ{α:Type}:List (List α)->Nat
 |[]=>0
 |x::l=>x.length+RQ l
def an7{α:Type}:∀(L:List (List α)) (j:Nat),(yY L j).length<=RQ L
 |[],j=>by simp[yY,RQ]
 |x::l,0=>by simp[yY,RQ]
 |x::l,j+1=>by have:=an7 l j;simp only[yY,List.getElem?_cons_succ,RQ] at this⊢;omega
def VK:∀(L:List (List Tk)) (b:Bool),(DW b L).length<=RQ L+L.length
 |[],b=>by simp[DW,RQ]
 |x::l,b=>by have:=VK l false;cases b<;>simp only[DW,RQ,aU,bZ,rX,oh]<;>omega
def ayD{α:Type}:∀(L:List (List α)),(yY L 0).length+((yY L 1).length+(yY L 2).length)<=RQ L
 |[]=>by simp[yY,RQ]
 |[x]=>by simp[yY,RQ]
 |[x,y]=>by simp[yY,RQ]
 |x::y::z::l=>by simp[yY,RQ]
def EP{α:Type}{a b:List α}{N:Nat}(c:Bool)(ha:a.length<=N)(hb:b.length<=N):(bif c then a else b).length<=N:=by cases c<;>assumption
def aub(k op:Int)(n:Nat)(x:aF)(L:List (List Tk)):(EY k op n x L).length<=RQ L+L.length+4:=by
 have h1:=VK L true;have h2:=an7 L 0;have h3:=ayD L;have h4:(bif Nat.blt 1 n then tok 32::(DW true L++[tok 33]) else yY L 0:List Tk).length<=RQ L+L.length+2:=EP _ (by simp only[oh,rX,zM];omega) au;have h5:(bif op==99 then[] else[tok op]:List Tk).length<=1:=EP _ (by simp) (by simp);unfold EY;refine EP _ ?_ (EP _ ?_ (EP _ ?_ (EP _ ?_ (EP _ ?_ (EP _ ?_ (EP _ ?_ (EP _ ?_ (EP _ ?_ (EP _ ?_ (EP _ ?_ (EP _ ?_ ?_)))))))))))
 all_goals(simp only[oh,rX,zM];omega)
def Hg(k op:Int)(n:Nat)(p:Ps):∀(ts:List Tn) (j:Nat),(iJ k op n p ts j).length=ts.length
 |[],j=>by rw[iJ];rfl
 |t::ts,j=>by rw[iJ,oh,Hg k op n p ts (j+1),oh]
def sZ(k op:Int)(n:Nat)(p:Ps)(j:Nat)(u:Tn):List Tk:=bif oH k j||fits u.kind u.op (dG k op n j p) then uF u (dG k op n j p) else tok 32::(uF u .top++[tok 33])
def agJ(k op:Int)(n:Nat)(p:Ps):∀{ts:List Tn} {i j:Nat} {u:Tn},ts[j]? =some u->(iJ k op n p ts i)[j]? =some (sZ k op n p (i+j) u)
 |[],_,_,_,h=>by simp at h
 |t::ts,i,0,u,h=>by cases h;rw[iJ,List.getElem?_cons_zero];rfl
 |t::ts,i,j+1,u,h=>by rw[List.getElem?_cons_succ] at h;rw[iJ,List.getElem?_cons_succ,agJ k op n p h,show i+1+j=i+(j+1) by omega]
def KY{k op:Int}{n:Nat}{p:Ps}{j:Nat}{u:Tn}(h:∀q,(uF u q).length+4<=8 * u.size):(sZ k op n p j u).length+2<=8 * u.size:=by
 unfold sZ;cases(oH k j||fits u.kind u.op (dG k op n j p)) with
 |true=>have:=h (dG k op n j p);rw[aU];omega
 |false=>have:=h .top;simp only[bZ,oh,rX,zM];omega
def Wi{k op:Int}{n:Nat}{p:Ps}:∀{ts:List Tn} {j:Nat},(∀u,u∈ts->∀q,(uF u q).length+4<=8 * u.size)->RQ (iJ k op n p ts j)+2 * ts.length<=8 * sizes ts
 |[],j,_=>by rw[iJ,RQ,sizes];simp
 |t::ts,j,h=>by
  have h1:=KY (k:=k) (op:=op) (n:=n) (p:=p) (j:=j) (h t zmf);have h2:=Wi (k:=k) (op:=op) (n:=n) (p:=p) (ts:=ts) (j:=j+1) λu hu=>h u (zmm _ hu)
  unfold sZ at h1;rw[iJ,RQ,sizes,oh];omega
def oW(t:Tn):∀q,(uF t q).length+4<=8 * t.size:=by refine Tn.ind (P:=λt=>∀q,(uF t q).length+4<=8 * t.size) ?_ t;intro k op x y ks ih q;have h1:=aub k op ks.length x (iJ k op ks.length q ks 0);have h2:=Wi (k:=k) (op:=op) (n:=ks.length) (p:=q) (ts:=ks) (j:=0) ih;rw[Hg] at h1;rw[uF,Tn.size];omega
def agK(t:Tn)(q:Ps):(Xc t q).length+2<=8 * t.size:=by
 have h1:=oW t q;have h2:=oW t .top;unfold Xc;cases fits t.kind t.op q with
 |true=>rw[aU];omega
 |false=>simp only[bZ,oh,rX,zM];omega
@[simp] theorem cO(l:List Tk):ay (kJ l)=true:=by simp only[ay,kJ,List.all_map,List.all_eq_true];intro x _;rfl
def lH(a b:List Tk):kJ (a++b)=kJ a++kJ b:=by simp[kJ]
def HY(a toks:List Tk)(sp:aA)(f:Bool)(hs:ay sp=true)(hl:toks.length+a.length<=1000000000):M.aV (kJ a) (kJ toks) sp f=some (kJ (toks++a),sp,f):=by simp only[M.aV,M.Cc,gu,<-lH,cO,hs,aU];rw[aX au,aU,aX au,aU]
def iota(n:Nat):List Int:=(List.range n).map fun(i:Nat)=>((i:Nat):Int)
def Oo(n:Nat):(iota n).length=n:=by simp[iota]
def apA(n:Nat):iota (n+1)=iota n++[(n:Int)]:=by simp[iota,List.range_succ]
def acI(k op:Int)(x y:aF)(rows:aA)(h:rows.length<=1048576):M.jB k op x y rows=some (k,op,x,y,encI (iota rows.length)):=by
 obtain⟨n,hn⟩:∃n,n=rows.length:=⟨_,rfl⟩
 simp only[M.jB,M.GH];rw[<-hn] at h⊢;have hloop:=jl (b:=M.qB)
  (t:=if n=0 then .inl ((n:Int),0,0,0,[],[],k,op,x,y) else .inr ((n:Int),(n:Int),0,0,[],[],k,op,x,y,encI (iota n)))
  (λj=>if j=0 then .inl ((n:Int),0,0,0,[],[],k,op,x,y) else .inr ((n:Int),(j:Int),0,0,[],[],k,op,x,y,encI (iota j))) n
  (by
   intro j hj;rw[if_neg (show¬j+1=0 by omega),apA]
   by_cases h0:j=0
   ·subst h0;rw[if_pos rfl];simp only[mg,M.qB,M.nJ];rw[zdt au,aU];rfl
   ·rw[if_neg h0];simp only[mg,M.qB,M.nJ,aZ,Oo,Le];rw[zdt au,aU,aX au,aU,aX au,aU,aC au au];simp[encI])
  (by
   by_cases h0:n=0
   ·simp only[if_pos h0];simp only[mg,M.qB,M.nJ];rw[uq au,bZ]
   ·simp only[if_neg h0];simp only[mg,M.qB,M.nJ];rw[uq au,bZ]) 0 (Nat.zero_le _)
 rw[if_pos rfl] at hloop;rw[M.Ej,hloop,ah]
 by_cases h0:n=0
 ·rw[if_pos h0,h0];rfl
 ·rw[if_neg h0];simp only[uw,letE,wu,aU]
def Wr(toks:List Tk)(sp:aA)(N:Nat)(out:List Tk)(r:Option (aA×aA×Bool)):Prop:=
 ∃sp',r=some (kJ (toks++out),sp',false)∧ay sp'=true∧sp'.length<=sp.length+N
def PT(u:Tn):Prop:=∀(w:Bool) (f:Nat) (p:Ps) (toks:List Tk) (sp:aA),5 * u.size<=f->kX p=true->ay sp=true->toks.length+16 * u.size<=900000000->sp.length+u.size<=900000000->u.size<=1048576->
 Wr toks sp u.size (uF u p) (M.qH f u.kind u.op u.text u.other (iM w u.kids) p.level p.lJ p.qK p.qL p.kT (kJ toks) sp false)
def an8{u:Tn}(h:u.size<=1048576)(w:Bool):(iM w u.kids).length<=1048576:=by have h1:=u.mZ;have h2:=lV u.kids;rw[jC];omega
def vO(k:Int):([[D.int .i64 k,D.str (spell k),D.int .i64 0]]:aA)=kJ [tok k]:=rfl
def aCH{u:Tn}(hP:PT u){w:Bool}{f:Nat}{p:Ps}{toks:List Tk}{sp:aA}(hf:5 * u.size+1<=f)(hp:kX p=true)(hs:ay sp=true)(ht:toks.length+16 * u.size+1<=900000000)(hl:sp.length+u.size<=900000000)(hu:u.size<=1048576):
  Wr toks sp u.size (Xc u p) (M.uX f u.kind u.op u.text u.other (iM w u.kids) p.level p.lJ p.qK p.qL p.kT (kJ toks) sp false):=by
 obtain⟨g,rfl⟩:∃g,f=g+1:=⟨f - 1,au⟩
 have hz:=u.size_pos;have hb:=oW u .top;rw[M.WA];simp only[M.qF,acI u.kind u.op u.text u.other _ (an8 hu w),ah,(acF u.kind u.op u.text u.other _ p).1,bZ,Bool.not_not,Xc];cases fits u.kind u.op p with
 |true=>obtain⟨sp',h1,h2,h3⟩:=hP w g p toks sp au hp hs au hl hu;simp only[aU,cO,hs,h1,ah,h2];exact⟨sp',rfl,h2,h3⟩
 |false=>obtain⟨sp',h1,h2,h3⟩:=hP w g .top (toks++[tok 32]) sp au rfl hs (by rw[rX,Le];omega) hl hu;have e1:=(kY 32 (by constructor<;>decide)).1;have e2:=(kY 33 (by constructor<;>decide)).1;have p1:=HY [tok 32] toks sp false hs (by simp;omega);have p2:=HY [tok 33] (toks++[tok 32]++uF u .top) sp' false h2 (by simp only[rX,Le];omega);simp only[Ps.top] at h1 p2;simp only[bZ,e1,e2,L6.1,ah,vO,cO,hs,aU,p1,h1,h2,p2];refine⟨sp', ?_,h2,h3⟩;simp[Ps.top]
def Tt(w:Bool)(u:Tn):fZ .i64 (u.row w) 0=some u.kind∧fZ .i64 (u.row w) 1=some u.op∧cStr (u.row w) 2=some u.text∧cStr (u.row w) 3=some u.other∧TD 5 (u.row w) 4=some (iM w u.kids):=by cases u;exact⟨rfl,rfl,rfl,rfl,rfl⟩
def Tv(w:Bool){ks:List Tn}{j:Nat}{u:Tn}(hj:ks[j]? =some u):idx (iM w ks) (j:Int)=some (u.row w):=by rw[bW,PO];simp[hj]
section
variable {k op:Int} {x y:aF} {ks:List Tn} (ih:∀u,u∈ks->PT u)
include ih
theorem Oq{w:Bool}{f:Nat}{p:Ps}{toks:List Tk}{sp:aA}{j:Nat}{u:Tn}(hj:ks[j]? =some u)(hf:5 * u.size+2<=f)(hp:kX p=true)(hlv:lvl k op≠0)(hs:ay sp=true)(ht:toks.length+16 * u.size+1<=900000000)(hl:sp.length+u.size<=900000000)(hu:sizes ks<=1048575):
  Wr toks sp u.size (sZ k op ks.length p j u) (M.jW f k op x y (iM w ks) (j:Int) p.level p.lJ p.qK p.qL p.kT (kJ toks) sp false):=by
 obtain⟨g,rfl⟩:∃g,f=g+1:=⟨f - 1,au⟩
 have hkl:=lV ks;have hju:=(Jm.1 hj).1;have hus:=lu (Ib hj);have hg:=Tv w hj;obtain⟨c0,c1,c2,c3,c4⟩:=Tt w u;have hn:=acI k op x y (iM w ks) (by rw[jC];omega);rw[jC] at hn;have hkp:=VJ k op x y (encI (iota ks.length)) j p (by rw[aZ,Oo];omega);rw[aZ,Oo] at hkp;have hq:=rW (n:=ks.length) (j:=j) hp hju hlv;have e1:=ih u (Ib hj);rw[M.X5];simp only[mg,M.rO,hn,ah,hg,c0,c1,c2,c3,c4,hkp,Ps.zL,abt,cO,hs,aU,sZ];cases htg:oH k j with
 |true=>obtain⟨sp',h1,h2,h3⟩:=e1 w g (dG k op ks.length j p) toks sp au hq hs au hl au;simp only[aU,Bool.true_or,h1,ah,cO,h2];exact⟨sp',rfl,h2,h3⟩
 |false=>obtain⟨sp',h1,h2,h3⟩:=aCH e1 (w:=w) (f:=g) (p:=dG k op ks.length j p) (toks:=toks) (sp:=sp) au hq hs ht hl au;unfold Xc at h1;simp only[bZ,Bool.false_or,h1,ah,cO,h2,aU];exact⟨sp',rfl,h2,h3⟩
theorem aaA{w:Bool}{f:Nat}{p:Ps}{shut:Int}(hf:5 * sizes ks+2<=f)(hp:kX p=true)(hlv:lvl k op≠0)(hu:sizes ks<=1048575):∀(d j:Nat) (toks:List Tk) (sp:aA),j+d=ks.length->ay sp=true->toks.length+16 * sizes (ks.drop j)+2<=900000000->sp.length+sizes (ks.drop j)<=900000000->
  ∃sp',M.jU (M.jW f) shut (ks.length:Int) k op x y (iM w ks) p.level p.lJ p.qK p.qL p.kT ((j:Int),false,kJ toks,sp)=some ((ks.length:Int),false,kJ (toks++DW (Nat.beq j 0) ((iJ k op ks.length p ks 0).drop j)),sp')∧ay sp'=true∧sp'.length<=sp.length+sizes (ks.drop j)
 |0,j,toks,sp,hj,hs,ht,hl=>by have hjn:j=ks.length:=au;refine⟨sp, ?_,hs,au⟩;have hd:(iJ k op ks.length p ks 0).drop j=[]:=List.drop_eq_nil_iff.2 (by rw[Hg];omega);rw[hd,DW,List.append_nil,M.jU];apply dZ;simp only[M.nC,M.ny];rw[uq au,bZ,hjn]
 |d+1,j,toks,sp,hj,hs,ht,hl=>by
  have hlt:j<ks.length:=au;have hkl:=lV ks;obtain⟨u,hu'⟩:∃u,ks[j]? =some u:=⟨ks[j],by simp[hlt]⟩
  have hd1:ks.drop j=u::ks.drop (j+1):=by rw[List.drop_eq_getElem_cons hlt];rw[List.getElem?_eq_getElem hlt] at hu';rw[Option.some.inj hu']
  have hus:=lu (Ib hu');have hz:=u.size_pos;have hb:=KY (k:=k) (op:=op) (n:=ks.length) (p:=p) (j:=j) (oW u);have hdl:j<(iJ k op ks.length p ks 0).length:=by rw[Hg];exact hlt
  have hkd:(iJ k op ks.length p ks 0).drop j=sZ k op ks.length p j u::(iJ k op ks.length p ks 0).drop (j+1):=by have hg:=agJ k op ks.length p (i:=0) hu';rw[Nat.zero_add,List.getElem?_eq_getElem hdl] at hg;rw[List.drop_eq_getElem_cons hdl,Option.some.inj hg]
  rw[hd1,sizes] at ht hl⊢;rw[hkd];have hw:i64.wrap ((j:Int)+1)=((j+1:Nat):Int):=by rw[aC au au];omega
  by_cases h0:j=0
  ·subst h0;obtain⟨sp1,a1,a2,a3⟩:=Oq ih (w:=w) (f:=f) (p:=p) (toks:=toks) (sp:=sp) (x:=x) (y:=y) (op:=op) (k:=k) hu' au hp hlv hs au au hu;obtain⟨sp2,b1,b2,b3⟩:=aaA hf hp hlv hu d (0+1) (toks++sZ k op ks.length p 0 u) sp1 au a2 (by rw[rX];omega) au;have hstep:M.nC (M.jW f) shut (ks.length:Int) k op x y (iM w ks) p.level p.lJ p.qK p.qL p.kT (((0:Nat):Int),false,kJ toks,sp)=some (.inl (((0+1:Nat):Int),false,kJ (toks++sZ k op ks.length p 0 u),sp1)):=by simp only[M.nC,M.ny,cO,hs,aU];rw[zdt au,aU,uq au,bZ,a1,ah,hw]
   refine⟨sp2, ?_,b2,au⟩;rw[M.jU,iC hstep];rw[M.jU] at b1;have z0:Nat.beq 0 0=true:=rfl;have z1:Nat.beq (0+1) 0=false:=rfl;rw[b1,z0,z1,DW,aU];simp
  ·have e1:=(kY 36 (by constructor<;>decide)).1;have p1:=HY [tok 36] toks sp false hs (by simp;omega);obtain⟨sp1,a1,a2,a3⟩:=Oq ih (w:=w) (f:=f) (p:=p) (toks:=toks++[tok 36]) (sp:=sp) (x:=x) (y:=y) (op:=op) (k:=k) hu' au hp hlv hs (by rw[rX,Le];omega) au hu;obtain⟨sp2,b1,b2,b3⟩:=aaA hf hp hlv hu d (j+1) (toks++[tok 36]++sZ k op ks.length p j u) sp1 au a2 (by rw[rX,rX,Le];omega) au;have hstep:M.nC (M.jW f) shut (ks.length:Int) k op x y (iM w ks) p.level p.lJ p.qK p.qL p.kT ((j:Int),false,kJ toks,sp)=some (.inl (((j+1:Nat):Int),false,kJ (toks++[tok 36]++sZ k op ks.length p j u),sp1)):=by simp only[M.nC,M.ny,e1,ah,vO,cO,hs,aU,p1];rw[zdt au,aU,zdt au,aU,a1,ah,hw]
   refine⟨sp2, ?_,b2,au⟩;rw[M.jU,iC hstep];rw[M.jU] at b1;rw[b1];have hb0:Nat.beq j 0=false:=by cases j with
    |zero=>exact absurd rfl h0
    |succ j=>rfl
   have hb1:Nat.beq (j+1) 0=false:=rfl;rw[hb0,hb1,DW,bZ];simp
theorem ah6{w:Bool}{f:Nat}{p:Ps}{toks:List Tk}{sp:aA}{open' shut:Int}(ho:I64 open')(hsh:I64 shut)(hf:5 * sizes ks+3<=f)(hp:kX p=true)(hlv:lvl k op≠0)(hs:ay sp=true)(ht:toks.length+16 * sizes ks+3<=900000000)(hl:sp.length+sizes ks<=900000000)(hu:sizes ks<=1048575):
  Wr toks sp (sizes ks) (tok open'::(DW true (iJ k op ks.length p ks 0)++[tok shut])) (M.qG f k op x y (iM w ks) open' shut p.level p.lJ p.qK p.qL p.kT (kJ toks) sp false):=by
 obtain⟨g,rfl⟩:∃g,f=g+1:=⟨f - 1,au⟩
 have hkl:=lV ks;have e1:=(kY open' ho).1;have e2:=(kY shut hsh).1;have p1:=HY [tok open'] toks sp false hs (by simp;omega);obtain⟨sp1,a1,a2,a3⟩:=aaA ih (x:=x) (y:=y) (op:=op) (k:=k) (w:=w) (f:=g) (p:=p) (shut:=shut) au hp hlv hu ks.length 0 (toks++[tok open']) sp au hs (by rw[rX,Le,List.drop_zero];omega) (by rw[List.drop_zero];omega);rw[List.drop_zero] at a3;rw[List.drop_zero,vM] at a1;have hlen:(DW true (iJ k op ks.length p ks 0)).length<=9 * sizes ks:=by
  have h1:=VK (iJ k op ks.length p ks 0) true;have h2:=Wi (k:=k) (op:=op) (n:=ks.length) (p:=p) (ts:=ks) (j:=0) λu _=>oW u
  rw[Hg] at h1;omega
 have p2:=HY [tok shut] (toks++[tok open']++DW (Nat.beq 0 0) (iJ k op ks.length p ks 0)) sp1 false a2 (by simp only[rX,Le];have:Nat.beq 0 0=true:=rfl;rw[this];omega);rw[M.Wx];simp only[M.qE,e1,e2,ah,vO,cO,hs,aU,p1,jC,a1,a2,p2];refine⟨sp1, ?_,a2,a3⟩;simp
end
def OW(k op:Int)(n:Nat)(p:Ps)(u:Tn):iJ k op n p [u] 0=[sZ k op n p 0 u]:=by rw[iJ,iJ];rfl
def VL(k op:Int)(n:Nat)(p:Ps)(u v:Tn):iJ k op n p [u,v] 0=[sZ k op n p 0 u,sZ k op n p 1 v]:=by rw[iJ,iJ,iJ];rfl
def auc(k op:Int)(n:Nat)(p:Ps)(u v z:Tn):iJ k op n p [u,v,z] 0=[sZ k op n p 0 u,sZ k op n p 1 v,sZ k op n p 2 z]:=by rw[iJ,iJ,iJ,iJ];rfl
def sz1(u:Tn):sizes [u]=u.size:=by simp[sizes]
def sz2(u v:Tn):sizes [u,v]=u.size+v.size:=by simp[sizes]
def sz3(u v z:Tn):sizes [u,v,z]=u.size+(v.size+z.size):=by simp[sizes]
def Uz{α:Type}{l:List α}(h:l.length=2):∃a b,l=[a,b]:=by
 match l,h with
 |[a,b],_=>exact⟨a,b,rfl⟩
def Zj{α:Type}{l:List α}(h:l.length=3):∃a b c,l=[a,b,c]:=by
 match l,h with
 |[a,b,c],_=>exact⟨a,b,c,rfl⟩
def acJ{op:Int}(h:wZ op≠0):I64 op:=by
 by_cases hr:0<=op∧op<=99
 ·constructor<;>omega
 ·exfalso;apply h;have e:∀z:Int,0<=z->z<=99->(op==z)=false:=λz h1 h2=>by rw[Lu];omega
  simp only[wZ,e 44 (by decide) (by decide),e 45 (by decide) (by decide),e 67 (by decide) (by decide),e 46 (by decide) (by decide),e 63 (by decide) (by decide),e 48 (by decide) (by decide),e 47 (by decide) (by decide),e 50 (by decide) (by decide),e 62 (by decide) (by decide),e 49 (by decide) (by decide),e 99 (by decide) (by decide),e 55 (by decide) (by decide),e 56 (by decide) (by decide),e 57 (by decide) (by decide),e 58 (by decide) (by decide),e 59 (by decide) (by decide),e 60 (by decide) (by decide),Bool.or_false,bZ]
def Zk:((1:Nat):Int)=1:=rfl
def ayE:((2:Nat):Int)=2:=rfl
section
variable {k op:Int} {x y:aF} {ks:List Tn} (ih:∀u,u∈ks->PT u)
include ih
theorem aCI{w:Bool}{f:Nat}{p:Ps}{toks:List Tk}{sp:aA}(hc:Cnt k op y ks.length)(hk:k=6∨k=9∨k=10∨k=11∨k=12∨k=13∨k=14∨k=15)(hf:5 * sizes ks+4<=f)(hp:kX p=true)(hs:ay sp=true)(ht:toks.length+16 * sizes ks+3<=900000000)(hl:sp.length+sizes ks<=900000000)(hu:sizes ks<=1048575):
  Wr toks sp (sizes ks) (EY k op ks.length x (iJ k op ks.length p ks 0)) (M.oQ f k op x y (iM w ks) p.level p.lJ p.qK p.qL p.kT (kJ toks) sp false):=by
 obtain⟨g,rfl⟩:∃g,f=g+1:=⟨f - 1,au⟩
 have hlv:lvl k op≠0:=by have:=NT (y:=y) (n:=ks.length) (k:=k) (op:=op) au hc;omega
 rw[M.S9];rcases hk with rfl|rfl|rfl|rfl|rfl|rfl|rfl|rfl
 ·obtain⟨u,rfl⟩:=zlo.1 (hc.one au);rw[sz1] at *;have e1:=(kY 68 (by constructor<;>decide)).1;have p1:=HY [tok 68] toks sp false hs (by simp;omega);obtain⟨sp1,a1,a2,a3⟩:=Oq ih (w:=w) (f:=g) (p:=p) (toks:=toks++[tok 68]) (sp:=sp) (x:=x) (y:=y) (op:=op) (k:=6) (j:=0) (u:=u) rfl au hp hlv hs (by simp only[rX,oh,zM,Nat.zero_add] at *;omega) hl (by rw[sz1];exact hu);rw[vM] at a1;simp only[M.dI,Int.reduceBEq,aU,bZ,e1,ah,vO,cO,hs,p1,a1,a2];refine⟨sp1, ?_,a2,a3⟩;rw[OW];simp[EY,yY]
 ·obtain⟨u,rfl⟩:=zlo.1 (hc.one au);rw[sz1] at *;have e1:=(kY op (by rcases hc.stp au with rfl|rfl<;>constructor<;>decide)).1;have p1:=HY [tok op] toks sp false hs (by simp;omega);obtain⟨sp1,a1,a2,a3⟩:=Oq ih (w:=w) (f:=g) (p:=p) (toks:=toks++[tok op]) (sp:=sp) (x:=x) (y:=y) (op:=op) (k:=9) (j:=0) (u:=u) rfl au hp hlv hs (by simp only[rX,oh,zM,Nat.zero_add] at *;omega) hl (by rw[sz1];exact hu);rw[vM] at a1;simp only[M.dI,Int.reduceBEq,aU,bZ,e1,ah,vO,cO,hs,p1,a1,a2];refine⟨sp1, ?_,a2,a3⟩;rw[OW];simp[EY,yY]
 ·obtain⟨u,rfl⟩:=zlo.1 (hc.one au);rw[sz1] at *;have hb:=KY (k:=10) (op:=op) (n:=[u].length) (p:=p) (j:=0) (oW u);have e1:=(kY op (by rcases hc.stp au with rfl|rfl<;>constructor<;>decide)).1;obtain⟨sp1,a1,a2,a3⟩:=Oq ih (w:=w) (f:=g) (p:=p) (toks:=toks) (sp:=sp) (x:=x) (y:=y) (op:=op) (k:=10) (j:=0) (u:=u) rfl au hp hlv hs au hl (by rw[sz1];exact hu);rw[vM] at a1;have p1:=HY [tok op] (toks++sZ 10 op [u].length p 0 u) sp1 false a2 (by simp only[rX,oh,zM,Nat.zero_add] at *;omega);simp only[M.dI,Int.reduceBEq,aU,bZ,e1,ah,vO,cO,hs,p1,a1,a2];refine⟨sp1, ?_,a2,a3⟩;rw[OW];simp[EY,yY]
 ·obtain⟨u,rfl⟩:=zlo.1 (hc.one au);rw[sz1] at *;have e1:=(kY op (by rcases hc.una au with rfl|rfl|rfl<;>constructor<;>decide)).1;have p1:=HY [tok op] toks sp false hs (by simp;omega);obtain⟨sp1,a1,a2,a3⟩:=Oq ih (w:=w) (f:=g) (p:=p) (toks:=toks++[tok op]) (sp:=sp) (x:=x) (y:=y) (op:=op) (k:=11) (j:=0) (u:=u) rfl au hp hlv hs (by simp only[rX,oh,zM,Nat.zero_add] at *;omega) hl (by rw[sz1];exact hu);rw[vM] at a1;simp only[M.dI,Int.reduceBEq,aU,bZ,e1,ah,vO,cO,hs,p1,a1,a2];refine⟨sp1, ?_,a2,a3⟩;rw[OW];simp[EY,yY]
 ·obtain⟨u,v,rfl⟩:=Uz (hc.two au);rw[sz2] at *;have hb:=KY (k:=12) (op:=op) (n:=[u,v].length) (p:=p) (j:=0) (oW u);obtain⟨sp1,a1,a2,a3⟩:=Oq ih (w:=w) (f:=g) (p:=p) (toks:=toks) (sp:=sp) (x:=x) (y:=y) (op:=op) (k:=12) (j:=0) (u:=u) rfl au hp hlv hs au au (by rw[sz2];exact hu);rw[vM] at a1
  by_cases h99:op=99
  ·have e99:(op !=99)=false:=by simp[h99]
   obtain⟨sp2,b1,b2,b3⟩:=Oq ih (w:=w) (f:=g) (p:=p) (toks:=toks++sZ 12 op [u,v].length p 0 u) (sp:=sp1) (x:=x) (y:=y) (op:=op) (k:=12) (j:=1) (u:=v) rfl au hp hlv a2 (by simp only[rX,oh,zM,Nat.zero_add] at *;omega) au (by rw[sz2];exact hu);rw[Zk] at b1;simp only[M.dI,Int.reduceBEq,aU,bZ,e99,ah,vO,cO,hs,a1,a2,b1,b2];refine⟨sp2, ?_,b2,au⟩;rw[VL];simp[EY,yY,h99]
  ·have e99:(op !=99)=true:=by simpa using h99
   have e98:(op==99)=false:=by simpa using h99
   have e1:=(kY op (acJ (hc.bin rfl).1)).1;have p1:=HY [tok op] (toks++sZ 12 op [u,v].length p 0 u) sp1 false a2 (by simp only[rX,oh,zM,Nat.zero_add] at *;omega);obtain⟨sp2,b1,b2,b3⟩:=Oq ih (w:=w) (f:=g) (p:=p) (toks:=toks++sZ 12 op [u,v].length p 0 u++[tok op]) (sp:=sp1) (x:=x) (y:=y) (op:=op) (k:=12) (j:=1) (u:=v) rfl au hp hlv a2 (by simp only[rX,oh,zM,Nat.zero_add] at *;omega) au (by rw[sz2];exact hu);rw[Zk] at b1;simp only[M.dI,Int.reduceBEq,aU,bZ,e99,e1,p1,ah,vO,cO,hs,a1,a2,b1,b2];refine⟨sp2, ?_,b2,au⟩;rw[VL];simp[EY,yY,e98]
 ·have e1:=(kY 24 (by constructor<;>decide)).1;have hr:∀z:aF,([[D.int .i64 24,D.str (spell 24),D.int .i64 0],[D.int .i64 6,D.str z,D.int .i64 0]]:aA)=kJ [tok 24,⟨6,z,0⟩]:=λz=>rfl
  cases hm:Nat.blt 1 ks.length with
  |true=>
   obtain⟨sp1,a1,a2,a3⟩:=ah6 ih (w:=w) (f:=g) (p:=p) (toks:=toks) (sp:=sp) (x:=x) (y:=y) (op:=op) (k:=13) (open':=32) (shut:=33) (by constructor<;>decide) (by constructor<;>decide) au hp hlv hs au hl hu;have hlen:(DW true (iJ 13 op ks.length p ks 0)).length<=9 * sizes ks:=by
    have h1:=VK (iJ 13 op ks.length p ks 0) true;have h2:=Wi (k:=13) (op:=op) (n:=ks.length) (p:=p) (ts:=ks) (j:=0) λu _=>oW u
    rw[Hg] at h1;omega
   have p1:=HY [tok 24,⟨6,x,0⟩] (toks++tok 32::(DW true (iJ 13 op ks.length p ks 0)++[tok 33])) sp1 false a2 (by simp only[rX,oh,zM,Nat.zero_add] at *;omega);simp only[M.dI,Int.reduceBEq,aU,bZ,jC,many,hm,e1,p1,ah,hr,cO,hs,a1,a2];refine⟨sp1, ?_,a2,a3⟩;simp[EY,hm]
  |false=>
   have h1:ks.length=1:=by
    have h2:=hc.some_ au;have h3:¬1<ks.length:=by rw[<-Nat.blt_eq,hm];simp
    omega
   obtain⟨u,rfl⟩:=zlo.1 h1;rw[sz1] at *;have hb:=KY (k:=13) (op:=op) (n:=[u].length) (p:=p) (j:=0) (oW u);obtain⟨sp1,a1,a2,a3⟩:=Oq ih (w:=w) (f:=g) (p:=p) (toks:=toks) (sp:=sp) (x:=x) (y:=y) (op:=op) (k:=13) (j:=0) (u:=u) rfl au hp hlv hs au hl (by rw[sz1];exact hu);rw[vM] at a1;have p1:=HY [tok 24,⟨6,x,0⟩] (toks++sZ 13 op [u].length p 0 u) sp1 false a2 (by simp only[rX,oh,zM,Nat.zero_add] at *;omega);simp only[M.dI,Int.reduceBEq,aU,bZ,jC,many,hm,e1,p1,ah,hr,cO,hs,a1,a2];refine⟨sp1, ?_,a2,a3⟩;rw[OW];simp[EY,yY,show Nat.blt 1 1=false from rfl]
 ·obtain⟨u,v,z,rfl⟩:=Zj (hc.three rfl);rw[sz3] at *;have hb:=KY (k:=14) (op:=op) (n:=[u,v,z].length) (p:=p) (j:=0) (oW u);have hb2:=KY (k:=14) (op:=op) (n:=[u,v,z].length) (p:=p) (j:=1) (oW v);have e1:=(kY 65 (by constructor<;>decide)).1;have e2:=(kY 66 (by constructor<;>decide)).1;obtain⟨sp1,a1,a2,a3⟩:=Oq ih (w:=w) (f:=g) (p:=p) (toks:=toks) (sp:=sp) (x:=x) (y:=y) (op:=op) (k:=14) (j:=0) (u:=u) rfl au hp hlv hs au au (by rw[sz3];exact hu);rw[vM] at a1;have p1:=HY [tok 65] (toks++sZ 14 op [u,v,z].length p 0 u) sp1 false a2 (by simp only[rX,oh,zM,Nat.zero_add] at *;omega);obtain⟨sp2,b1,b2,b3⟩:=Oq ih (w:=w) (f:=g) (p:=p) (toks:=toks++sZ 14 op [u,v,z].length p 0 u++[tok 65]) (sp:=sp1) (x:=x) (y:=y) (op:=op) (k:=14) (j:=1) (u:=v) rfl au hp hlv a2 (by simp only[rX,oh,zM,Nat.zero_add] at *;omega) au (by rw[sz3];exact hu);rw[Zk] at b1;have p2:=HY [tok 66] (toks++sZ 14 op [u,v,z].length p 0 u++[tok 65]++sZ 14 op [u,v,z].length p 1 v) sp2 false b2 (by simp only[rX,oh,zM,Nat.zero_add] at *;omega);obtain⟨sp3,c1,c2,c3⟩:=Oq ih (w:=w) (f:=g) (p:=p) (toks:=toks++sZ 14 op [u,v,z].length p 0 u++[tok 65]++sZ 14 op [u,v,z].length p 1 v++[tok 66]) (sp:=sp2) (x:=x) (y:=y) (op:=op) (k:=14) (j:=2) (u:=z) rfl au hp hlv b2 (by simp only[rX,oh,zM,Nat.zero_add] at *;omega) au (by rw[sz3];exact hu);rw[ayE] at c1;simp only[M.dI,Int.reduceBEq,aU,bZ,e1,e2,p1,p2,ah,vO,cO,hs,a1,a2,b1,b2,c1,c2];refine⟨sp3, ?_,c2,au⟩;rw[auc];simp[EY,yY]
 ·obtain⟨u,v,rfl⟩:=Uz (hc.two au);rw[sz2] at *;have hb:=KY (k:=15) (op:=op) (n:=[u,v].length) (p:=p) (j:=0) (oW u);obtain⟨sp1,a1,a2,a3⟩:=Oq ih (w:=w) (f:=g) (p:=p) (toks:=toks) (sp:=sp) (x:=x) (y:=y) (op:=op) (k:=15) (j:=0) (u:=u) rfl au hp hlv hs au au (by rw[sz2];exact hu);rw[vM] at a1
  by_cases h99:op=99
  ·have e99:(op !=99)=false:=by simp[h99]
   obtain⟨sp2,b1,b2,b3⟩:=Oq ih (w:=w) (f:=g) (p:=p) (toks:=toks++sZ 15 op [u,v].length p 0 u) (sp:=sp1) (x:=x) (y:=y) (op:=op) (k:=15) (j:=1) (u:=v) rfl au hp hlv a2 (by simp only[rX,oh,zM,Nat.zero_add] at *;omega) au (by rw[sz2];exact hu);rw[Zk] at b1;simp only[M.dI,Int.reduceBEq,aU,bZ,e99,ah,vO,cO,hs,a1,a2,b1,b2];refine⟨sp2, ?_,b2,au⟩;rw[VL];simp[EY,yY,h99]
  ·have e99:(op !=99)=true:=by simpa using h99
   have e98:(op==99)=false:=by simpa using h99
   have e1:=(kY op (by rcases hc.asg rfl with rfl|h<;>constructor<;>omega)).1;have p1:=HY [tok op] (toks++sZ 15 op [u,v].length p 0 u) sp1 false a2 (by simp only[rX,oh,zM,Nat.zero_add] at *;omega);obtain⟨sp2,b1,b2,b3⟩:=Oq ih (w:=w) (f:=g) (p:=p) (toks:=toks++sZ 15 op [u,v].length p 0 u++[tok op]) (sp:=sp1) (x:=x) (y:=y) (op:=op) (k:=15) (j:=1) (u:=v) rfl au hp hlv a2 (by simp only[rX,oh,zM,Nat.zero_add] at *;omega) au (by rw[sz2];exact hu);rw[Zk] at b1;simp only[M.dI,Int.reduceBEq,aU,bZ,e99,e1,p1,ah,vO,cO,hs,a1,a2,b1,b2];refine⟨sp2, ?_,b2,au⟩;rw[VL];simp[EY,yY,e98]
end
def an9(sp:aA)(a b:Int)(hs:ay sp=true):ay (sp++[[D.int .i64 a,D.int .i64 b]])=true:=by simp only[ay,List.all_append,vF] at hs⊢;exact⟨hs,rfl⟩
def aCJ(t:Tn):zH t->RY t->PT t:=by
 refine Tn.ind (P:=λt=>zH t->RY t->PT t) ?_ t;intro k op x y ks ih hok he w f p toks sp hf hp hs ht hl hu;have hc:=Ji hok;have ih':∀u,u∈ks->PT u:=λu hm=>by obtain⟨i,hi⟩:=List.mem_iff_getElem?.1 hm;obtain⟨h1,h2⟩:=UL hok he hi;exact ih u hm h2 h1
 have he':1<=k∧k<=15:=he;have hlv:lvl k op≠0:=by have:=NT he' hc;omega
 rw[Tn.size] at hf ht hl hu⊢;obtain⟨g,rfl⟩:∃g,f=g+1:=⟨f - 1,au⟩
 simp only[Tn.kind,Tn.op,Tn.text,Tn.other,Tn.kids];rw[M.Wy,uF];have done:∀(out:List Tk) (sp':aA) (c:Option (aA×aA×Bool)),ay sp'=true->sp'.length<=sp.length+sizes ks->c=some (kJ (toks++out),sp'++[[D.int .i64 (toks.length:Int),D.int .i64 ((toks++out).length:Int)]],false)->Wr toks sp (sizes ks+1) out c:=by intro out sp' c h1 h2 h3;exact⟨_,h3,an9 _ _ _ h1,by rw[rX,Le];omega⟩
 have leaf:∀(z:Int) (h:EY k op ks.length x (iJ k op ks.length p ks 0)=([⟨z,x,0⟩]:List Tk)),Wr toks sp (sizes ks+1) (EY k op ks.length x (iJ k op ks.length p ks 0)) (some (kJ (toks++([⟨z,x,0⟩]:List Tk)),sp++[[D.int .i64 (toks.length:Int),D.int .i64 ((toks++([⟨z,x,0⟩]:List Tk)).length:Int)]],false)):=by intro z h;rw[h];exact done _ sp _ hs au rfl
 have hrow:∀z:Int,([[D.int .i64 z,D.str x,D.int .i64 0]]:aA)=kJ [⟨z,x,0⟩]:=λz=>rfl
 have hput:∀z:Int,M.aV (kJ [⟨z,x,0⟩]) (kJ toks) sp false=some (kJ (toks++[⟨z,x,0⟩]),sp,false):=λz=>HY [⟨z,x,0⟩] toks sp false hs (by simp;omega)
 have sps:∀(s:aA) (a b:Int),ay s=true->ay (s++[[D.int .i64 a,D.int .i64 b]])=true:=an9;have hk:k=1∨k=2∨k=3∨k=4∨k=5∨k=7∨k=8∨(k=6∨k=9∨k=10∨k=11∨k=12∨k=13∨k=14∨k=15):=by omega
 rcases hk with rfl|rfl|rfl|rfl|rfl|rfl|rfl|hk
 ·simp only[mg,M.gU,Int.reduceBEq,aU,bZ,hrow,hput,ah,cO,hs,gu,Le,sps sp _ _ hs];rw[aX au,aU,aX au,aU];exact leaf 6 rfl
 ·simp only[mg,M.gU,Int.reduceBEq,aU,bZ,hrow,hput,ah,cO,hs,gu,Le,sps sp _ _ hs];rw[aX au,aU,aX au,aU];exact leaf 3 rfl
 ·simp only[mg,M.gU,Int.reduceBEq,aU,bZ,hrow,hput,ah,cO,hs,gu,Le,sps sp _ _ hs];rw[aX au,aU,aX au,aU];exact leaf 4 rfl
 ·simp only[mg,M.gU,Int.reduceBEq,aU,bZ,hrow,hput,ah,cO,hs,gu,Le,sps sp _ _ hs];rw[aX au,aU,aX au,aU];exact leaf 5 rfl
 ·obtain⟨sp1,a1,a2,a3⟩:=ah6 ih' (w:=w) (f:=g) (p:=p) (toks:=toks++[⟨6,x,0⟩]) (sp:=sp) (x:=x) (y:=y) (op:=op) (k:=5) (open':=34) (shut:=35) (by constructor<;>decide) (by constructor<;>decide) au hp hlv hs (by rw[rX,Le];omega) au au;simp only[mg,M.gU,Int.reduceBEq,aU,bZ,hrow,hput,ah,cO,hs,a1,a2,gu,Le,sps sp1 _ _ a2];rw[aX au,aU,aX au,aU];have ha:EY 5 op ks.length x (iJ 5 op ks.length p ks 0)=⟨6,x,0⟩::tok 34::(DW true (iJ 5 op ks.length p ks 0)++[tok 35]):=rfl;rw[ha];refine done _ sp1 _ a2 a3 ?_;simp
 ·obtain⟨sp1,a1,a2,a3⟩:=ah6 ih' (w:=w) (f:=g) (p:=p) (toks:=toks++[⟨7,x,0⟩]) (sp:=sp) (x:=x) (y:=y) (op:=op) (k:=7) (open':=32) (shut:=33) (by constructor<;>decide) (by constructor<;>decide) au hp hlv hs (by rw[rX,Le];omega) au au;simp only[mg,M.gU,Int.reduceBEq,aU,bZ,hrow,hput,ah,cO,hs,a1,a2,gu,Le,sps sp1 _ _ a2];rw[aX au,aU,aX au,aU];have ha:EY 7 op ks.length x (iJ 7 op ks.length p ks 0)=⟨7,x,0⟩::tok 32::(DW true (iJ 7 op ks.length p ks 0)++[tok 33]):=rfl;rw[ha];refine done _ sp1 _ a2 a3 ?_;simp
 ·obtain⟨sp1,a1,a2,a3⟩:=ah6 ih' (w:=w) (f:=g) (p:=p) (toks:=toks++[⟨8,x,0⟩]) (sp:=sp) (x:=x) (y:=y) (op:=op) (k:=8) (open':=32) (shut:=33) (by constructor<;>decide) (by constructor<;>decide) au hp hlv hs (by rw[rX,Le];omega) au au;simp only[mg,M.gU,Int.reduceBEq,aU,bZ,hrow,hput,ah,cO,hs,a1,a2,gu,Le,sps sp1 _ _ a2];rw[aX au,aU,aX au,aU];have ha:EY 8 op ks.length x (iJ 8 op ks.length p ks 0)=⟨8,x,0⟩::tok 32::(DW true (iJ 8 op ks.length p ks 0)++[tok 33]):=rfl;rw[ha];refine done _ sp1 _ a2 a3 ?_;simp
 ·obtain⟨sp1,a1,a2,a3⟩:=aCI ih' (w:=w) (f:=g) (p:=p) (toks:=toks) (sp:=sp) (x:=x) (y:=y) (op:=op) (k:=k) hc hk au hp hs au au au;have n1:(k==1)=false:=by rw[Lu];omega
  have n2:(k==2)=false:=by rw[Lu];omega
  have n3:(k==3)=false:=by rw[Lu];omega
  have n4:(k==4)=false:=by rw[Lu];omega
  have n5:(k==5)=false:=by rw[Lu];omega
  have n7:(k==7)=false:=by rw[Lu];omega
  have n8:(k==8)=false:=by rw[Lu];omega
  simp only[mg,M.gU,n1,n2,n3,n4,n5,n7,n8,aU,bZ,ah,cO,hs,a1,a2,gu,Le,sps sp1 _ _ a2];rw[aX au,aU,aX au,aU];exact done _ sp1 _ a2 a3 rfl
mutual
def VN:Tn->Prop
 | .mk _ _ x y ks=>(x.length<=1048576∧y.length<=1048576)∧ab4 ks
def ab4:List Tn->Prop
 |[]=>True
 |t::ts=>VN t∧ab4 ts
end
mutual
def ah7:∀(t:Tn) (b:Nat),VN t↔∀n,n∈t.flat b->Small n
 | .mk k o x y ks,b=>by
  rw[VN,ak2 ks b,Tn.flat];constructor
  ·rintro⟨⟨h1,h2⟩,h3⟩ n hn;rcases List.mem_append.1 hn with hn|hn
   ·exact h3 n hn
   ·simp only[List.mem_singleton] at hn;subst hn;exact⟨h1,h2⟩
  ·intro h;have h1:=h ⟨k,o,x,y,ends ks b⟩ (by simp);exact⟨⟨h1.text,h1.other⟩,λn hn=>h n (List.mem_append_left _ hn)⟩
def ak2:∀(ks:List Tn) (b:Nat),ab4 ks↔∀n,n∈gX ks b->Small n
 |[],b=>by simp[ab4,gX]
 |t::ts,b=>by
  rw[ab4,ah7 t b,ak2 ts (b+t.size),gX];constructor
  ·rintro⟨h1,h2⟩ n hn;rcases List.mem_append.1 hn with hn|hn
   ·exact h1 n hn
   ·exact h2 n hn
  ·intro h;exact⟨λn hn=>h n (List.mem_append_left _ hn),λn hn=>h n (List.mem_append_right _ hn)⟩
end
def NU:∀{ks:List Tn} {u:Tn},ab4 ks->u∈ks->VN u
 |[],_,_,h=>by cases h
 |t::ts,u,h,hu=>by
  rw[ab4] at h;rcases List.mem_cons.1 hu with rfl|hu
  ·exact h.1
  ·exact NU h.2 hu
def Zl:∀{t:Tn},VN t->ab4 t.kids
 | .mk _ _ _ _ _,h=>by rw[VN] at h;exact h.2
def az8(l:List (aF))(h:∀g,g∈l->g.length<=9)(i:Nat):(l[i]?.getD []).length<=9:=by
 cases hx:l[i]? with
 |none=>simp
 |some g=>exact h g (Ib hx)
def aL9:∀g,g∈UR->g.length<=9:=by decide+kernel
def aMa:∀g,g∈RN->g.length<=9:=by decide+kernel
def Jy(k:Int):(spell k).length<=9:=by
 unfold spell;split
 ·simp
 ·split
  ·exact az8 _ aL9 _
  ·split
   ·exact az8 _ aMa _
   ·simp
def Sm(l:List Tk):Prop:=∀t,t∈l->t.text.length<=1048576
def VO:Sm []:=λt h=>by cases h
def uH{t:Tk}{l:List Tk}(h:t.text.length<=1048576)(hl:Sm l):Sm (t::l):=by
 intro u hu;rcases List.mem_cons.1 hu with rfl|hu
 ·exact h
 ·exact hl u hu
def L8{a b:List Tk}(ha:Sm a)(hb:Sm b):Sm (a++b):=by
 intro u hu;rcases List.mem_append.1 hu with hu|hu
 ·exact ha u hu
 ·exact hb u hu
def Jk(k:Int):(tok k).text.length<=1048576:=by have:=Jy k;show(spell k).length<=1048576;omega
def FZ{a b:List Tk}(c:Bool)(ha:Sm a)(hb:Sm b):Sm (bif c then a else b):=by cases c<;>assumption
def aud:∀{L:List (List Tk)} (b:Bool),(∀l,l∈L->Sm l)->Sm (DW b L)
 |[],b,_=>by rw[DW];exact VO
 |x::l,b,h=>by have h1:=h x zmf;rw[DW];exact L8 (FZ _ h1 (uH (Jk _) h1)) (aud false λl hl=>h l (zmm _ hl))
def aCK{L:List (List Tk)}(h:∀l,l∈L->Sm l)(j:Nat):Sm (yY L j):=by
 unfold yY;cases hx:L[j]? with
 |none=>exact VO
 |some l=>exact h l (Ib hx)
def aCL{k op:Int}{n:Nat}{x:aF}{L:List (List Tk)}(hx:x.length<=1048576)(h:∀l,l∈L->Sm l):Sm (EY k op n x L):=by
 have t1:∀z:Int,Sm [⟨z,x,0⟩]:=λz=>uH hx VO
 have t2:∀z:Int,Sm [tok z]:=λz=>uH (Jk z) VO
 have n1:=aCK h;have c1:=aud true h;unfold EY;refine FZ _ (t1 _) (FZ _ (t1 _) (FZ _ (t1 _) (FZ _ (t1 _) (FZ _ ?_ (FZ _ ?_ (FZ _ ?_ (FZ _ ?_ (FZ _ ?_ (FZ _ ?_ (FZ _ ?_ (FZ _ ?_ ?_)))))))))))
 ·exact uH hx (uH (Jk _) (L8 c1 (t2 _)))
 ·exact uH hx (uH (Jk _) (L8 c1 (t2 _)))
 ·exact uH hx (uH (Jk _) (L8 c1 (t2 _)))
 ·exact uH (Jk _) (n1 _)
 ·exact uH (Jk _) (n1 _)
 ·exact L8 (n1 _) (t2 _)
 ·exact L8 (FZ _ (uH (Jk _) (L8 c1 (t2 _))) (n1 _)) (uH (Jk _) (uH hx VO))
 ·exact L8 (n1 _) (uH (Jk _) (L8 (n1 _) (uH (Jk _) (n1 _))))
 ·exact L8 (n1 _) (L8 (FZ _ VO (t2 _)) (n1 _))
def aoa{k op:Int}{n:Nat}{p:Ps}:∀{ts:List Tn} {j:Nat},(∀u,u∈ts->∀q,Sm (uF u q))->∀l,l∈iJ k op n p ts j->Sm l
 |[],j,_,l,hl=>by rw[iJ] at hl;cases hl
 |t::ts,j,h,l,hl=>by
  rw[iJ] at hl;rcases List.mem_cons.1 hl with rfl|hl
  ·exact FZ _ (h t zmf _) (uH (Jk _) (L8 (h t zmf _) (uH (Jk _) VO)))
  ·exact aoa (λu hu=>h u (zmm _ hu)) l hl
def aob(t:Tn):VN t->∀p,Sm (uF t p):=by refine Tn.ind (P:=λt=>VN t->∀p,Sm (uF t p)) ?_ t;intro k op x y ks ih h p;rw[VN] at h;rw[uF];exact aCL h.1.1 (aoa λu hu q=>ih u hu (NU h.2 hu) q)
def aue{k op:Int}{n:Nat}{p:Ps}{j:Nat}{u:Tn}(h:VN u):Sm (sZ k op n p j u):=
 FZ _ (aob u h _) (uH (Jk _) (L8 (aob u h _) (uH (Jk _) VO)))
def auf(t:Tn):zH t->RY t->∀p,uF t p≠[]:=by
 refine Tn.ind (P:=λt=>zH t->RY t->∀p,uF t p≠[]) ?_ t;intro k op x y ks ih hok he p;have hc:=Ji hok;have he':=he;simp only[RY,Tn.kind] at he';have ih':∀i u,ks[i]? =some u->∀q,uF u q≠[]:=λi u e q=>by obtain⟨h1,h2⟩:=UL hok he' e;exact ih u (Ib e) h2 h1 q
 have kne:∀i u,ks[i]? =some u->sZ k op ks.length p i u≠[]:=by
  intro i u e;unfold sZ;cases(oH k i||fits u.kind u.op (dG k op ks.length i p)) with
  |true=>exact ih' i u e _
  |false=>simp
 rw[uF];have hk:k=1∨k=2∨k=3∨k=4∨k=5∨k=7∨k=8∨k=6∨k=9∨k=10∨k=11∨k=13∨k=14∨(k=12∨k=15):=au;rcases hk with rfl|rfl|rfl|rfl|rfl|rfl|rfl|rfl|rfl|rfl|rfl|rfl|rfl|hk
 iterate 13 simp[EY]
 obtain⟨u,v,rfl⟩:=Uz (hc.two au);have h0:sZ k op 2 p 0 u≠[]:=kne 0 u rfl;rcases hk with rfl|rfl
 ·rw[VL];simp[EY,yY,h0]
 ·rw[VL];simp[EY,yY,h0]
def aoc{k op:Int}{n:Nat}{p:Ps}{j:Nat}{u:Tn}(h1:zH u)(h2:RY u):sZ k op n p j u≠[]:=by
 unfold sZ;cases(oH k j||fits u.kind u.op (dG k op n j p)) with
 |true=>exact auf u h1 h2 _
 |false=>simp
def PK(t:Tn):Int×Int×aF×aA×Int:=(t.kind,t.op,t.text,xg false t.kids,0)
section
variable (t:Tn) (s:aF) (L:List Tn) (a b c d e f g h:Tn)
def dt1:(PK t).1=t.kind:=rfl
def dt2:(PK t).2.1=t.op:=rfl
def dt3:(PK t).2.2.1=t.text:=rfl
def dt4:(PK t).2.2.2.1=xg false t.kids:=rfl
def dt5:(PK t).2.2.2.2=0:=rfl
def fzd:aJ (xg false L)=xg false L:=Zh false L
def oZ:([D.int .i64 t.kind,D.int .i64 t.op,D.str t.text,D.sl false 5 (xg false t.kids),D.int .i64 0]:Row)=QH false t:=by cases t;rfl
def jG:(t.kind,t.op,t.text,xg false t.kids,(0:Int))=PK t:=rfl
def zF:M.eu s=some (PK (uG s)):=rfl
def aeP:M.xA=some (PK Qx):=rfl
def aMb:M.iH (xg false L)=some (PK (sW L)):=rfl
def aug:M.iH [QH false a,QH false b]=some (PK (sW [a,b])):=rfl
def ak3:M.iH [QH false a,QH false b,QH false c]=some (PK (sW [a,b,c])):=rfl
def aMc:M.iH [QH false a,QH false b,QH false c,QH false d]=some (PK (sW [a,b,c,d])):=rfl
def aWh:M.iH [QH false a,QH false b,QH false c,QH false d,QH false e]=some (PK (sW [a,b,c,d,e])):=rfl
def amN:M.xB t.kind t.op t.text (xg false t.kids) 0=some (PK (Td t)):=by cases t;rfl
def ah8:M.uM t.kind t.op t.text (xg false t.kids) 0=some (PK (afz t)):=by cases t;rfl
end
def Zm:∀a b:List Tn,xg false (a++b)=xg false a++xg false b:=λa b=>by simp[aay]
def aaB:∀(L:List Tn) (b:Bool) (x:Tn),Ll b (L++[x])=Ll b L++(bif L.isEmpty && b then[x] else[uG [44],Qx,x])
 |[],b,x=>by cases b<;>simp[Ll]
 |y::L,b,x=>by rw[Xg,Ll,Ll,aaB L false x];simp
def aeQ:∀(L:List Tn) (b:Bool),(Ll b L).length<=3 * L.length
 |[],b=>by simp[Ll]
 |y::L,b=>by have:=aeQ L false;cases b<;>simp only[Ll,aU,bZ,rX,oh,zM]<;>omega
def Yo(p:Ps)(ks:List Tn):List Tn:=ks.map λu=>EN u p
def Zn(p:Ps)(ks:List Tn):(Yo p ks).length=ks.length:=by simp[Yo]
def ak4(p:Ps)(ks:List Tn):Xd p ks=OZ (Yo p ks):=rfl
def amO{ks:List Tn}{p:Ps}{b:Int×aA->Option ((Int×aA)⊕(Int×aA))}(hu:ks.length<=1048576)
  (hb:∀(j:Nat) u (L:List Tn),ks[j]? =some u->L.length<=4000000->b ((j:Int),xg false L)=some (.inl (((j+1:Nat):Int),xg false (L++(if j=0 then[EN u p] else[uG [44],Qx,EN u p])))))
  (he:∀r,b ((ks.length:Int),r)=some (.inr ((ks.length:Int),r))):
  fM b (0,[])=some ((ks.length:Int),xg false (Ll true (Yo p ks))):=by
 have:=jl (b:=b) (t:=((ks.length:Int),xg false (Ll true (Yo p ks)))) (λj=>((j:Int),xg false (Ll true (Yo p (ks.take j))))) ks.length
  (by
   intro j hj;obtain⟨u,hu'⟩:∃u,ks[j]? =some u:=⟨ks[j],by simp[hj]⟩
   have hl:=aeQ (Yo p (ks.take j)) true;rw[Zn,RZ] at hl;rw[hb j u _ hu' au,gq hu'];have e:Yo p (ks.take j++[u])=Yo p (ks.take j)++[EN u p]:=by simp[Yo]
   rw[e,aaB]
   by_cases h0:j=0
   ·subst h0;rfl
   ·have z:(Yo p (ks.take j)).isEmpty=false:=by
     cases hq:Yo p (ks.take j) with
     |nil=>have:=Zn p (ks.take j);rw[hq,zM,RZ] at this;omega
     |cons _ _=>rfl
    rw[if_neg h0,z,Bool.false_and,bZ])
  (by rw[he,List.take_length]) 0 (Nat.zero_le _)
 exact this
def auh{k op:Int}{x y:aF}{ks:List Tn}(w:Bool)(hu:sizes ks<=1048575):M.jB k op x y (iM w ks)=some (k,op,x,y,encI (iota ks.length)):=by
 have hkl:=lV ks;have hn:=acI k op x y (iM w ks) (by rw[jC];omega)
 rwa [jC] at hn
def DT(u:Tn):Prop:=∀(w:Bool) (f:Nat) (p:Ps),5 * u.size<=f->kX p=true->
 M.Ar f u.kind u.op u.text u.other (iM w u.kids) p.level p.lJ p.qK p.qL p.kT=some (PK (l9 u p))
def amP{u:Tn}(hD:DT u){w:Bool}{f:Nat}{p:Ps}(hf:5 * u.size+1<=f)(hp:kX p=true)(hu:u.size<=1048576):
  M.wM f u.kind u.op u.text u.other (iM w u.kids) p.level p.lJ p.qK p.qL p.kT=some (PK (EN u p)):=by
 obtain⟨g,rfl⟩:∃g,f=g+1:=⟨f - 1,au⟩
 have h1:=hD w g p au hp;have h2:=hD w g .top au rfl;simp only[Ps.top] at h2;rw[M.aec];simp only[mg,M.Aq,acI u.kind u.op u.text u.other _ (an8 hu w),ah,(acF u.kind u.op u.text u.other _ p).1,EN];cases fits u.kind u.op p with
 |true=>simp only[aU,h1,ah,dt1,dt2,dt3,dt4,dt5,fzd,jG]
 |false=>simp only[bZ,zF,L6.1,h2,ah,dt1,dt2,dt3,dt4,dt5,fzd,oZ,ak3,jG,Ps.top]
section
variable {k op:Int} {x y:aF} {ks:List Tn} (ih:∀u,u∈ks->DT u)
include ih
theorem az9{w:Bool}{f:Nat}{p:Ps}{j:Nat}{u:Tn}(hj:ks[j]? =some u)(hf:5 * u.size+2<=f)(hp:kX p=true)(hlv:lvl k op≠0)(hu:sizes ks<=1048575):
  M.zB f k op x y (iM w ks) (j:Int) p.level p.lJ p.qK p.qL p.kT=some (PK (FW k op ks.length p j u)):=by
 obtain⟨g,rfl⟩:∃g,f=g+1:=⟨f - 1,au⟩
 have hkl:=lV ks;have hju:=(Jm.1 hj).1;have hus:=lu (Ib hj);have hg:=Tv w hj;obtain⟨c0,c1,c2,c3,c4⟩:=Tt w u;have hkp:=VJ k op x y (encI (iota ks.length)) j p (by rw[aZ,Oo];omega);rw[aZ,Oo] at hkp;have hq:=rW (n:=ks.length) (j:=j) hp hju hlv;have e1:=ih u (Ib hj);have h1:=e1 w g (dG k op ks.length j p) au hq;have h2:=amP e1 (w:=w) (f:=g) (p:=dG k op ks.length j p) au hq au;rw[M.afs];simp only[mg,M.DI,auh w hu,ah,hg,c0,c1,c2,c3,c4,hkp,Ps.zL,abt,FW];unfold EN at h2;cases htg:oH k j with
 |true=>simp only[aU,Bool.true_or,h1,ah,dt1,dt2,dt3,dt4,dt5,fzd,jG]
 |false=>simp only[bZ,Bool.false_or,h2,ah,dt1,dt2,dt3,dt4,dt5,fzd,jG]
theorem aCM{w:Bool}{f:Nat}(hf:5 * sizes ks+2<=f)(hu:sizes ks<=1048575):
  M.FM f (iM w ks)=some (PK (Xd .top ks)):=by
 obtain⟨g,rfl⟩:∃g,f=g+1:=⟨f - 1,au⟩
 have hkl:=lV ks;rw[M.aed];simp only[mg,M.Ap,M.Iw,jC];rw[amO (ks:=ks) (p:=.top) au (λj u L hj hL=> ?_) (λr=> ?_)]
 ·simp only[ah,aMb,dt1,dt2,dt3,dt4,dt5,fzd,amN,ah8,jG];rfl
 ·have hjl:=(Jm.1 hj).1;have hus:=lu (Ib hj);obtain⟨c0,c1,c2,c3,c4⟩:=Tt w u;have h1:=amP (ih u (Ib hj)) (w:=w) (f:=g) (p:=.top) au rfl au;simp only[Ps.top] at h1;have hw:i64.wrap ((j:Int)+1)=((j+1:Nat):Int):=by rw[aC au au];omega
  simp only[mg,M.Kv,M.yH,Tv w hj,c0,c1,c2,c3,c4,ah,zF,aeP,M.Fv,M.Pv,L6.1,h1,dt1,dt2,dt3,dt4,dt5,fzd,oZ,ah2,rX,oh,zM,hw];rw[zdt au,aU]
  by_cases h0:j=0
  ·subst h0;rw[uq au,bZ,aX au,aU,aX au,aU,if_pos rfl,Zm];rfl
  ·rw[zdt au,aU,aX au,aU,aX au,aU,aX au,aU,aX au,aU,if_neg h0,Zm,BO];rfl
 ·simp only[mg,M.Kv,M.yH];rw[uq au,bZ]
end
def Ls{n:Nat}(h:n<=8000000):n.ble 9223372036854775807=true:=aX au
def RS(k op:Int)(n:Nat)(p:Ps)(u:Tn):lS k op n p [u] 0=[FW k op n p 0 u]:=by rw[lS,lS];rfl
def ah9(k op:Int)(n:Nat)(p:Ps)(u v:Tn):lS k op n p [u,v] 0=[FW k op n p 0 u,FW k op n p 1 v]:=by rw[lS,lS,lS];rfl
def aui(k op:Int)(n:Nat)(p:Ps)(u v z:Tn):lS k op n p [u,v,z] 0=[FW k op n p 0 u,FW k op n p 1 v,FW k op n p 2 z]:=by rw[lS,lS,lS,lS];rfl
def aeR{k op:Int}{n:Nat}{p:Ps}(ht:∀j,oH k j=false)(hq:∀j,j<n->dG k op n j p=.top):∀(ts:List Tn) (j:Nat),j+ts.length=n->lS k op n p ts j=Yo .top ts
 |[],j,_=>by rw[lS];rfl
 |t::ts,j,hj=>by rw[oh] at hj;rw[lS,hq j au,ht j,aeR ht hq ts (j+1) au,Bool.false_or];rfl
def Ot{k op:Int}{ks:List Tn}{p:Ps}(hp:kX p=true)(h:(lvl k op=15)∨(k=13∧Nat.blt 1 ks.length=true∧lvl k op≠0))(ht:∀j,oH k j=false):lS k op ks.length p ks 0=Yo .top ks:=by
 refine aeR ht (λj hj=> ?_) ks 0 au;rcases h with h|⟨h1,h2,h3⟩
 ·exact FY hp hj h
 ·have hb:Nat.blt j ks.length=true:=by rw[Nat.blt_eq];exact hj
  have h4:(lvl k op==0)=false:=by simpa using h3
  subst h1;unfold dG;rw[hp,hb,h4,h2];simp
def ayF{op:Int}{x y:aF}{u:Tn}(hD:DT u)(hT:PT u)(hok:zH u)(he:RY u)(hs:VN u){w:Bool}{f:Nat}{p:Ps}(hc:Cnt 11 op y 1)(hf:5 * u.size+3<=f)(hp:kX p=true)(hu:u.size<=1048575):
  M.Df f 11 op x y (iM w [u]) p.level p.lJ p.qK p.qL p.kT=some (PK (l9 (.mk 11 op x y [u]) p)):=by
 obtain⟨g,rfl⟩:∃g,f=g+1:=⟨f - 1,au⟩
 have ihD:∀v,v∈[u]->DT v:=by intro v hv;rw[List.mem_singleton.1 hv];exact hD
 have ihT:∀v,v∈[u]->PT v:=by intro v hv;rw[List.mem_singleton.1 hv];exact hT
 have hs1:=sz1 u;have hlv:lvl 11 op≠0:=by simp[lvl]
 have hI:I64 op:=by rcases hc.una rfl with rfl|rfl|rfl<;>constructor<;>decide
 have h1:=az9 ihD (w:=w) (f:=g) (p:=p) (x:=x) (y:=y) (k:=11) (op:=op) (j:=0) (u:=u) rfl au hp hlv au;obtain⟨sp,h2,h3,h4⟩:=Oq ihT (w:=w) (f:=5 * u.size+2) (p:=p) (toks:=[]) (sp:=[]) (x:=x) (y:=y) (op:=op) (k:=11) (j:=0) (u:=u) rfl au hp hlv rfl (by simp only[zM];omega) (by simp only[zM];omega) au;have h2':=M.WB h2;rw[vM] at h1 h2';have e0:kJ []=[]:=rfl;rw[e0,List.nil_append] at h2';rw[l9,RS,OW,M.abK];have hne:=aoc (k:=11) (op:=op) (n:=[u].length) (p:=p) (j:=0) hok he;have hsm:=aue (k:=11) (op:=op) (n:=[u].length) (p:=p) (j:=0) hs;generalize sZ 11 op [u].length p 0 u=K at *;cases K with
 |nil=>exact absurd rfl hne
 |cons b K=>have hsl:=Jy op;have hg:M.sJ op (spell op) 0 b.kind b.text b.at_=some (FV (tok op) b):=aaz (tok op) b (by show(spell op).length<=_;omega) (by have:=hsm b zmf;omega);have i0:idx (kJ (b::K)) 0=some (adH b):=rfl;have i1:(kJ (b::K))[0]? =some (adH b):=rfl;simp(disch:=omega) only[mg,M.xG,h2',ah,(mO op hI).2,(kY op hI).1,i0,i1,cT0,cT1,cT2,hg,h1,zF,dt1,dt2,dt3,dt4,dt5,fzd,oZ,aug,jG,Ls];have ha:QG 11 op [u].length x (aeC op [b::K]) [FW 11 op [u].length p 0 u]=sW [uG (bif FV (tok op) b then spell op++[32] else spell op),FW 11 op [u].length p 0 u]:=rfl;rw[ha];cases FV (tok op) b<;>rfl
set_option maxHeartbeats 2000000 in
def aCN(t:Tn):zH t->RY t->VN t->t.size<=1048576->DT t:=by
 refine Tn.ind (P:=λt=>zH t->RY t->VN t->t.size<=1048576->DT t) ?_ t;intro k op x y ks ih hok he hsm hsz;intro w f p hf hp;have hc:=Ji hok;have he':=he;simp only[RY,Tn.kind] at he';rw[VN] at hsm;obtain⟨⟨hx,hy⟩,hss⟩:=hsm;rw[Tn.size] at hsz hf;have hkE:∀u,u∈ks->zH u∧RY u∧VN u:=by intro u hu;obtain⟨i,hi⟩:=List.mem_iff_getElem?.1 hu;obtain⟨h1,h2⟩:=UL hok he' hi;exact⟨h2,h1,NU hss hu⟩
 have ih':∀u,u∈ks->DT u:=by intro u hu;obtain⟨h1,h2,h3⟩:=hkE u hu;have:=lu hu;exact ih u hu h1 h2 h3 au
 obtain⟨g,rfl⟩:∃g,f=g+1:=⟨f - 1,au⟩
 have hlv:lvl k op≠0:=by have:=NT he' hc;omega
 have hL:=aCM ih' (w:=w) (f:=g) au au;have hK:∀(j:Nat) u,ks[j]? =some u->M.zB g k op x y (iM w ks) (j:Int) p.level p.lJ p.qK p.qL p.kT=some (PK (FW k op ks.length p j u)):=by intro j u hj;have:=lu (Ib hj);exact az9 ih' (w:=w) (f:=g) (p:=p) (x:=x) (y:=y) (k:=k) (op:=op) hj au hp hlv au
 simp only[Tn.kind,Tn.op,Tn.text,Tn.other,Tn.kids];rw[M.aee];have hk:k=1∨k=2∨k=3∨k=4∨k=5∨k=7∨k=8∨k=9∨k=10∨k=6∨k=11∨k=14∨k=13∨k=12∨k=15:=au;rcases hk with rfl|rfl|rfl|rfl|rfl|rfl|rfl|rfl|rfl|rfl|rfl|rfl|rfl|rfl|rfl
 ·simp only[mg,M.dW,Int.reduceBEq,aU,bZ,zF,ah,dt1,dt2,dt3,dt4,dt5,fzd,jG];rfl
 ·simp only[mg,M.dW,Int.reduceBEq,aU,bZ,zF,ah,dt1,dt2,dt3,dt4,dt5,fzd,jG];rfl
 ·simp only[mg,M.dW,Int.reduceBEq,aU,bZ,zF,ah,dt1,dt2,dt3,dt4,dt5,fzd,jG];rfl
 ·simp only[mg,M.dW,Int.reduceBEq,aU,bZ,zF,ah,dt1,dt2,dt3,dt4,dt5,fzd,jG];rfl
 ·simp(disch:=omega) only[mg,M.dW,Int.reduceBEq,aU,bZ,zF,ah,hL,dt1,dt2,dt3,dt4,dt5,fzd,oZ,ak3,jG,Ls];rw[l9,Ot hp (.inl rfl) (λj=>by simp[oH])];rfl
 ·simp(disch:=omega) only[mg,M.dW,Int.reduceBEq,aU,bZ,zF,ah,hL,dt1,dt2,dt3,dt4,dt5,fzd,oZ,ak3,jG,Ls];rw[l9,Ot hp (.inl rfl) (λj=>by simp[oH])];rfl
 ·simp(disch:=omega) only[mg,M.dW,Int.reduceBEq,aU,bZ,zF,ah,hL,dt1,dt2,dt3,dt4,dt5,fzd,oZ,ak3,jG,Ls];rw[l9,Ot hp (.inl rfl) (λj=>by simp[oH])];rfl
 ·obtain⟨u,rfl⟩:=zlo.1 (hc.one au);have hI:I64 op:=by rcases hc.stp au with rfl|rfl<;>constructor<;>decide
  have k0:=hK 0 u rfl;rw[vM] at k0;simp only[mg,M.dW,Int.reduceBEq,aU,bZ,zF,ah,(mO op hI).2,k0,dt1,dt2,dt3,dt4,dt5,fzd,oZ,aug,jG];rw[l9,RS];rfl
 ·obtain⟨u,rfl⟩:=zlo.1 (hc.one au);have hI:I64 op:=by rcases hc.stp au with rfl|rfl<;>constructor<;>decide
  have k0:=hK 0 u rfl;rw[vM] at k0;simp only[mg,M.dW,Int.reduceBEq,aU,bZ,zF,ah,(mO op hI).2,k0,dt1,dt2,dt3,dt4,dt5,fzd,oZ,aug,jG];rw[l9,RS];rfl
 ·obtain⟨u,rfl⟩:=zlo.1 (hc.one au);have k0:=hK 0 u rfl;rw[vM] at k0;simp only[mg,M.dW,Int.reduceBEq,aU,bZ,zF,ah,k0,dt1,dt2,dt3,dt4,dt5,fzd,oZ,aug,jG];rw[l9,RS];rfl
 ·obtain⟨u,rfl⟩:=zlo.1 (hc.one au);obtain⟨h1,h2,h3⟩:=hkE u (by simp);rw[sz1] at hf hsz;have a1:=ayF (x:=x) (ih' u (by simp)) (aCJ u h1 h2) h1 h2 h3 (w:=w) (f:=g) (p:=p) hc au hp au;simp only[mg,M.dW,Int.reduceBEq,aU,bZ,a1,ah,dt1,dt2,dt3,dt4,dt5,fzd,jG]
 ·obtain⟨u,v,z,rfl⟩:=Zj (hc.three rfl);have k0:=hK 0 u rfl;have k1:=hK 1 v rfl;have k2:=hK 2 z rfl;rw[vM] at k0;rw[Zk] at k1;rw[ayE] at k2;simp only[mg,M.dW,Int.reduceBEq,aU,bZ,zF,ah,k0,k1,k2,dt1,dt2,dt3,dt4,dt5,fzd,oZ,aWh,jG];rw[l9,aui];rfl
 ·cases hm:Nat.blt 1 ks.length with
  |true=>simp(disch:=omega) only[mg,M.dW,Int.reduceBEq,aU,bZ,jC,many,hm,zF,ah,hL,dt1,dt2,dt3,dt4,dt5,fzd,oZ,ak3,jG,Ls];rw[l9,Ot hp (.inr ⟨rfl,hm,by simp[lvl]⟩) (λj=>by simp[oH])];simp[QG,hm,ak4]
  |false=>
   have h1:ks.length=1:=by
    have h2:=hc.some_ au;have h3:¬1<ks.length:=by rw[<-Nat.blt_eq,hm];simp
    omega
   obtain⟨u,rfl⟩:=zlo.1 h1;have k0:=hK 0 u rfl;rw[vM] at k0;simp(disch:=omega) only[mg,M.dW,Int.reduceBEq,aU,bZ,jC,many,hm,zF,ah,k0,dt1,dt2,dt3,dt4,dt5,fzd,oZ,aug,jG,Ls];rw[l9,RS];rfl
 ·obtain⟨u,v,rfl⟩:=Uz (hc.two au);have hI:=acJ (hc.bin rfl).1;have hsl:=Jy op;have k0:=hK 0 u rfl;have k1:=hK 1 v rfl;rw[vM] at k0;rw[Zk] at k1;rw[l9,ah9]
  by_cases h99:op=99
  ·subst h99;simp only[mg,M.dW,Int.reduceBEq,aU,bZ,zF,ah,k0,k1,dt1,dt2,dt3,dt4,dt5,fzd,oZ,ak3,jG];rfl
  ·by_cases h45:op=45
   ·subst h45;simp(disch:=omega) only[mg,M.dW,Int.reduceBEq,aU,bZ,zF,aeP,ah,k0,k1,(mO 45 hI).2,dt1,dt2,dt3,dt4,dt5,fzd,oZ,aMc,amN,ah8,jG,Ls];rfl
   ·by_cases h44:op=44
    ·subst h44;simp(disch:=omega) only[mg,M.dW,Int.reduceBEq,aU,bZ,zF,aeP,ah,k0,k1,(mO 44 hI).2,dt1,dt2,dt3,dt4,dt5,fzd,oZ,aMc,amN,ah8,jG,Ls];rfl
    ·have e1:(op==99)=false:=by simpa using h99
     have e2:(op==45)=false:=by simpa using h45
     have e3:(op==44)=false:=by simpa using h44
     simp(disch:=omega) only[mg,M.dW,Int.reduceBEq,e1,e2,e3,aU,bZ,zF,aeP,ah,k0,k1,(mO op hI).2,rX,oh,zM,dt1,dt2,dt3,dt4,dt5,fzd,oZ,ak3,jG,Ls];simp[QG,e1,e2,e3,wC]
 ·obtain⟨u,v,rfl⟩:=Uz (hc.two au);have hI:I64 op:=by rcases hc.asg rfl with rfl|h<;>constructor<;>omega
  have hsl:=Jy op;have k0:=hK 0 u rfl;have k1:=hK 1 v rfl;rw[vM] at k0;rw[Zk] at k1;rw[l9,ah9];simp(disch:=omega) only[mg,M.dW,Int.reduceBEq,aU,bZ,zF,aeP,ah,k0,k1,(mO op hI).2,rX,oh,zM,dt1,dt2,dt3,dt4,dt5,fzd,oZ,ak3,jG,Ls];simp[QG,wC]
structure Ex'(u:Tn):Prop where
 ok:zH u
 e:RY u
 sm:VN u
 sz:u.size<=1048576
def aCO{u:Tn}(h:Ex' u)(w:Bool){p:Ps}(hp:kX p=true):M.lY u.kind u.op u.text u.other (iM w u.kids) p.level p.lJ p.qK p.qL p.kT=some (PK (EN u p)):=
 M.abL (amP (aCN u h.ok h.e h.sm h.sz) (f:=5 * u.size+1) (Nat.le_refl _) hp h.sz)
def aMd{u:Tn}(h:Ex' u)(w:Bool):M.BH u.kind u.op u.text u.other (iM w u.kids)=some (PK (Jh u)):=by have h1:=aCO h w (p:=.top) rfl;simp only[Ps.top] at h1;simp only[mg,M.BH,M.Np,L6.1,ah,h1,dt1,dt2,dt3,dt4,dt5,fzd,jG];rfl
def amQ(w:Bool)(ks:List Tn)(n:Nat):(iM w ks).take n=iM w (ks.take n):=by simp[PO,List.map_take]
def aia(s:aF)(h0:s≠[])(hs:s.length<=4000000):M.rJ s 0=some ((opF s RN 0 0 0).1,((aeB s RN 0:Nat):Int)):=by
 have hl:RN.length=39:=rfl;have hn:1<=s.length:=by cases s with|nil=>exact absurd rfl h0|cons=>simp
 simp only[M.rJ,M.Q9,M.PD,akx,ah];rw[an4 s RN (λi g k m hg hm=> ?_) (λk m=> ?_) aua,ah,acG]
 ·have hi:=(Jm.1 hg).1;rw[hl] at hi;have hg2:=aua g (Ib hg);have hw1:i64.wrap (30+(i:Int))=30+(i:Int):=aC au au;have hw2:i64.wrap ((i:Int)+1)=(i:Int)+1:=aC au au;have hw3:i64.wrap ((s.length:Int) - 0)=(s.length:Int):=by rw[aC au au];omega
  have hw4:i64.wrap (0+(g.length:Int))=(g.length:Int):=by rw[aC au au];omega
  simp only[M.Qu,M.FT,oV,bW,Ol,RX,hg,Ic,ah,cS0,hw1,hw2,hw3,hw4,hl];rw[zdt (show((i:Int))<((39:Nat):Int) by omega),aU,zdt (show(0:Int)>=0 by omega),aU,zdt (show(0:Int)<=(s.length:Int) by omega),aU]
  by_cases hq:g.length<=s.length
  ·rw[zdt au,aU,ayC s g.length hq,ah,pre_eq g s hq,acH];cases Nat.blt m g.length<;>cases g.isPrefixOf s<;>rfl
  ·rw[uq au,bZ,agI g s au,Bool.and_false];rfl
 ·simp only[M.Qu,M.FT,oV];rw[uq au,bZ]
def aaC(a b:Tk)(ha:a.text.length<=2000000)(hb:b.text.length<=2000000):M.sO a.kind a.text a.at_ b.kind b.text b.at_=some (FV a b):=by
 rw[abu];simp only[M.sO,M.IZ]
 by_cases h1:a.text=[]
 ·rw[show(a.text==[])=true by simpa using h1,aU,aU]
 ·rw[show(a.text==[])=false by simpa using h1,bZ,bZ]
  by_cases h2:b.text=[]
  ·rw[show(b.text==[])=true by simpa using h2,aU,aU]
  ·obtain⟨c,hc,hc'⟩:=ak1 h1 ha;obtain⟨d,hd,hd'⟩:=an5 h2;have hop:=aia (a.text++b.text) (by simp[h1]) (by simp only[rX];omega);rw[show(b.text==[])=false by simpa using h2,bZ,bZ,hc',hd'];have hnn:∀(c:Bool) (r:Bool),some (bif !c then false else r)=bif c then some r else some false:=by intro c r;cases c<;>rfl
   simp only[hc,hd,ah,an6,NR,fB,hop,acH,ge_iff_le,Ye,ah3,Tq,hnn,aX (show a.text.length+b.text.length<=9223372036854775807 by omega),aU]
def room{n:Nat}(h:n<=1000000000):n.ble 140737488355328=true:=aX au
def KZ{n:Nat}(h:n<=1000000000):(n * 32).ble 140737488355328=true:=aX au
def VP{k op:Int}{x y:aF}{r:aA}{j:Nat}{p:Ps}(he:1<=k∧k<=15)(hc:Cnt k op y r.length)(hj:j<r.length)(hr:r.length<=1048576):
  M.dY k op x y r (j:Int) p.level p.lJ p.qK p.qL p.kT=some (dG k op r.length j p).zL:=by
 have hb:Nat.blt j r.length=true:=by rw[Nat.blt_eq];exact hj
 have hl:=NT he hc;have hz:(lvl k op==0)=false:=by rw[Lu];omega
 have ho:=aeE op;have h15:(wZ op==15)=false:=by rw[Lu];omega
 have h2:k=12->j=0∨j=1:=λe=>by have:=hc.two au;omega
 have hk:k=1∨k=2∨k=3∨k=4∨k=5∨k=6∨k=7∨k=8∨k=9∨k=10∨k=11∨k=13∨k=14∨k=15∨k=12:=au;simp only[M.dY,M.NH,(Zi p).2,fB,an3 j r.length hr,hb,(Uy k op x y r).2,hz,amM,L6.2,ah,many,nb0,gt0,dG,Bool.not_true,Bool.false_or,bZ];cases kX p with
 |false=>rfl
 |true=>
  rcases hk with rfl|rfl|rfl|rfl|rfl|rfl|rfl|rfl|rfl|rfl|rfl|rfl|rfl|rfl|rfl
  case inr.inr.inr.inr.inr.inr.inr.inr.inr.inr.inr.inr.inr.inr=>have hl12:lvl 12 op=wZ op:=rfl;rw[hl12,h15];rcases h2 rfl with rfl|rfl<;>cases p.kT<;>simp[Ps.zL,Uk,show Nat.beq 1 0=false from rfl]
  all_goals(cases p.kT<;>cases hq:Nat.beq j 0<;>cases hm:Nat.blt 1 r.length<;>simp[lvl,Ps.zL,Ps.top,Uk,hq,hm])
def PS(t:Tn):Prop:=∀(o:Bool) (f:Nat) (p:Ps) (l:List Nd) (b:Nat),l.length<=1048576->Lies l b t->5 * t.size<=f->kX p=true->
 M.AQ f (aN o l) false ((b+sizes t.kids:Nat):Int) p.level p.lJ p.qK p.qL p.kT=some (kJ (uF t p))
def aMe{u:Tn}(hS:PS u){o:Bool}{f:Nat}{p:Ps}{l:List Nd}{b:Nat}(hl:l.length<=1048576)(h:Lies l b u)(hf:5 * u.size+1<=f)(hp:kX p=true):
  M.sU f (aN o l) false ((b+sizes u.kids:Nat):Int) p.level p.lJ p.qK p.qL p.kT=some (kJ (Xc u p)):=by
 obtain⟨g,rfl⟩:∃g,f=g+1:=⟨f - 1,au⟩
 have hlt:=h.lt;have h1:=hS o g p l b hl h au hp;have h2:=hS o g .top l b hl h au rfl;have hb:=oW u .top;have hr:idx (aN o l) ((b+sizes u.kids:Nat):Int)=some (JC o ⟨u.kind,u.op,u.text,u.other,ends u.kids b⟩):=by rw[bW,iF,Lies.root' h];rfl
 have e1:=(kY 32 (by constructor<;>decide)).2;have e2:=(kY 33 (by constructor<;>decide)).2;simp only[Ps.top] at h2 hb;rw[M.ahK];simp only[mg,M.GY,hr,ah,Oz,Ru,QU,Rw,Lj,(acF u.kind u.op u.text u.other _ p).2,Bool.not_false,aU,bZ,Xc];cases fits u.kind u.op p with
 |true=>simp only[aU,h1,ah,cO]
 |false=>simp(disch:=omega) only[bZ,e1,e2,L6.2,ah,h2,vO,<-lH,gu,rX,Le,oh,zM,room,KZ,cO,aU,Ps.top];rfl
def agL:∀(L:List (List Tk)) (b:Bool) (x:List Tk),DW b (L++[x])=DW b L++(bif L.isEmpty && b then x else tok 36::x)
 |[],b,x=>by cases b<;>simp[DW]
 |y::L,b,x=>by rw[Xg,DW,DW,agL L false x];simp
def F5(ks:List Tn):List (List Tk):=ks.map λu=>Xc u .top
def agM:∀ks:List Tn,RQ (F5 ks)+2 * ks.length<=8 * sizes ks
 |[]=>by simp[F5,RQ,sizes]
 |t::ts=>by have h1:=agK t .top;have h2:=agM ts;simp only[F5,WH,RQ,sizes,oh] at h2⊢;omega
def Yf(ks:List Tn)(b:Bool):(DW b (F5 ks)).length<=9 * sizes ks:=by
 have h1:=VK (F5 ks) b;have h2:=agM ks;have h3:(F5 ks).length=ks.length:=by simp[F5]
 omega
def aeS{k op:Int}{n:Nat}{p:Ps}(ht:∀j,oH k j=false)(hq:∀j,j<n->dG k op n j p=.top):∀(ts:List Tn) (j:Nat),j+ts.length=n->iJ k op n p ts j=F5 ts
 |[],j,_=>by rw[iJ];rfl
 |t::ts,j,hj=>by rw[oh] at hj;rw[iJ,hq j au,ht j,aeS ht hq ts (j+1) au,Bool.false_or];rfl
def At(l:List Nd)(b:Nat)(ks:List Tn):Prop:=∀j u,ks[j]? =some u->Lies l (b+sizes (ks.take j)) u
def ER{ks:List Tn}{b j:Nat}{u:Tn}(hj:ks[j]? =some u):idx (encI (ends ks b)) (j:Int)=some [D.int .i64 ((b+sizes (ks.take j)+sizes u.kids:Nat):Int)]:=by rw[bW,nD,Uj hj];rfl
def auj{ks:List Tn}(ih:∀u,u∈ks->PS u){o:Bool}{f:Nat}{l:List Nd}{b:Nat}(hl:l.length<=1048576)(hat:At l b ks)(hf:5 * sizes ks+2<=f)(hu:sizes ks<=1048575):
  M.AO f (aN o l) false (encI (ends ks b))=some (kJ (DW true (F5 ks))):=by
 obtain⟨g,rfl⟩:∃g,f=g+1:=⟨f - 1,au⟩
 have hkl:=lV ks;have e1:=(kY 36 (by constructor<;>decide)).2;have hloop:=jl (b:=M.ED (M.sU g) (encI (ends ks b)) (aN o l) false) (t:=((ks.length:Int),kJ (DW true (F5 ks)))) (λj=>((j:Int),kJ (DW true (F5 (ks.take j))))) ks.length
  (by
   intro j hj;obtain⟨u,hu'⟩:∃u,ks[j]? =some u:=⟨ks[j],by simp[hj]⟩
   have hus:=lu (Ib hu');have hst:=Jf hu';have ha:=aMe (ih u (Ib hu')) (o:=o) (f:=g) (p:=.top) hl (hat j u hu') au rfl;have hi:=ER (b:=b) hu';have hel:=agK u .top;have hcl:=Yf (ks.take j) true;have hsn:DW true (F5 (ks.take (j+1)))=DW true (F5 (ks.take j))++(bif(F5 (ks.take j)).isEmpty && true then Xc u .top else tok 36::Xc u .top):=by rw[gq hu',F5,List.map_append];exact agL _ _ _
   have hw:i64.wrap ((j:Int)+1)=((j+1:Nat):Int):=by rw[aC au au];omega
   simp only[Ps.top] at ha hel;rw[hsn];simp only[mg,M.ED,M.yS,aZ,dP];rw[zdt au,aU]
   by_cases h0:j=0
   ·subst h0;rw[uq au,bZ];have z:(F5 (ks.take 0)).isEmpty=true:=rfl;simp(disch:=omega) only[hi,ah,Qa,L6.2,ha,<-lH,gu,rX,room,KZ,aU,hw,z,Bool.and_true,Ps.top]
   ·rw[zdt au,aU];have z:(F5 (ks.take j)).isEmpty=false:=by
     have hl2:(F5 (ks.take j)).length=j:=by rw[F5,List.length_map,RZ];omega
     cases hq:F5 (ks.take j) with
     |nil=>rw[hq,zM] at hl2;omega
     |cons _ _=>rfl
    simp(disch:=omega) only[hi,ah,Qa,L6.2,ha,e1,vO,<-lH,gu,rX,Le,oh,zM,room,KZ,aU,bZ,hw,z,Bool.false_and,Ps.top];simp)
  (by simp only[mg,M.ED,M.yS,aZ,dP];rw[uq au,bZ,List.take_length]) 0 (Nat.zero_le _)
 have e0:kJ (DW true (F5 (ks.take 0)))=[]:=rfl;rw[vM,e0] at hloop;rw[M.aeh];simp only[M.AL,M.IY,hloop,ah,cO,aU]
end Go.Proofs.YtbkndkcpmnjaeaaGreatDoor
