import Derived.Test.YtajjpadmdmehmaaGreatDoorXRend2
import Derived.Test.YtajjpadmdmehmaaGreatDoorXSpec3
import Derived.Lib.SplitLaws
import Derived.Test.YtajjpadmdmehmaaGreatDoorZVal
import Derived.Test.YtajjpadmdmehmaaGreatDoorP46Tok
set_option linter.defProp false
namespace Go.Proofs.YtajjpadmdmehmaaGreatDoor
set_option linter.unusedVariables false
set_option linter.unusedSimpArgs false
open Go Go.Vm
open Go.IntKind (i64)
mutual
def dcR:Tn->Row->Prop
 | .mk k n x _ ks,r=>∃rows g,r=[.int .i64 k,.int .i64 n,.str x,.sl false 5 rows,.int .i64 g]/\U1 ks rows
def U1:List Tn->au->Prop
 |[],rows=>rows=[]
 |t::ts,rows=>∃r rs,rows=r::rs/\dcR t r/\U1 ts rs
end
def ad2(t:Tn)(r:Row):dcR t r↔∃rows g,r=[.int .i64 t.kind,.int .i64 t.op,.str t.text,.sl false 5 rows,.int .i64 g]/\U1 t.kids rows:=by cases t;rfl
def KI:∀{ts:List Tn} {rows:au},U1 ts rows->rows.length=ts.length
 |[],_,h=>by rw[U1] at h;rw[h];rfl
 |t::ts,_,h=>by obtain⟨r,rs,rfl,_,h2⟩:=h;rw[nS,KI h2,nS]
def af0:∀{a b:List Tn} {ra rb:au},U1 a ra->U1 b rb->U1 (a++b) (ra++rb)
 |[],_,_,_,h,h2=>by rw[U1] at h;subst h;exact h2
 |t::ts,_,_,_,⟨r,rs,e,h1,h2⟩,h3=>by subst e;exact⟨r,_,rfl,h1,af0 h2 h3⟩
def ad3:∀{ts:List Tn} {rows:au} {j:Nat} {t:Tn},U1 ts rows->ts[j]? =some t->∃r,rows[j]? =some r/\dcR t r
 |[],_,_,_,_,h=>by simp at h
 |u::ts,_,0,t,⟨r,rs,rfl,h1,_⟩,h=>by cases h;exact⟨r,rfl,h1⟩
 |u::ts,_,j+1,t,⟨r,rs,rfl,_,h2⟩,h=>by rw[List.getElem?_cons_succ] at h|-;exact ad3 h2 h
mutual
def aI4:∀(t:Tn) (r:Row),dcR t r->qm r=r
 | .mk k n x y ks,r,⟨rows,g,e,h⟩=>by subst e;simp only[qm,D.fz,an8 ks rows h]
def an8:∀(ts:List Tn) (rows:au),U1 ts rows->aG rows=rows
 |[],_,h=>by rw[U1] at h;subst h;rfl
 |t::ts,_,⟨r,rs,e,h1,h2⟩=>by subst e;rw[aG,aI4 t r h1,an8 ts rs h2]
end
mutual
def awC(l:List Nd):∀(t:Tn) (b:Nat),dcR t (qm (arW l t b))
 | .mk k n x y ks,b=>⟨aG (Ar l ks b),_,rfl,aaG l ks b⟩
def aaG(l:List Nd):∀(ts:List Tn) (b:Nat),U1 ts (aG (Ar l ts b))
 |[],_=>rfl
 |t::ts,b=>⟨qm (arW l t b),aG (Ar l ts (b+t.size)),rfl,awC l t b,aaG l ts _⟩
end
def bytesOf_map:∀s:aC,bytesOf (s.map byteRow)=some s
 |[]=>rfl
 |c::s=>by
  have h:asByte (byteRow c)=some c:=by simp only[byteRow,asByte];simp
  rw[RQ,bytesOf,h,bytesOf_map s]
def KJ(s:aC):aA (s.map byteRow)=true:=by simp only[aA,List.all_map,List.all_eq_true];intro x _;rfl
mutual
def ad4:∀(t:Tn) (s:aC),Ei t=some s->s.length<=txs t+t.size
 | .mk k n x y ks,s,h=>by
  rw[Ei] at h;rw[txs,Tn.size];cases h1:k==1 with
  |true=>rw[h1,aK] at h;cases h;omega
  |false=>
   rw[h1,bn] at h;cases h2:k==2 with
   |true=>rw[h2,aK] at h;cases h;simp only[IU];omega
   |false=>
    rw[h2,bn] at h;cases h3:k==3 with
    |true=>rw[h3,aK] at h;cases h
    |false=>rw[h3,bn] at h;have:=amG ks s h;omega
def amG:∀(ts:List Tn) (s:aC),AP ts=some s->s.length<=vg ts+sizes ts
 |[],s,h=>by cases h;simp
 |t::ts,s,h=>by
  rw[AP] at h;rw[vg,sizes];cases ha:Ei t with
  |none=>rw[ha] at h;cases h
  |some a=>
   rw[ha] at h;cases hb:AP ts with
   |none=>rw[hb] at h;cases h
   |some b=>rw[hb] at h;cases h;have h1:=ad4 t a ha;have h2:=amG ts b hb;rw[qK];omega
end
def flR(o:Option (aC)):aC×Bool:=match o with
 |some s=>(s,true)
 |none=>([],false)
def aEj(t:Tn):∀(f:Nat) (rows:au) (g:Int),t.size<=f->U1 t.kids rows->txs t+t.size<=20000000000000->
  M.lM f t.kind t.op t.text rows g=some (flR (Ei t)):=by
 refine Tn.ind (P:=λt=>∀(f:Nat) (rows:au) (g:Int),t.size<=f->U1 t.kids rows->txs t+t.size<=20000000000000->M.lM f t.kind t.op t.text rows g=some (flR (Ei t))) ?_ t;intro k n x y ks ih f rows g hf hr hx;cases f with
 |zero=>rw[Tn.size] at hf;omega
 |succ f=>
  rw[Tn.size] at hf;rw[txs,Tn.size] at hx;simp only[M.lM,M.Ip,Tn.kids,Tn.kind,Tn.op,Tn.text,Ei] at hr|-;cases h1:k==1 with
  |true=>rfl
  |false=>
  cases h2:k==2 with
  |true=>rfl
  |false=>
  cases h3:k==3 with
  |true=>rfl
  |false=>
  simp only[bn];have hrl:=KI hr;have hkl:=jC ks;have key:∀(ts:List Tn) (j:Nat) (acc:aC),ks.drop j=ts->j<=ks.length->acc.length+(vg ts+sizes ts)<=20000000000000->
    dM (M.uD (M.lM f) rows (rows.length:Int)) ((j:Int),acc.map byteRow)=some (match AP ts with
     |none=> .inl ()
     |some s=> .inr ((rows.length:Int),(acc++s).map byteRow)):=by
   intro ts;induction ts with
   |nil=>intro j acc hd hj _;have:ks.length<=j:=List.drop_eq_nil_iff.1 hd;have:j=rows.length:=ak;subst this;apply aY;simp only[M.uD,M.uz,AP];rw[pq ak,bn,List.append_nil]
   |cons u ts ihl=>
    intro j acc hd hj hl;have hu:ks[j]? =some u:=by
     have:(ks.drop j)[0]? =some u:=by rw[hd];rfl
     simpa using this
    have hlt:j<ks.length:=(PU.1 hu).1;have hd':ks.drop (j+1)=ts:=by rw[<-List.drop_drop,hd];rfl
    obtain⟨r,hrj,hrD⟩:=ad3 hr hu;obtain⟨rows',g',rfl,hk'⟩:=(ad2 u r).1 hrD;have hmem:=En hu;have hsz:=iO hmem;have htx:=arS hmem;have hfu:=ih u hmem f rows' g' ak hk' ak;rw[vg,sizes] at hl;have c0:bK .i64 [D.int .i64 u.kind,.int .i64 u.op,.str u.text,.sl false 5 rows',.int .i64 g'] 0=some u.kind:=rfl;have c1:bK .i64 [D.int .i64 u.kind,.int .i64 u.op,.str u.text,.sl false 5 rows',.int .i64 g'] 1=some u.op:=rfl;have c2:cStr [D.int .i64 u.kind,.int .i64 u.op,.str u.text,.sl false 5 rows',.int .i64 g'] 2=some u.text:=rfl;have c3:NK 5 [D.int .i64 u.kind,.int .i64 u.op,.str u.text,.sl false 5 rows',.int .i64 g'] 3=some rows':=rfl;have c4:bK .i64 [D.int .i64 u.kind,.int .i64 u.op,.str u.text,.sl false 5 rows',.int .i64 g'] 4=some g':=rfl;rw[AP];cases hfx:Ei u with
    |none=>apply aY;simp only[M.uD,M.uz,bC,hrj,ah,c0,c1,c2,c3,c4,hfu,hfx,flR,Bool.not_false,aK];rw[zdt ak,aK]
    |some a=>
     have hal:=ad4 u a hfx;have hs:M.uD (M.lM f) rows (rows.length:Int) ((j:Int),acc.map byteRow)=some (.inl (((j+1:Nat):Int),(acc++a).map byteRow)):=by simp only[M.uD,M.uz,bC,hrj,ah,c0,c1,c2,c3,c4,hfu,hfx,flR,zaO,bn,zaQ];rw[zdt ak,aK,aN ak,aK,aN ak,aK,aB ak ak,List.map_append];rfl
     rw[cu hs,ihl (j+1) (acc++a) hd' hlt (by rw[qK];omega)];cases AP ts with
     |none=>rfl
     |some b=>simp only[NI]
  have h0:=key ks 0 [] rfl (Nat.zero_le _) (by simp only[uM];omega);have e0:([]:aC).map byteRow=[]:=rfl;rw[oQ,e0] at h0;rw[M.JE,h0];cases AP ks with
  |none=>rfl
  |some s=>simp only[ah,pz,letE,List.nil_append,bytesOf_map,flR]
def akk:∀a b:List Tn,WC (a++b)=bif(WC a).2 then WC a else((WC a).1+(WC b).1,(WC b).2)
 |[],b=>by simp[WC]
 |t::a,b=>by
  rw[Yr,WC,WC,akk a b];cases h:(bh t).2 with
  |true=>simp[h]
  |false=>simp only[bn];cases h2:(WC a).2<;>simp[Nat.add_assoc,h2]
mutual
def aYf:∀t:Tn,(bh t).1<=txs t
 | .mk k n x y ks=>by
  have:=akl ks;rw[bh,txs];cases k==2||k==3 with
  |true=>simp
  |false=>cases k==1<;>simp<;>omega
def akl:∀ts:List Tn,(WC ts).1<=vg ts
 |[]=>by simp[WC]
 |t::ts=>by have h1:=aYf t;have h2:=akl ts;rw[WC,vg];cases(bh t).2<;>simp<;>omega
end
def aho{α:Type}(a:List α)(x:α):(a.reverse++[x])[a.length]? =some x:=by rw[List.getElem?_append_right (by simp)];simp
def arY(w:Row)(c i k n:Int)(x:aC)(g:Int){ks:List Tn}{rows:au}(hr:U1 ks rows)(hk:ks.length<=2000000000)(st:au)(hl:st.length<=2000000000):
  M.nK w c i k n x rows g ((rows.length:Int) - 1,st)=some (-1,st++rows.reverse):=by
 have hrl:=KI hr;have key:∀(j:Nat),j<=ks.length->dM (M.wH w c i k n x rows g) ((j:Int) - 1,st++(rows.drop j).reverse)=some (-1,st++rows.reverse):=by
  intro j;induction j with
  |zero=>intro _;apply aY;simp only[jI,M.wH,M.qC];rw[pq ak,bn];rfl
  |succ j ihj=>
   intro hj;obtain⟨u,hu⟩:∃u,ks[j]? =some u:=⟨ks[j],by simp⟩
   obtain⟨r,hrj,hrD⟩:=ad3 hr hu;obtain⟨rows',g',rfl,hk'⟩:=(ad2 u r).1 hrD;have c0:bK .i64 [D.int .i64 u.kind,.int .i64 u.op,.str u.text,.sl false 5 rows',.int .i64 g'] 0=some u.kind:=rfl;have c1:bK .i64 [D.int .i64 u.kind,.int .i64 u.op,.str u.text,.sl false 5 rows',.int .i64 g'] 1=some u.op:=rfl;have c2:cStr [D.int .i64 u.kind,.int .i64 u.op,.str u.text,.sl false 5 rows',.int .i64 g'] 2=some u.text:=rfl;have c3:NK 5 [D.int .i64 u.kind,.int .i64 u.op,.str u.text,.sl false 5 rows',.int .i64 g'] 3=some rows':=rfl;have c4:bK .i64 [D.int .i64 u.kind,.int .i64 u.op,.str u.text,.sl false 5 rows',.int .i64 g'] 4=some g':=rfl;have hlen:(st++(rows.drop (j+1)).reverse).length<=4000000000:=by simp;omega
   have hdr:rows.drop j=[D.int .i64 u.kind,.int .i64 u.op,.str u.text,.sl false 5 rows',.int .i64 g']::rows.drop (j+1):=by obtain⟨h1,h2⟩:=PU.1 hrj;rw[List.drop_eq_getElem_cons h1,h2]
   rw[show(((j+1:Nat):Int) - 1)=(j:Int) by omega,<-ihj ak,hdr,List.reverse_cons,<-NI];refine cu ?_;simp only[jI,M.wH,M.qC,bC,hrj,ah,c0,c1,c2,c3,c4,IU];rw[zdt ak,aK,aN ak,aK,aN ak,aK,aB ak ak]
 have:=key rows.length ak;rw[List.drop_length,List.reverse_nil,List.append_nil] at this;exact this
def S6(w:Row)(c i:Int)(st:au)(s:(Row×Int×Int×au)⊕(Row×Int×Int×Int×Bool×au×Int×Int×aC×au×Int)):Prop:=
 s=.inl (w,c,i,st)\/∃a b d e f g h,s=.inr (w,c,i,a,b,st,d,e,f,g,h)
def awD(w:Row)(i:Int):∀(m:Nat) (us:List Tn) (rows:au) (c:Nat) (s:_),sizes us<=m->m<=1000000000->U1 us rows->c+vg us<=20000000000000->S6 w c i rows.reverse s->
  dM M.iJ s=some (bif(WC us).2 then .inl ((c+(WC us).1:Nat):Int) else .inr (w,((c+(WC us).1:Nat):Int),i,[])):=by
 intro m;induction m with
 |zero=>
  intro us rows c s hm hmb hr hc hs;cases us with
  |cons u us=>have:=u.size_pos;rw[sizes] at hm;omega
  |nil=>
   rw[U1] at hr;subst hr;apply aY;rcases hs with rfl|⟨a,b,d,e,f,g,h,rfl⟩
   ·simp only[M.iJ,M.iI,List.reverse_nil,uM,WC];rfl
   ·simp only[M.iJ,M.iI,List.reverse_nil,uM,WC];rfl
 |succ m ih=>
  intro us rows c s hm hmb hr hc hs;cases us with
  |nil=>
   rw[U1] at hr;subst hr;apply aY;rcases hs with rfl|⟨a,b,d,e,f,g,h,rfl⟩
   ·simp only[M.iJ,M.iI,List.reverse_nil,uM,WC];rfl
   ·simp only[M.iJ,M.iI,List.reverse_nil,uM,WC];rfl
  |cons u us=>
   obtain⟨k,n,x,y,ks⟩:=u;obtain⟨r,rs,rfl,hD,hDs⟩:=hr;obtain⟨rows',g',rfl,hk'⟩:=hD;have hrl:=KI hDs;have hkl:=KI hk';have hs1:=jC us;have hs2:=jC ks;rw[sizes,Tn.size] at hm;rw[vg,txs] at hc;generalize hR:[D.int .i64 k,.int .i64 n,.str x,.sl false 5 rows',.int .i64 g']=R at hs;have c0:bK .i64 R 0=some k:=by rw[<-hR];rfl
   have c1:bK .i64 R 1=some n:=by rw[<-hR];rfl
   have c2:cStr R 2=some x:=by rw[<-hR];rfl
   have c3:cRo 5 R 3=some rows':=by rw[<-hR];rfl
   have c4:bK .i64 R 4=some g':=by rw[<-hR];rfl
   have hlen:((R::rs).reverse.length:Int)=(rs.length:Int)+1:=by simp
   have hw1:i64.wrap ((rs.length:Int)+1 - 1)=(rs.length:Int):=(aB ak ak).trans ak;have hget:(R::rs).reverse[rs.length]? =some R:=by rw[List.reverse_cons];exact aho rs R
   have htk:(R::rs).reverse.take rs.length=rs.reverse:=by rw[List.reverse_cons];exact List.take_left' (by simp)
   have hd:(decide ((0:Int)<=(rs.length:Int)) && decide ((rs.length:Int)<=(rs.length:Int)+1))=true:=by simp;omega
   have hkids:=fun(cc:Int)=>arY w cc i k n x g' hk' ak rs.reverse (by rw[List.length_reverse];omega)
   have hw2:i64.wrap ((rows'.length:Int) - 1)=(rows'.length:Int) - 1:=aB ak ak;have hgo:rs.reverse++rows'.reverse=(rows'++rs).reverse:=by rw[List.reverse_append]
   have hDk:U1 (ks++us) (rows'++rs):=af0 hk' hDs;rw[WC,bh];cases h2:k==2 with
   |true=>
    apply aY;have e2:k=2:=by simpa using h2
    have h1:(k==1)=false:=by rw[e2];rfl
    rcases hs with rfl|⟨a,b,d,e,f,g,h,rfl⟩<;>
    ·simp only[M.iJ,M.iI,hlen,hw1,bC,Xm,hget,ah,c0,c1,c2,c3,c4,hd,aK,h1,h2,bn];rw[zdt ak,aK];simp
   |false=>
   cases h3:k==3 with
   |true=>
    apply aY;have e3:k=3:=by simpa using h3
    have h1:(k==1)=false:=by rw[e3];rfl
    rcases hs with rfl|⟨a,b,d,e,f,g,h,rfl⟩<;>
    ·simp only[M.iJ,M.iI,hlen,hw1,bC,Xm,hget,ah,c0,c1,c2,c3,c4,hd,aK,h1,h2,h3,bn];rw[zdt ak,aK];simp
   |false=>
    generalize aAA:(bif k==1 then x.length else 0)=tx;have htx:tx<=x.length:=by rw[<-aAA];cases k==1<;>simp
    have hstep:∃s',M.iJ s=some (.inl s')/\S6 w ((c+tx:Nat):Int) i (rows'++rs).reverse s':=by
     cases h1:k==1 with
     |true=>
      rw[h1,aK] at aAA;subst aAA;have hw3:i64.wrap ((c:Int)+(x.length:Int))=((c+x.length:Nat):Int):=(aB ak ak).trans ak;rcases hs with rfl|⟨a,b,d,e,f,g,h,rfl⟩<;>
      ·refine⟨_, ?_,.inr ⟨-1,false,k,n,x,rows',g',rfl⟩⟩
       ·simp only[M.iJ,M.iI,hlen,hw1,bC,Xm,hget,ah,c0,c1,c2,c3,c4,hd,aK,h1,htk,hw2,hkids,hw3,hgo];rw[zdt ak,aK]
     |false=>
      rw[h1,bn] at aAA;subst aAA;rcases hs with rfl|⟨a,b,d,e,f,g,h,rfl⟩<;>
      ·refine⟨_, ?_,.inr ⟨-1,false,k,n,x,rows',g',rfl⟩⟩
       ·simp only[M.iJ,M.iI,hlen,hw1,bC,Xm,hget,ah,c0,c1,c2,c3,c4,hd,aK,bn,h1,h2,h3,htk,hw2,hkids,hgo,Nat.add_zero];rw[zdt ak,aK]
    obtain⟨s',hb,hS⟩:=hstep;rw[cu hb,ih (ks++us) (rows'++rs) (c+tx) s' (by rw[kU];omega) ak hDk (by rw[UM];omega) hS,akk];simp only[Bool.or_self,bn];cases hb2:(WC ks).2 with
    |true=>simp[hb2,Nat.add_assoc]
    |false=>simp only[bn];cases(WC us).2<;>simp[Nat.add_assoc]
def isP(p:Pc)(r:Row):Prop:=∃rows g,r=[.int .i64 p.1.kind,.int .i64 p.1.op,.str p.1.text,.sl false 5 rows,.int .i64 g,.int .i64 p.2.1,.bool p.2.2]/\U1 p.1.kids rows
def Yq:List Pc->au->Prop
 |[],rows=>rows=[]
 |p::ps,rows=>∃r rs,rows=r::rs/\isP p r/\Yq ps rs
def Xj:∀{ts:List Pc} {rows:au},Yq ts rows->rows.length=ts.length
 |[],_,h=>by rw[Yq] at h;rw[h];rfl
 |t::ts,_,⟨r,rs,e,_,h2⟩=>by subst e;rw[nS,Xj h2,nS]
def af2:∀{a b:List Pc} {ra rb:au},Yq a ra->Yq b rb->Yq (a++b) (ra++rb)
 |[],_,_,_,h,h2=>by rw[Yq] at h;subst h;exact h2
 |t::ts,_,_,_,⟨r,rs,e,h1,h2⟩,h3=>by subst e;exact⟨r,_,rfl,h1,af2 h2 h3⟩
def akm:∀{rows:au},(∀r,r∈rows->qm r=r)->aG rows=rows
 |[],_=>rfl
 |r::rs,h=>by rw[aG,h r zmf,akm (λx hx=>h x (zmm _ hx))]
def au4:∀{ps:List Pc} {rows:au},Yq ps rows->∀r,r∈rows->qm r=r
 |[],_,h,r,hr=>by rw[Yq] at h;subst h;cases hr
 |p::ps,_,⟨q,qs,e,⟨rows,g,e1,h1⟩,h2⟩,r,hr=>by
  subst e;rcases List.mem_cons.1 hr with rfl|hr
  ·subst e1;simp only[qm,D.fz,an8 _ rows h1]
  ·exact au4 h2 r hr
def aAB{ps:List Pc}{rows:au}(h:Yq ps rows):aG rows.reverse=rows.reverse:=
 akm λr hr=>au4 h r (List.mem_reverse.1 hr)
def FT(st:List Pc):List Tn:=st.map (·.1)
def aaW(st:List Pc):st.length<=sizes (FT st):=by have:=jC (FT st);simpa[FT] using this
def akn(w:Row)(all:au)(hw:NK 7 w 2=some all.reverse)(hall:all.length<=1000000000):∀(st:List Pc) (pre rows:au) (c:Nat),Yq st rows->all=pre++rows->sizes (FT st)<=1000000000->c+vg (FT st)<=20000000000000->
  dM M.rE (w,(c:Int),(rows.length:Int) - 1,[])=some (bif(WC (FT st)).2 then .inl ((c+(WC (FT st)).1:Nat):Int) else .inr (w,((c+(WC (FT st)).1:Nat):Int), -1,[]))
 |[],pre,rows,c,h,ha,hs,hc=>by rw[Yq] at h;subst h;apply aY;rfl
 |(t,ii,ff)::st,pre,rows,c,h,ha,hs,hc=>by
  obtain⟨r,rs,rfl,⟨rows',g',rfl,hk'⟩,hPs⟩:=h;have hrl:=Xj hPs;have aI5:=aaW st;have e1:FT ((t,ii,ff)::st)=t::FT st:=rfl;rw[e1,sizes] at hs;rw[e1,vg] at hc;have hb1:=akl [t];simp only[vg,Nat.add_zero] at hb1;generalize hR:[D.int .i64 t.kind,.int .i64 t.op,.str t.text,.sl false 5 rows',.int .i64 g',.int .i64 ii,.bool ff]=R at ha|-;have c0:bK .i64 R 0=some t.kind:=by rw[<-hR];rfl
  have c1:bK .i64 R 1=some t.op:=by rw[<-hR];rfl
  have c2:cStr R 2=some t.text:=by rw[<-hR];rfl
  have c3:NK 5 R 3=some rows':=by rw[<-hR];rfl
  have c4:bK .i64 R 4=some g':=by rw[<-hR];rfl
  have hget:all.reverse[rs.length]? =some R:=by rw[ha,List.reverse_append,List.reverse_cons,NI,List.getElem?_append_right (by simp)];simp
  have hD:U1 [t] [[D.int .i64 t.kind,.int .i64 t.op,.str t.text,.sl false 5 rows',.int .i64 g']]:=⟨_,[],rfl,(ad2 _ _).2 ⟨rows',g',rfl,hk'⟩,rfl⟩
  have hin:=awD w (rs.length:Int) t.size [t] _ c _ (by simp[sizes]) ak hD (by simp only[vg];omega) (.inl rfl);rw[List.reverse_singleton] at hin;have e2:(WC [t]).2=(bh t).2:=by cases hq:(bh t).2<;>simp[WC,hq]
  have e3:(WC [t]).1=(bh t).1:=by cases hq:(bh t).2<;>simp[WC,hq]
  rw[e2,e3] at hin;rw[e3] at hb1;have e4:(((R::rs).length:Nat):Int) - 1=(rs.length:Int):=by simp only[nS];omega
  rw[e1,e4,WC];cases hq:(bh t).2 with
  |true=>apply aY;rw[hq,aK] at hin;simp only[jI,M.rE,M.rD,hw,bC,hget,ah,c0,c1,c2,c3,c4,uM,IU,List.nil_append,M.uU,hin,pz,aK,hq];rw[zdt ak,aK];rfl
  |false=>
   rw[hq,bn] at hin;have hstep:M.rE (w,(c:Int),(rs.length:Int),[])=some (.inl (w,((c+(bh t).1:Nat):Int),(rs.length:Int) - 1,[])):=by simp only[jI,M.rE,M.rD,hw,bC,hget,ah,c0,c1,c2,c3,c4,uM,IU,List.nil_append,M.uU,hin,pz,letE];rw[zdt ak,aK,aB ak ak];rfl
   rw[cu hstep,akn w all hw hall st (pre++[R]) rs (c+(bh t).1) hPs (by rw[ha];simp) ak ak];simp only[bn];cases(WC (FT st)).2<;>simp[Nat.add_assoc]
def awE(w:Row){st:List Pc}{rows:au}(h:Yq st rows)(hw:NK 7 w 2=some rows.reverse)(hs:sizes (FT st)<=1000000000)(hc:vg (FT st)<=20000000000000):
  M.oL w=some (((WC (FT st)).1:Nat):Int):=by
 have hrl:=Xj h;have aI5:=aaW st;have:=akn w rows hw ak st [] rows 0 h rfl hs ak;rw[Nat.zero_add,oQ] at this;simp only[M.oL,M.C9,hw,ah,List.length_reverse,M.Az];rw[aB ak ak,this];cases(WC (FT st)).2<;>rfl
def aYg{t:Tn}{rows':au}(g:Int)(hk:U1 t.kids rows'){st:List Pc}{rows:au}(h:Yq st rows)(s:aC)(col w:Int)(hs:t.size+sizes (FT st)<=1000000000)(hc:txs t+vg (FT st)<=10000000000000)
  (h0:0<=col) (h1:col<=40000000000000) (h2:0<=w) (h3:w<=10000):
  M.sS t.kind t.op t.text rows' g (s.map byteRow) col rows.reverse w=some (akh w col t st,s.map byteRow,col,rows.reverse,w):=by
 have hfl:=M.aeL (aEj t t.size rows' g (zaP _) hk ak);have hbe:=awE [D.sl false 1 (s.map byteRow),D.int .i64 col,D.sl false 7 rows.reverse] h rfl ak ak;have aAC:=akl (FT st);simp only[M.sS,M.MI,hfl,ah,aAB h,KJ,aK];unfold akh;cases hx:Ei t with
 |none=>rfl
 |some a=>have hal:=ad4 t a hx;have e1:i64.wrap ((a.length:Int)+((WC (FT st)).1:Int))=(a.length:Int)+((WC (FT st)).1:Int):=aB ak ak;have e2:i64.wrap (w - col)=w - col:=aB ak ak;simp only[flR,aK,hbe,ah,e1,e2];rfl
def aEk{ks:List Tn}{rows:au}(hr:U1 ks rows)(k n:Int)(x:aC)(g ii:Int)(ff:Bool)(s:aC)(col:Int)(st:au)(hk:ks.length<=1000000000)(hl:st.length<=1000000000):
  ∃ps,Yq (ks.map λt=>(t,ii,ff)) ps/\M.jh k n x rows g ii ff (s.map byteRow) col st=some (s.map byteRow,col,st++ps.reverse):=by
 have hrl:=KI hr;refine⟨rows.map (· ++[.int .i64 ii,.bool ff]), ?_, ?_⟩
 ·clear hk hrl;induction ks generalizing rows with
  |nil=>rw[U1] at hr;subst hr;rfl
  |cons u us ih=>obtain⟨r,rs,rfl,h1,h2⟩:=hr;obtain⟨rows',g',rfl,hk'⟩:=(ad2 u r).1 h1;exact⟨_,_,rfl,⟨rows',g',rfl,hk'⟩,ih h2⟩
 ·have key:∀(j:Nat),j<=ks.length->dM (M.Aw ii ff col k n x rows g (s.map byteRow)) ((j:Int) - 1,st++((rows.drop j).map (· ++[D.int .i64 ii,.bool ff])).reverse)=some (-1,st++(rows.map (· ++[D.int .i64 ii,.bool ff])).reverse):=by
   intro j;induction j with
   |zero=>intro _;apply aY;simp only[jI,M.Aw,M.uT];rw[pq ak,bn];rfl
   |succ j ihj=>
    intro hj;obtain⟨u,hu⟩:∃u,ks[j]? =some u:=⟨ks[j],by simp⟩
    obtain⟨r,hrj,hrD⟩:=ad3 hr hu;obtain⟨rows',g',rfl,hk'⟩:=(ad2 u r).1 hrD;have c0:bK .i64 [D.int .i64 u.kind,.int .i64 u.op,.str u.text,.sl false 5 rows',.int .i64 g'] 0=some u.kind:=rfl;have c1:bK .i64 [D.int .i64 u.kind,.int .i64 u.op,.str u.text,.sl false 5 rows',.int .i64 g'] 1=some u.op:=rfl;have c2:cStr [D.int .i64 u.kind,.int .i64 u.op,.str u.text,.sl false 5 rows',.int .i64 g'] 2=some u.text:=rfl;have c3:NK 5 [D.int .i64 u.kind,.int .i64 u.op,.str u.text,.sl false 5 rows',.int .i64 g'] 3=some rows':=rfl;have c4:bK .i64 [D.int .i64 u.kind,.int .i64 u.op,.str u.text,.sl false 5 rows',.int .i64 g'] 4=some g':=rfl;have hlen:(st++((rows.drop (j+1)).map (· ++[D.int .i64 ii,.bool ff])).reverse).length<=2000000000:=by simp;omega
    have hdr:rows.drop j=[D.int .i64 u.kind,.int .i64 u.op,.str u.text,.sl false 5 rows',.int .i64 g']::rows.drop (j+1):=by obtain⟨h1,h2⟩:=PU.1 hrj;rw[List.drop_eq_getElem_cons h1,h2]
    rw[show(((j+1:Nat):Int) - 1)=(j:Int) by omega,<-ihj ak,hdr,RQ,List.reverse_cons,<-NI];refine cu ?_;simp only[jI,M.Aw,M.uT,bC,hrj,ah,c0,c1,c2,c3,c4,IU];rw[zdt ak,aK,aN ak,aK,aN ak,aK,aB ak ak];rfl
  have:=key rows.length ak;rw[List.drop_length,List.map_nil,List.reverse_nil,List.append_nil] at this;simp only[M.jh,M.Hf,M.ED];rw[aB ak ak,this];simp only[ah,KJ,aK]
def aEl(ii:Int)(s:aC)(col:Int)(st:au)(h0:0<=ii)(h1:ii<=200000)(hs:s.length<=80000000000000):M.mQ ii (s.map byteRow) col st=some ((brk s ii).map byteRow,ii,st):=by
 have hrep:M.strings_Repeat [32] ii=some (List.replicate ii.toNat 32):=by rw[M.strings_Repeat,zdt h0,zdt ak,IU,aN (show 1<=1000000 by omega)];simp
 have e10:[[D.int .u8 10]]=[byteRow 10]:=rfl;have hb:s.map byteRow++[[D.int .u8 10]]++(List.replicate ii.toNat (32:UInt8)).map byteRow=(brk s ii).map byteRow:=by rw[brk,List.map_append,RQ,e10];simp
 simp only[M.mQ,M.He,hrep,ah,zaQ,qK,List.length_replicate,IU];rw[aN ak,aK,aN ak,aK,aN ak,aK,aN ak,aK,hb,KJ,aK]
def aAD(st:List Pc):Prop:=∀p,p∈st->dOk p.1=true/\0<=p.2.1/\p.2.1+40 * p.1.size<=200000
def ad5:∀{ks:List Tn} {t:Tn},arR ks=true->t∈ks->dOk t=true
 |[],_,_,h=>by cases h
 |u::us,t,h,ht=>by
  rw[arR,MS] at h;rcases List.mem_cons.1 ht with rfl|ht
  ·exact h.1
  ·exact ad5 h.2 ht
def aAD.kids{k m:Int}{x y:aC}{ks:List Tn}{i:Int}{f:Bool}{st:List Pc}(h:aAD ((.mk k m x y ks,i,f)::st))(j:Int)(g:Bool)(h1:i<=j)(h2:j<=i+40):aAD (ks.map (λt=>(t,j,g))++st):=by
 intro p hp;rcases List.mem_append.1 hp with hp|hp
 ·obtain⟨t,ht,rfl⟩:=List.mem_map.1 hp;obtain⟨h3,h4,h5⟩:=h _ zmf;simp only[dOk,Tn.size,MS] at h3 h4 h5;have hsz:=iO ht;refine⟨ad5 h3.1 ht, ?_, ?_⟩<;>simp only<;>omega
 ·exact h p (zmm _ hp)
def au5{m:Int}{x:aC}{c:Nat}(h:Za 4 m x c=true):0<=m/\m<=40:=by cases hx:(x==[])<;>simp[Za,hx] at h;exact h.1
def ad6(ks:List Tn)(j:Int)(g:Bool)(st:List Pc):FT (ks.map (λt=>(t,j,g))++st)=ks++FT st:=by simp[FT,List.map_append,Function.comp_def]
def sb{α β:Type}(a:α)(f:α->Option β):(some a).bind f=f a:=by cases h:f a<;>simp[h]
section
variable {k n i g w col:Int} {x:aC} {f:Bool} {rows' rs o:au}
def aYh(hl:rs.length<=1000000000):M.rF (col,w,o,([D.int .i64 k,.int .i64 n,.str x,.sl false 5 rows',.int .i64 g,.int .i64 i,.bool f]::rs).reverse)=
  (bif k==1 then(bif((o.length+(x.map byteRow).length) * 1).ble 140737488355328 then(bif(o.length+(x.map byteRow).length).ble 140737488355328 then some (.inl (i64.wrap (col+(x.length:Int)),w,o++x.map byteRow,rs.reverse)) else none) else none) else
   bif k==2 then(bif f then(bif((o.length+1) * 1).ble 140737488355328 then(bif(o.length+1).ble 140737488355328 then some (.inl (i64.wrap (col+1),w,o++[[D.int IntKind.u8 32]],rs.reverse)) else none) else none) else
    (bif aA o then((M.mQ i o col rs.reverse).bind λr=>some (.inl (r.2.1,w,r.1,r.2.2))) else none)) else
   bif k==3 then(bif aA o then((M.mQ i o col rs.reverse).bind λr=>some (.inl (r.2.1,w,r.1,r.2.2))) else none) else
   bif k==4 then(bif aA o then((M.jh k n x rows' g (i64.wrap (i+n)) f o col rs.reverse).bind λr=>some (.inl (r.2.1,w,r.1,r.2.2))) else none) else
   bif k==5 then(bif f then(bif aA o then((M.jh k n x rows' g i true o col rs.reverse).bind λr=>some (.inl (r.2.1,w,r.1,r.2.2))) else none) else
    (bif aA o then((M.sS k n x rows' g o col rs.reverse w).bind λr=>(bif aA r.2.1 then((M.jh k n x rows' g i r.1 r.2.1 r.2.2.1 r.2.2.2.1).bind λq=>some (.inl (q.2.1,r.2.2.2.2,q.1,q.2.2))) else none)) else none)) else
   (bif aA o then((M.jh k n x rows' g i f o col rs.reverse).bind λr=>some (.inl (r.2.1,w,r.1,r.2.2))) else none)):=by
 generalize hR:[D.int .i64 k,.int .i64 n,.str x,.sl false 5 rows',.int .i64 g,.int .i64 i,.bool f]=R;have c0:bK .i64 R 0=some k:=by rw[<-hR];rfl
 have c1:bK .i64 R 1=some n:=by rw[<-hR];rfl
 have c2:cStr R 2=some x:=by rw[<-hR];rfl
 have c3:cRo 5 R 3=some rows':=by rw[<-hR];rfl
 have c4:bK .i64 R 4=some g:=by rw[<-hR];rfl
 have c5:bK .i64 R 5=some i:=by rw[<-hR];rfl
 have c6:RU R 6=some f:=by rw[<-hR];rfl
 have hlen:((R::rs).reverse.length:Int)=(rs.length:Int)+1:=by simp
 have aAE:i64.wrap ((rs.length:Int)+1 - 1)=(rs.length:Int):=(aB ak ak).trans ak;have hget:(R::rs).reverse[rs.length]? =some R:=by rw[List.reverse_cons];exact aho rs R
 have htk:(R::rs).reverse.take rs.length=rs.reverse:=by rw[List.reverse_cons];exact List.take_left' (by simp)
 have hd:(decide ((0:Int)<=(rs.length:Int)) && decide ((rs.length:Int)<=(rs.length:Int)+1))=true:=by simp;omega
 have hgt:decide ((rs.length:Int)+1>0)=true:=zdt ak;simp only[M.rF,M.Dc,hlen,aAE,hgt,bC,Xm,hget,sb,c0,c1,c2,c3,c4,c5,c6,hd,aK,htk]
end
structure atD(m:Nat)(st:List Pc)(rows:au)(s:aC)(col:Int):Prop where
 sz:sizes (FT st)<=m
 is:Yq st rows
 inv:aAD st
 pos:0<=col
 len:s.length+(vg (FT st)+m * 200001)<=40000000000000
 col:col+(vg (FT st)+m * 200001)<=40000000000000
 tx:vg (FT st)<=10000000000000
def atD.rest{m:Nat}{k n:Int}{x y:aC}{ks:List Tn}{i:Int}{f:Bool}{st:List Pc}{r:Row}{rs:au}{s s':aC}{col col':Int}(h:atD (m+1) ((.mk k n x y ks,i,f)::st) (r::rs) s col)
  (h0:0<=col') (h1:s'.length<=s.length+(x.length+200001)) (h2:col'<=col+(x.length+200001)):atD m st rs s' col':=by
 obtain⟨a1,⟨r',rs',e,_,a2⟩,a3,a4,a5,a6,a7⟩:=h;cases e;simp only[FT,RQ,sizes,Tn.size,vg,txs] at a1 a5 a6 a7;refine⟨?_,a2,λp hp=>a3 p (zmm _ hp),h0, ?_, ?_, ?_⟩<;>simp only[FT]<;>omega
def atD.kids{m:Nat}{k n:Int}{x y:aC}{ks:List Tn}{i:Int}{f:Bool}{st:List Pc}{r:Row}{rs ps:au}{s:aC}{col:Int}(h:atD (m+1) ((.mk k n x y ks,i,f)::st) (r::rs) s col)
  {j:Int} {g:Bool} (h1:i<=j) (h2:j<=i+40) (hp:Yq (ks.map λt=>(t,j,g)) ps):atD m (ks.map (λt=>(t,j,g))++st) (ps++rs) s col:=by
 obtain⟨a1,⟨r',rs',e,_,a2⟩,a3,a4,a5,a6,a7⟩:=h;cases e;simp only[FT,RQ,sizes,Tn.size,vg,txs] at a1 a5 a6 a7;refine⟨?_,af2 hp a2,a3.kids j g h1 h2,a4, ?_, ?_, ?_⟩<;>rw[ad6]<;>simp only[FT,kU,UM]<;>omega
def aI6(w:Int)(hw0:0<=w)(hw1:w<=10000):∀(m:Nat) (st:List Pc) (rows:au) (s:aC) (col:Int),m<=4000->atD m st rows s col->
  ∃col',dM M.rF (col,w,s.map byteRow,rows.reverse)=some (col',w,(lay w m st s col).map byteRow,[]):=by
 intro m;induction m with
 |zero=>
  intro st rows s col hmb hH;cases st with
  |cons p st=>have:=p.1.size_pos;have:=hH.sz;simp only[FT,RQ,sizes] at this;omega
  |nil=>have hP:=hH.is;rw[Yq] at hP;subst hP;exact⟨col,aY rfl⟩
 |succ m ih=>
  intro st rows s col hmb hH;cases st with
  |nil=>have hP:=hH.is;rw[Yq] at hP;subst hP;exact⟨col,aY rfl⟩
  |cons p st=>
   obtain⟨t,i,f⟩:=p;obtain⟨k,n,x,y,ks⟩:=t;obtain⟨r,rs,rfl,⟨rows',g',rfl,hk'⟩,hPs⟩:=hH.is;obtain⟨hd0,hi0,hi1⟩:=hH.inv _ zmf;simp only[Tn.kind,Tn.op,Tn.text,Tn.kids] at hd0 hi0 hi1 hk' hH|-;have hsz:=hH.sz;have hln:=hH.len;have hcl:=hH.col;have htx:=hH.tx;have hps:=hH.pos;have hrl:=Xj hPs;have hkl:=KI hk';have aI5:=aaW st;have aI7:=jC ks;have e1:FT ((Tn.mk k n x y ks,i,f)::st)=Tn.mk k n x y ks::FT st:=rfl;rw[e1,sizes,Tn.size] at hsz;rw[e1,vg,txs] at hln hcl htx;rw[Tn.size] at hi1;have hrev:rs.reverse.length<=1000000000:=by rw[List.length_reverse];omega
   have hb:=aYh (k:=k) (n:=n) (i:=i) (g:=g') (w:=w) (col:=col) (x:=x) (f:=f) (rows':=rows') (rs:=rs) (o:=s.map byteRow) ak;generalize ([D.int .i64 k,.int .i64 n,.str x,.sl false 5 rows',.int .i64 g',.int .i64 i,.bool f]:Row)=R at hb hH|-;have aFZ:=aEl i s col rs.reverse hi0 ak ak;have hbl:(brk s i).length<=s.length+(x.length+200001):=by rw[brk,qK,nS,List.length_replicate];omega
   have hpu:=fun(ii:Int) (ff:Bool)=>aEk hk' k n x g' ii ff s col rs.reverse ak hrev
   simp only[KJ,aK,zaQ] at hb;rw[lay];cases h1:k==1 with
   |true=>rw[h1,aK,aN ak,aK,aN ak,aK,aB ak ak,<-List.map_append] at hb;rw[cu hb,aK];exact ih st rs (s++x) _ ak (hH.rest ak (by rw[qK];omega) ak)
   |false=>
   rw[h1,bn] at hb;rw[bn];cases h2:k==2 with
   |true=>
    rw[h2,aK] at hb;cases hf:f with
    |true=>have e32:[[D.int .u8 32]]=[byteRow 32]:=rfl;rw[hf,aK,aN ak,aK,aN ak,aK,aB ak ak,e32,<-List.map_singleton,<-List.map_append] at hb;rw[cu hb,Bool.and_self,aK];rw[hf] at hH;exact ih st rs (s++[32]) _ ak (hH.rest ak (by rw[qK,IU];omega) ak)
    |false=>rw[hf,bn,aFZ,ah] at hb;rw[cu hb,Bool.and_false,bn,Bool.true_or,aK];rw[hf] at hH;exact ih st rs (brk s i) i ak (hH.rest hi0 hbl ak)
   |false=>
   rw[h2,bn] at hb;rw[Bool.false_and,bn,Bool.false_or];cases h3:k==3 with
   |true=>rw[h3,aK,aFZ,ah] at hb;rw[cu hb,aK];exact ih st rs (brk s i) i ak (hH.rest hi0 hbl ak)
   |false=>
   rw[h3,bn] at hb;rw[bn];have go:∀(j:Int) (g:Bool),i<=j->j<=i+40->∀ps,Yq (ks.map λt=>(t,j,g)) ps->M.rF (col,w,s.map byteRow,(R::rs).reverse)=some (.inl (col,w,s.map byteRow,rs.reverse++ps.reverse))->
     ∃col',dM M.rF (col,w,s.map byteRow,(R::rs).reverse)=some (col',w,(lay w m (ks.map (λt=>(t,j,g))++st) s col).map byteRow,[]):=by
    intro j g hj1 hj2 ps hps hstep;rw[cu hstep,<-List.reverse_append];exact ih _ (ps++rs) s col ak (hH.kids hj1 hj2 hps)
   cases h4:k==4 with
   |true=>
    have ek:k=4:=by simpa using h4
    rw[dOk,MS,ek] at hd0;obtain⟨hn0,hn1⟩:=au5 hd0.2;obtain⟨ps,hps,hpush⟩:=hpu (i+n) f;rw[h4,aK,aB ak ak,hpush,ah] at hb;rw[aK];exact go (i+n) f ak ak ps hps hb
   |false=>
   rw[h4,bn] at hb;rw[bn];cases h5:k==5 with
   |true=>
    rw[h5,aK] at hb;rw[aK];cases hf:f with
    |true=>obtain⟨ps,hps,hpush⟩:=hpu i true;rw[hf,aK,hpush,ah] at hb;rw[Bool.true_or];exact go i true ak ak ps hps hb
    |false=>have hc1:=aYg (t:=.mk k n x y ks) g' hk' hPs s col w (by rw[Tn.size];omega) (by rw[txs];omega) hps ak hw0 hw1;simp only[Tn.kind,Tn.op,Tn.text] at hc1;rw[Bool.false_or];obtain⟨ps,hps,hpush⟩:=hpu i (akh w col (.mk k n x y ks) st);rw[hf,bn,hc1,ah] at hb;simp only[KJ,aK,hpush,ah] at hb;exact go i (akh w col (.mk k n x y ks) st) ak ak ps hps hb
   |false=>rw[h5,bn] at hb;rw[bn];obtain⟨ps,hps,hpush⟩:=hpu i f;rw[hpush,ah] at hb;exact go i f ak ak ps hps hb
def rnR(t:Tn)(w:Int):aC×Bool:=flR (render t w)
def ako{t:Tn}{o:Bool}(w:Int)(h:t.size<=90000000)(hx:∀n,n∈t.flat 0->n.text.length<=1000000000):M.xg (dD o (t.flat 0)) w=some (rnR t w):=by
 simp only[M.xg,M.NV,ak4 (o:=o) h,ah,Ry,aAz (o:=o) h,rnR,render];have aAC:Nat.ble t.size 4000=decide (t.size<=4000):=by rw[Bool.eq_iff_iff,decide_eq_true_eq];exact Iff.of_eq Nat.ble_eq
 rw[aAC,Bool.and_comm (decide (t.size<=4000))];cases hd:(dOk t) && decide (t.size<=4000) with
 |false=>rfl
 |true=>
  cases hw:decide (0<=w) && decide (w<=10000) with
  |false=>rfl
  |true=>
   simp only[MS,decide_eq_true_eq] at hd hw;have htx:=atC 1000000000 t 0 hx;simp only[zaO,bn,Bool.and_self,aK,flR];obtain⟨col',hl⟩:=aI6 w hw.1 hw.2 t.size [(t,0,false)] [[.int .i64 t.kind,.int .i64 t.op,.str t.text,.sl false 5 (aG (Ar (t.flat 0) t.kids 0)),.int .i64 (grp ((t.flat 0).take (sizes t.kids))),.int .i64 0,.bool false]] [] 0 hd.2
    ⟨by simp[FT,sizes],⟨_,[],rfl,⟨_,_,rfl,aaG _ _ _⟩,rfl⟩,λp hp=>by simp only[List.mem_singleton] at hp;subst hp;refine⟨hd.1,Int.le_refl 0, ?_⟩;simp only;omega,Int.le_refl 0,
     by simp only[FT,RQ,List.map_nil,vg,uM];omega,by simp only[FT,RQ,List.map_nil,vg];omega,by simp only[FT,RQ,List.map_nil,vg];omega⟩
   rw[List.reverse_singleton] at hl;have e0:([]:aC).map byteRow=[]:=rfl;rw[e0] at hl;simp only[M.xY,M.JF,M.Hg,hl,ah,KJ,aK,bytesOf_map]
def agQ(w:Int):M.xg [] w=some ([],false):=by simp only[M.xg,M.NV,amF.1,ah];rfl
mutual
def amH:∀(t:Tn) (pre post:List Nd) (i:Nat),i<t.size->∃b u,Lies (pre++(t.flat pre.length++post)) b u/\b+sizes u.kids=pre.length+i
 | .mk k o x y ks,pre,post,i,h=>by
  rw[Tn.size] at h
  by_cases hi:i=sizes ks
  ·exact⟨pre.length,.mk k o x y ks,⟨pre,post,rfl,rfl⟩,by rw[hi];rfl⟩
  ·obtain⟨b,u,h1,h2⟩:=akp ks pre ([⟨k,o,x,y,ends ks pre.length⟩]++post) i ak;refine⟨b,u, ?_,h2⟩;rw[Tn.flat,NI];exact h1
def akp:∀(ks:List Tn) (pre post:List Nd) (i:Nat),i<sizes ks->∃b u,Lies (pre++(jF ks pre.length++post)) b u/\b+sizes u.kids=pre.length+i
 |[],_,_,i,h=>by simp[sizes] at h
 |t::ts,pre,post,i,h=>by
  rw[sizes] at h
  by_cases hi:i<t.size
  ·obtain⟨b,u,h1,h2⟩:=amH t pre (jF ts (pre.length+t.size)++post) i hi;refine⟨b,u, ?_,h2⟩;rw[jF,NI];exact h1
  ·obtain⟨b,u,h1,h2⟩:=akp ts (pre++t.flat pre.length) post (i - t.size) ak;rw[qK,t.flat_length] at h1 h2;refine⟨b,u, ?_,ak⟩;rw[jF,NI,<-NI pre];exact h1
end
def aEm{t:Tn}{i:Nat}(h:i<t.size):∃b u,Lies (t.flat 0) b u/\b+sizes u.kids=i:=by obtain⟨b,u,h1,h2⟩:=amH t [] [] i h;refine⟨b,u,by simpa using h1,by simpa using h2⟩
mutual
def akq:Tn->Bool
 | .mk k _ _ _ ks=>k==3||NH ks
def NH:List Tn->Bool
 |[]=>false
 |t::ts=>(akq t)||NH ts
end
def ad7{k n:Int}{x:aC}{c:Nat}(h:Za k n x c=true)(hk:k=1\/k=2\/k=3):c=0:=by rcases hk with rfl|rfl|rfl<;>cases hn:(n==0)<;>cases hx:(x==[])<;>simp[Za,hn,hx] at h<;>omega
def aAF{k n:Int}{x:aC}{c:Nat}(h:Za k n x c=true)(hk:k=5):c=1:=by subst hk;cases hn:(n==0)<;>cases hx:(x==[])<;>simp[Za,hn,hx] at h<;>omega
def aI8{k n:Int}{x:aC}{c:Nat}(h:Za k n x c=true)(h1:(k==1)=false)(h2:(k==2)=false)(h3:(k==3)=false)(h4:(k==4)=false)(h5:(k==5)=false):n=0:=by
 cases hn:(n==0) with
 |true=>simpa using hn
 |false=>simp[Za,hn,h4] at h
mutual
def arZ:∀t:Tn,dOk t=true->(Ei t).isNone=(akq t)
 | .mk k n x y ks,h=>by
  rw[dOk,MS] at h;rw[Ei,akq];cases h1:k==1 with
  |true=>
   have hl:=ad7 h.2 (.inl (by simpa using h1));have:ks=[]:=List.length_eq_zero_iff.1 hl;have e:k=1:=by simpa using h1
   subst this;subst e;rfl
  |false=>
  cases h2:k==2 with
  |true=>
   have hl:=ad7 h.2 (.inr (.inl (by simpa using h2)));have:ks=[]:=List.length_eq_zero_iff.1 hl;have e:k=2:=by simpa using h2
   subst this;subst e;rfl
  |false=>
  cases h3:k==3 with
  |true=>rfl
  |false=>simp only[bn,Bool.false_or];exact amI ks h.1
def amI:∀ts:List Tn,arR ts=true->(AP ts).isNone=NH ts
 |[],_=>rfl
 |t::ts,h=>by
  rw[arR,MS] at h;have h1:=arZ t h.1;have h2:=amI ts h.2;rw[AP,NH,<-h1,<-h2];cases Ei t with
  |none=>rfl
  |some a=>cases AP ts<;>rfl
end
def Zc(l:List Bool):au:=l.map λb=>[.bool b]
def ar0(l:List Bool):(Zc l).length=l.length:=by simp[Zc]
def ar1(l:List Bool)(j:Nat):(Zc l)[j]? =(l[j]?).map λb=>[D.bool b]:=by simp[Zc]
def awF(l:List Bool):aA (Zc l)=true:=by simp only[aA,Zc,List.all_map,List.all_eq_true];intro x _;rfl
def aAG(l:List Nd)(L:List Bool)(i:Nat):Prop:=L.length=i/\∀b u,Lies l b u->b+sizes u.kids<i->L[b+sizes u.kids]? =some (akq u)
def abD:∀a b:List Tn,NH (a++b)=(NH a||NH b)
 |[],b=>rfl
 |t::a,b=>by rw[Yr,NH,NH,abD a b,Bool.or_assoc]
def aAH{l:List Nd}{o:Bool}{L:List Bool}{i:Nat}(hI:aAG l L i)(hl:l.length<=90000000){b:Nat}{u:Tn}(hu:Lies l b u)(hi:b+sizes u.kids=i)(is:Bool):
  M.LK (dD o l) (i:Int) (Zc L) (is,0)=some (is||NH u.kids,(u.kids.length:Int)):=by
 obtain⟨k,n,x,y,ks⟩:=u;have hroot:l[b+sizes ks]? =some ⟨k,n,x,y,ends ks b⟩:=hu.root;simp only[Tn.kids] at hi|-;rw[hi] at hroot;have hlt:=hu.lt;rw[Tn.size] at hlt;have aI7:=jC ks;have hloop:=iY (b:=M.GU (dD o l) (i:Int) (Zc L)) (t:=(is||NH ks,(ks.length:Int))) (λj=>(is||NH (ks.take j),(j:Int))) ks.length
  (by
   intro j hj;obtain⟨t,ht⟩:∃t,ks[j]? =some t:=⟨ks[j],by simp⟩
   have he:=YV (b:=b) ht;have hst:=KA ht;have hts:=t.vk;have hLt:=hI.2 _ t (Lies.SQ hu ht) ak;rw[gu ht,abD,<-Bool.or_assoc];generalize (is||NH (ks.take j))=c;simp only[M.GU,M.zY,bC,vN,hroot,O9,ah,cD3,aV,eX,lC,he,KT,Xm,ar1,hLt];rw[zdt ak,aK,aB ak ak];cases c with
   |true=>rfl
   |false=>simp only[bn,NH,Bool.or_false,Bool.false_or];rfl)
  (by simp only[M.GU,M.zY,bC,vN,hroot,O9,ah,cD3,aV,eX];rw[pq ak,bn,List.take_length]) 0 (Nat.zero_le _)
 rw[oQ,List.take_zero,NH,Bool.or_false] at hloop;exact hloop
def aAI{t:Tn}{o:Bool}(h:t.size<=90000000):∃L,aAG (t.flat 0) L t.size/\M.y7 (dD o (t.flat 0))=some (Zc L):=by
 have key:∀(m i:Nat) (L:List Bool),t.size - i=m->i<=t.size->aAG (t.flat 0) L i->∃L',aAG (t.flat 0) L' t.size/\dM (M.Aa (dD o (t.flat 0))) ((i:Int),Zc L)=some ((t.size:Int),Zc L'):=by
  intro m;induction m with
  |zero=>intro i L hm hi hI;have:i=t.size:=ak;subst this;refine⟨L,hI,aY ?_⟩;simp only[jI,M.Aa,M.zZ,jv,t.flat_length];rw[pq ak,bn]
  |succ m ih=>
   intro i L hm hi hI;have hlt:i<t.size:=ak;obtain⟨b,u,hu,hbi⟩:=aEm hlt;have hroot:=Lies.root' hu;rw[hbi] at hroot;have hin:=λb u hu hbi=>aAH (o:=o) hI (Zb h).1 (b:=b) (u:=u) hu hbi (u.kind==3)
   have hin0:=hin b u hu hbi;have hL:=hI.1;have hstep:M.Aa (dD o (t.flat 0)) ((i:Int),Zc L)=some (.inl (((i+1:Nat):Int),Zc (L++[u.kind==3||NH u.kids]))):=by simp only[jI,M.Aa,M.zZ,jv,t.flat_length,bC,vN,hroot,O9,ah,cD0,hin0,ar0,IU];rw[zdt ak,aK,aN ak,aK,aN ak,aK,aB ak ak];simp[Zc]
   rw[cu hstep];refine ih (i+1) _ ak hlt ⟨by simp[hL],λb2 u2 hu2 hb2=> ?_⟩
   by_cases hc:b2+sizes u2.kids<i
   ·rw[List.getElem?_append_left ak];exact hI.2 b2 u2 hu2 hc
   ·have hb2:b2+sizes u2.kids=i:=ak;have h2:=hin b2 u2 hu2 hb2;have hr2:=Lies.root' hu2;rw[hb2,hroot] at hr2;simp only[je,Nd.mk.injEq] at hr2;rw[<-hr2.1,hin0] at h2;simp only[je,lN] at h2;rw[hb2,List.getElem?_append_right ak,hL,Nat.sub_self,List.getElem?_cons_zero,h2.1,hr2.1];cases u2;rfl
 obtain⟨L,h1,h2⟩:=key t.size 0 [] rfl (Nat.zero_le _) ⟨rfl,λ_ _ _ h=>absurd h (Nat.not_lt_zero _)⟩;have e0:Zc []=[]:=rfl;rw[oQ,e0] at h2;refine⟨L,h1, ?_⟩;simp only[M.y7,M.OE,M.LM,h2,ah,awF,aK]
def isI(l:List Nd)(p:Pc)(r:Row):Prop:=∃b,Lies l b p.1/\r=[.int .i64 ((b+sizes p.1.kids:Nat):Int),.int .i64 p.2.1,.bool p.2.2]
def RJ(l:List Nd):List Pc->au->Prop
 |[],rows=>rows=[]
 |p::ps,rows=>∃r rs,rows=r::rs/\isI l p r/\RJ l ps rs
def PO{l:List Nd}:∀{ts:List Pc} {rows:au},RJ l ts rows->rows.length=ts.length
 |[],_,h=>by rw[RJ] at h;rw[h];rfl
 |t::ts,_,⟨r,rs,e,_,h2⟩=>by subst e;rw[nS,PO h2,nS]
def Xk{l:List Nd}:∀{a b:List Pc} {ra rb:au},RJ l a ra->RJ l b rb->RJ l (a++b) (ra++rb)
 |[],_,_,_,h,h2=>by rw[RJ] at h;subst h;exact h2
 |t::ts,_,_,_,⟨r,rs,e,h1,h2⟩,h3=>by subst e;exact⟨r,_,rfl,h1,Xk h2 h3⟩
def amJ{l:List Nd}:∀{ps:List Pc} {rows:au},RJ l ps rows->rows.all (λr=>r.all D.flat)=true
 |[],_,h=>by rw[RJ] at h;subst h;rfl
 |p::ps,_,⟨r,rs,e,⟨b,_,e1⟩,h2⟩=>by subst e;subst e1;rw[List.all_cons,amJ h2];rfl
def acI{l:List Nd}{ps:List Pc}{rows:au}(h:RJ l ps rows):aA rows.reverse=true:=by rw[aA,List.all_reverse];exact amJ h
def au6{l:List Nd}{b:Nat}{k n:Int}{x y:aC}{ks:List Tn}(hu:Lies l b (.mk k n x y ks))(n':Int)(x':aC)(k' ii:Int)(ff:Bool){st:List Pc}{rows:au}(hst:RJ l st rows)(hl:l.length<=90000000)(hs:st.length<=1000000000):
  ∃ps,RJ l (ks.map λt=>(t,ii,ff)) ps/\M.kW rows.reverse k' n' x' (encI (ends ks b)) ii ff=some (ps++rows).reverse:=by
 have hlt:=hu.lt;rw[Tn.size] at hlt;have aI7:=jC ks;have hrl:=PO hst;have aIV:∀j t,ks[j]? =some t->isI l (t,ii,ff) [.int .i64 ((b+sizes (ks.take j)+sizes t.kids:Nat):Int),.int .i64 ii,.bool ff]:=λj t ht=>⟨_,Lies.SQ hu ht,rfl⟩
 have key:∀(j:Nat),j<=ks.length->∀ps,RJ l ((ks.drop j).map λt=>(t,ii,ff)) ps->∃ps',RJ l (ks.map λt=>(t,ii,ff)) ps'/\
   dM (M.Js ii ff k' n' x' (encI (ends ks b))) ((j:Int) - 1,(ps++rows).reverse)=some (-1,(ps'++rows).reverse):=by
  intro j;induction j with
  |zero=>intro _ ps hps;refine⟨ps,hps,aY ?_⟩;simp only[jI,M.Js,M.CB];rw[pq ak,bn];rfl
  |succ j ihj=>
   intro hj ps hps;obtain⟨t,ht⟩:∃t,ks[j]? =some t:=⟨ks[j],by simp⟩
   have he:=YV (b:=b) ht;have hpl:=PO hps;rw[zaQ,List.length_drop] at hpl;have hdr:ks.drop j=t::ks.drop (j+1):=by obtain⟨h1,h2⟩:=PU.1 ht;rw[List.drop_eq_getElem_cons h1,h2]
   have hlen:(ps++rows).reverse.length<=2000000000:=by rw[List.length_reverse,qK];omega
   obtain⟨ps',h1,h2⟩:=ihj ak ([.int .i64 ((b+sizes (ks.take j)+sizes t.kids:Nat):Int),.int .i64 ii,.bool ff]::ps) (by rw[hdr];exact⟨_,_,rfl,aIV j t ht,hps⟩);refine⟨ps',h1, ?_⟩;rw[show(((j+1:Nat):Int) - 1)=(j:Int) by omega,<-h2];refine cu ?_;simp only[jI,M.Js,M.CB,bC,lC,he,O9,ah,KT,IU];rw[zdt ak,aK,aN ak,aK,aN ak,aK,aB ak ak];simp
 obtain⟨ps,h1,h2⟩:=key ks.length (zaP _) [] (by rw[List.drop_length];rfl);rw[List.nil_append] at h2;refine⟨ps,h1, ?_⟩;simp only[M.kW,M.QL,M.OH,aV,eX];rw[aB ak ak,h2];simp only[ah,acI (Xk h1 hst),aK]
def cost(p:Pc):Nat×Bool:=bif p.2.2 then(((Ei p.1).getD []).length,false) else(bh p.1)
def fbs:List Pc->Nat×Bool
 |[]=>(0,false)
 |p::ps=>bif(cost p).2 then cost p else((cost p).1+(fbs ps).1,(fbs ps).2)
def akr:∀a b:List Pc,fbs (a++b)=bif(fbs a).2 then fbs a else((fbs a).1+(fbs b).1,(fbs b).2)
 |[],b=>by simp[fbs]
 |t::a,b=>by
  rw[Yr,fbs,fbs,akr a b];cases h:(cost t).2 with
  |true=>simp[h]
  |false=>simp only[bn];cases h2:(fbs a).2<;>simp[Nat.add_assoc,h2]
def au7(i:Int):∀ts:List Tn,fbs (ts.map λt=>(t,i,false))=WC ts
 |[]=>rfl
 |t::ts=>by rw[RQ,fbs,WC,au7 i ts];rfl
def ar2(i:Int):∀(ts:List Tn) (s:aC),AP ts=some s->fbs (ts.map λt=>(t,i,true))=(s.length,false)
 |[],s,h=>by cases h;rfl
 |t::ts,s,h=>by
  rw[AP] at h;cases ha:Ei t with
  |none=>rw[ha] at h;cases h
  |some a=>
   rw[ha] at h;cases hb:AP ts with
   |none=>rw[hb] at h;cases h
   |some b=>rw[hb] at h;cases h;rw[RQ,fbs,ar2 i ts b hb];simp[cost,ha]
def ar4:∀(st:List Pc),(∀p,p∈st->p.2.2=false)->fbs st=WC (FT st)
 |[],_=>rfl
 |p::st,h=>by
  have e:=h p zmf;have ec:cost p=(bh p.1):=by rw[cost,e];rfl
  have:=ar4 st λq hq=>h q (zmm _ hq)
  rw[fbs,this,ec];rfl
def RInv(st:List Pc):Prop:=∀p,p∈st->dOk p.1=true/\(p.2.2=true->∃s,Ei p.1=some s)
def aks:∀{ts:List Tn} {s:aC} {t:Tn},AP ts=some s->t∈ts->∃a,Ei t=some a
 |[],_,_,_,h=>by cases h
 |u::ts,s,t,h,ht=>by
  rw[AP] at h;cases ha:Ei u with
  |none=>rw[ha] at h;cases h
  |some a=>
   rw[ha] at h;cases hb:AP ts with
   |none=>rw[hb] at h;cases h
   |some b=>
    rcases List.mem_cons.1 ht with rfl|ht
    ·exact⟨a,ha⟩
    ·exact aks hb ht
def acJ{k n:Int}{x y:aC}{ks:List Tn}(h1:(k==1)=false)(h2:(k==2)=false)(h3:(k==3)=false):Ei (.mk k n x y ks)=AP ks:=by rw[Ei,h1,h2,h3];rfl
def RInv.kids{k n:Int}{x y:aC}{ks:List Tn}{i:Int}{f:Bool}{st:List Pc}(h:RInv ((.mk k n x y ks,i,f)::st))(h1:(k==1)=false)(h2:(k==2)=false)(h3:(k==3)=false)(j:Int)(g:Bool)
  (hg:g=true->∃s,Ei (.mk k n x y ks)=some s):RInv (ks.map (λt=>(t,j,g))++st):=by
 intro p hp;rcases List.mem_append.1 hp with hp|hp
 ·obtain⟨t,ht,rfl⟩:=List.mem_map.1 hp;obtain⟨h4,h5⟩:=h _ zmf;rw[dOk,MS] at h4;refine⟨ad5 h4.1 ht,λe=> ?_⟩;obtain⟨s,hs⟩:=hg e;rw[acJ h1 h2 h3] at hs;exact aks hs ht
 ·exact h p (zmm _ hp)
def aAJ{l:List Nd}{o:Bool}(hl:l.length<=90000000){b:Nat}{k n:Int}{x y:aC}{ks:List Tn}(hu:Lies l b (.mk k n x y ks))(rest:au)(room:Int)(at_:Int){ii:Int}{f:Bool}{st:List Pc}{rows:au}(hst:RJ l st rows)(hs:st.length<=1000000000)
  (hr:0<=room) (hx:x.length<=20000000000000) (hr2:room<=40000000000000) (hdn:Za k n x ks.length=true) (ar5:f=true->(k==3)=false):
  ∃ps,RJ l (ks.map λt=>(t,ii,f)) ps/\
  M.gU (dD o l) rest (room,at_,([.int .i64 ((b+sizes ks:Nat):Int),.int .i64 ii,.bool f]::rows).reverse)=
   some (bif k==1 then .inl (room - (x.length:Int),at_,(ps++rows).reverse) else bif k==2 then(bif !f then .inr (.inl ()) else .inl (room - 1,at_,(ps++rows).reverse)) else bif k==3 then .inr (.inl ()) else .inl (room,at_,(ps++rows).reverse)):=by
 obtain⟨ps,hps,hkids⟩:=au6 (l:=l) hu n x k ii f hst hl hs;refine⟨ps,hps, ?_⟩;have hroot:l[b+sizes ks]? =some ⟨k,n,x,y,ends ks b⟩:=hu.root;have hrl:=PO hst;generalize hR:[D.int .i64 ((b+sizes ks:Nat):Int),.int .i64 ii,.bool f]=R;have c0:bK .i64 R 0=some ((b+sizes ks:Nat):Int):=by rw[<-hR];rfl
 have c1:bK .i64 R 1=some ii:=by rw[<-hR];rfl
 have c2:RU R 2=some f:=by rw[<-hR];rfl
 have hlen:((R::rows).reverse.length:Int)=(rows.length:Int)+1:=by simp
 have aAE:i64.wrap ((rows.length:Int)+1 - 1)=(rows.length:Int):=(aB ak ak).trans ak;have hget:(R::rows).reverse[rows.length]? =some R:=by rw[List.reverse_cons];exact aho rows R
 have htk:(R::rows).reverse.take rows.length=rows.reverse:=by rw[List.reverse_cons];exact List.take_left' (by simp)
 have hd:(decide ((0:Int)<=(rows.length:Int)) && decide ((rows.length:Int)<=(rows.length:Int)+1))=true:=by simp;omega
 have hz:(((rows.length:Int)+1)==0)=false:=KL.2 ak;have hge:decide (room>=0)=true:=zdt hr;have hfl:=acI hst;have aF0:(k=1\/k=2\/k=3)->ps=[]:=by intro hk;have hc:=ad7 hdn hk;have:ks=[]:=List.length_eq_zero_iff.1 hc;subst this;exact hps
 have hwa:i64.wrap (room - (x.length:Int))=room - (x.length:Int):=aB ak ak;have hwb:i64.wrap (room - 1)=room - 1:=aB ak ak;simp only[jI,M.gU,M.oz,hwa,hwb,hge,hlen,hz,aAE,bC,Xm,hget,sb,c0,c1,c2,hd,aK,bn,vN,hroot,O9,cD0,cD1,cD2,cD3,htk,hfl,hkids];cases h1:k==1 with
 |true=>rw[aF0 (.inl (by simpa using h1))];rfl
 |false=>
 cases h2:k==2 with
 |true=>rw[aF0 (.inr (.inl (by simpa using h2)))];cases f<;>rfl
 |false=>cases h3:k==3<;>rfl
def aEn{l:List Nd}{o:Bool}(hl:l.length<=90000000){all:au}(hall:all.length<=1000000000):∀(m:Nat) (us rs:List Pc) (rows rws pre:au) (room:Int),sizes (FT us)+sizes (FT rs)<=m->m<=1000000000->RJ l us rows->RJ l rs rws->all=pre++rws->
  RInv (us++rs)-> -50000000000000<=room->room<=40000000000000->vg (FT us)+vg (FT rs)<=20000000000000->
  (decide (((fbs (us++rs)).1:Int)<=room)=true/\dM (M.gU (dD o l) all.reverse) (room,(rws.length:Int),rows.reverse)=some (.inl ()))\/
  (decide (((fbs (us++rs)).1:Int)<=room)=false/\∃s,dM (M.gU (dD o l) all.reverse) (room,(rws.length:Int),rows.reverse)=some (.inr s)):=by
 intro m;induction m with
 |zero=>
  intro us rs rows rws pre room hm hmb hU hR ha hI hr0 hr1 htx;have hu0:us=[]:=by
   cases us with
   |nil=>rfl
   |cons p us=>have:=p.1.size_pos;simp only[FT,RQ,sizes] at hm;omega
  have a6G:rs=[]:=by
   cases rs with
   |nil=>rfl
   |cons p us=>have:=p.1.size_pos;simp only[FT,RQ,sizes] at hm;omega
  subst hu0;subst a6G;rw[RJ] at hU hR;subst hU;subst hR
  by_cases hr:0<=room
  ·refine .inl ⟨zdt (by simpa[fbs] using hr),aY ?_⟩;simp only[jI,M.gU,M.oz,zdt (show room>=0 from hr)];rfl
  ·refine .inr ⟨pq (by simp[fbs];omega),(room,0,[]),aY ?_⟩;simp only[jI,M.gU,M.oz,pq (show¬room>=0 by omega)];rfl
 |succ m ih=>
  intro us rs rows rws pre room hm hmb hU hR ha hI hr0 hr1 htx
  by_cases hr:0<=room
  case neg=>refine .inr ⟨pq ak,(room,(rws.length:Int),rows.reverse),aY ?_⟩;simp only[jI,M.gU,M.oz,pq (show¬room>=0 by omega)];rfl
  have top:∀(p:Pc) (us rs:List Pc) (rows rws pre:au) (r:Row),sizes (FT (p::us))+sizes (FT rs)<=m+1->isI l p r->RJ l us rows->RJ l rs rws->all=pre++rws->RInv (p::us++rs)->vg (FT (p::us))+vg (FT rs)<=20000000000000->
    ∀R,M.gU (dD o l) all.reverse (room,(rws.length:Int),(r::rows).reverse)=R->
    (∀q:(Int×Int×au)⊕((Unit)⊕(Int×Int×au)),R=some q->
     (decide (((fbs (p::us++rs)).1:Int)<=room)=true/\q=.inr (.inl ()))\/
     (∃s,q=.inl s/\((decide (((fbs (p::us++rs)).1:Int)<=room)=true/\dM (M.gU (dD o l) all.reverse) s=some (.inl ()))\/
      (decide (((fbs (p::us++rs)).1:Int)<=room)=false/\∃s',dM (M.gU (dD o l) all.reverse) s=some (.inr s')))))/\R≠none:=by
   intro p us rs rows rws pre r hm hp hU hR ha hI htx R hRd;obtain⟨t,ii,f⟩:=p;obtain⟨k,n,x,y,ks⟩:=t;obtain⟨b,hu,rfl⟩:=hp;simp only[Tn.kids] at hu hRd;obtain⟨hd0,hfl⟩:=hI _ zmf;simp only at hd0 hfl;have hd1:=hd0;rw[dOk,MS] at hd1;have e1:FT ((Tn.mk k n x y ks,ii,f)::us)=Tn.mk k n x y ks::FT us:=rfl;rw[e1,sizes,Tn.size] at hm;rw[e1,vg,txs] at htx;have hul:=aaW us;have ar5:f=true->(k==3)=false:=by
    intro e;obtain⟨s,hs⟩:=hfl e;cases h3:k==3 with
    |false=>rfl
    |true=>
     have e3:k=3:=by simpa using h3
     subst e3;cases hs
   obtain⟨ps,hps,hone⟩:=aAJ (o:=o) hl hu all.reverse room (rws.length:Int) (ii:=ii) (f:=f) hU ak hr ak hr1 hd1.2 ar5;rw[hone] at hRd;subst hRd;refine⟨λq hq=> ?_,by simp⟩;simp only[je] at hq;subst hq;have hIr:RInv (us++rs):=λp hp=>hI p (zmm _ hp)
   rw[Yr,fbs];cases h1:k==1 with
   |true=>
    have ek:k=1:=by simpa using h1
    have hk0:ks=[]:=List.length_eq_zero_iff.1 (ad7 hd1.2 (.inl ek));subst hk0;have hc:cost (Tn.mk k n x y [],ii,f)=(x.length,false):=by subst ek;cases f<;>simp[cost,Ei,bh,WC]
    have hps0:ps=[]:=hps;subst hps0;simp only[aK,List.nil_append,hc,bn];refine .inr ⟨_,rfl, ?_⟩;have:=ih us rs rows rws pre (room - (x.length:Int)) ak ak hU hR ha hIr ak ak ak;have hdd:decide (((x.length+(fbs (us++rs)).1:Nat):Int)<=room)=decide (((fbs (us++rs)).1:Int)<=room - (x.length:Int)):=by rw[Bool.eq_iff_iff,decide_eq_true_eq,decide_eq_true_eq];omega
    rw[hdd];exact this
   |false=>
   cases h2:k==2 with
   |true=>
    have ek:k=2:=by simpa using h2
    have hk0:ks=[]:=List.length_eq_zero_iff.1 (ad7 hd1.2 (.inr (.inl ek)));subst hk0;cases hf:f with
    |false=>
     have hc:cost (Tn.mk k n x y [],ii,false)=(0,true):=by subst ek;simp[cost,bh]
     simp only[hc,aK];exact .inl ⟨zdt ak,rfl⟩
    |true=>
     have hc:cost (Tn.mk k n x y [],ii,true)=(1,false):=by subst ek;simp[cost,Ei]
     have hps0:ps=[]:=hps;subst hps0;simp only[aK,bn,List.nil_append,hc,zaO];refine .inr ⟨_,rfl, ?_⟩;have:=ih us rs rows rws pre (room - 1) ak ak hU hR ha hIr ak ak ak;have hdd:decide (((1+(fbs (us++rs)).1:Nat):Int)<=room)=decide (((fbs (us++rs)).1:Int)<=room - 1):=by rw[Bool.eq_iff_iff,decide_eq_true_eq,decide_eq_true_eq];omega
     rw[hdd];exact this
   |false=>
   cases h3:k==3 with
   |true=>
    have ek:k=3:=by simpa using h3
    have hf:f=false:=by
     cases hf:f with
     |false=>rfl
     |true=>rw[ar5 hf] at h3;cases h3
    subst hf;have hc:cost (Tn.mk k n x y ks,ii,false)=(0,true):=by subst ek;simp[cost,bh]
    simp only[hc,aK];exact .inl ⟨zdt ak,rfl⟩
   |false=>
    simp only[bn];refine .inr ⟨_,rfl, ?_⟩;have hIk:=hI.kids h1 h2 h3 ii f hfl;have:=ih (ks.map (λt=>(t,ii,f))++us) rs (ps++rows) rws pre room (by rw[ad6,kU];omega) ak (Xk hps hU) hR ha (by rw[NI];exact hIk) ak ak (by rw[ad6,UM];omega);have hcf:fbs (ks.map (λt=>(t,ii,f)))=cost (Tn.mk k n x y ks,ii,f):=by
     cases hf:f with
     |true=>rw[hf] at hfl;obtain⟨s,hs⟩:=hfl rfl;have hs':=hs;rw[acJ h1 h2 h3] at hs';rw[ar2 ii ks s hs',cost,hs];rfl
     |false=>rw[au7,cost,bh,h1,h2,h3];simp
    rw[NI,akr,hcf] at this;exact this
  cases us with
  |cons p us=>
   obtain⟨r,rows',rfl,hp,hU'⟩:=hU;obtain⟨t1,t2⟩:=top p us rs rows' rws pre r hm hp hU' hR ha hI htx _ rfl;cases hb:M.gU (dD o l) all.reverse (room,(rws.length:Int),(r::rows').reverse) with
   |none=>exact absurd hb t2
   |some q=>
    rcases t1 q hb with⟨h1,rfl⟩|⟨s,rfl,h1⟩
    ·exact .inl ⟨h1,aY hb⟩
    ·rw[cu hb];exact h1
  |nil=>
   rw[RJ] at hU;subst hU;cases rs with
   |nil=>rw[RJ] at hR;subst hR;refine .inl ⟨zdt (by simpa[fbs] using hr),aY ?_⟩;simp only[jI,M.gU,M.oz,zdt (show room>=0 from hr)];rfl
   |cons p rs=>
    obtain⟨r,ak6,rfl,hp,hR'⟩:=hR;have a7B:=aaW rs;have hrl:=PO hR';have hm':sizes (FT [p])+sizes (FT rs)<=m+1:=by simp only[FT,RQ,List.map_nil,sizes] at hm|-;omega
    have a6H:vg (FT [p])+vg (FT rs)<=20000000000000:=by simp only[FT,RQ,List.map_nil,vg] at htx|-;omega
    obtain⟨t1,t2⟩:=top p [] rs [] ak6 (pre++[r]) r hm' hp rfl hR' (by rw[ha];simp) hI a6H _ rfl;have hsame:M.gU (dD o l) all.reverse (room,(((r::ak6).length:Nat):Int),[].reverse)=M.gU (dD o l) all.reverse (room,(ak6.length:Int),[r].reverse):=by
     obtain⟨b,hu,rfl⟩:=hp;have aF1:all.reverse[ak6.length]? =some [.int .i64 ((b+sizes p.1.kids:Nat):Int),.int .i64 p.2.1,.bool p.2.2]:=by rw[ha,List.reverse_append,List.reverse_cons,NI,List.getElem?_append_right (by simp)];simp
     generalize hR:[D.int .i64 ((b+sizes p.1.kids:Nat):Int),.int .i64 p.2.1,.bool p.2.2]=R at aF1|-;have c0:bK .i64 R 0=some ((b+sizes p.1.kids:Nat):Int):=by rw[<-hR];rfl
     have c1:bK .i64 R 1=some p.2.1:=by rw[<-hR];rfl
     have c2:RU R 2=some p.2.2:=by rw[<-hR];rfl
     have hge:decide (room>=0)=true:=zdt hr;have hl1:(((R::ak6).length:Nat):Int)=(ak6.length:Int)+1:=by simp
     have hz:(((ak6.length:Int)+1)==0)=false:=KL.2 ak;have hw1:i64.wrap ((ak6.length:Int)+1 - 1)=(ak6.length:Int):=(aB ak ak).trans ak;have hb1:Nat.ble ((0+1) * 24) 140737488355328=true:=aN ak;have hb2:Nat.ble (0+1) 140737488355328=true:=aN ak;have hz0:(((0:Nat):Int)==0)=true:=rfl;have hz1:(((1:Nat):Int)==0)=false:=rfl;have hq0:i64.wrap (((1:Nat):Int) - 1)=((0:Nat):Int):=(aB ak ak).trans ak;have hg0:([R]:au)[0]? =some R:=rfl;simp only[jI,M.gU,M.oz,List.reverse_nil,List.reverse_singleton,hge,aK,bn,hl1,hz,hz0,hz1,hw1,bC,aF1,sb,c0,c1,c2,List.nil_append,uM,IU,hb1,hb2,hR,hq0,hg0,Xm]
    cases hb:M.gU (dD o l) all.reverse (room,(ak6.length:Int),[r].reverse) with
    |none=>exact absurd hb t2
    |some q=>
     rcases t1 q hb with⟨h1,rfl⟩|⟨s,rfl,h1⟩
     ·exact .inl ⟨h1,aY (hsame.trans hb)⟩
     ·rw[cu (hsame.trans hb)];exact h1
def aAK(ii:Int)(s:aC)(h0:0<=ii)(h1:ii<=200000)(hs:s.length<=80000000000000):M.wo (s.map byteRow) ii=some ((brk s ii).map byteRow):=by
 obtain⟨n,rfl⟩:∃n:Nat,ii=n:=⟨ii.toNat,ak⟩
 have hloop:=iY (b:=M.GV (n:Int)) (t:=((n:Int),(s++(10::List.replicate n 32)).map byteRow)) (λi=>((i:Int),(s++(10::List.replicate i 32)).map byteRow)) n
  (by
   intro i hi;have hlen:((s++(10::List.replicate i (32:UInt8))).map byteRow).length=s.length+(i+1):=by simp
   have e32:[[D.int .u8 32]]=[byteRow 32]:=rfl;simp only[M.GV,M.Ac,hlen];rw[zdt ak,aK,aN ak,aK,aN ak,aK,aB ak ak,e32,<-List.map_singleton,<-List.map_append,NI,Yr,<-List.replicate_succ'];rfl)
  (by simp only[M.GV,M.Ac];rw[pq ak,bn]) 0 (Nat.zero_le _)
 have e10:s.map byteRow++[[D.int .u8 10]]=(s++(10::List.replicate 0 32)).map byteRow:=by simp[byteRow]
 rw[oQ] at hloop;simp only[M.wo,M.OG,zaQ,M.LP,e10,hloop,ah,KJ,aK];rw[aN ak,aK,aN ak,aK];rfl
section
variable {l:List Nd} {o:Bool} {b:Nat} {k n i w col:Int} {x y:aC} {ks:List Tn} {f:Bool} {rs out:au} {L:List Bool}
def aI9(hl:rs.length<=1000000000)(hu:Lies l b (.mk k n x y ks))(hf:aA rs.reverse=true)(hL:L[b+sizes ks]? =some (akq (.mk k n x y ks)))(u:Tn)(h5:k=5->ks=[u]):M.zy (dD o l) w (Zc L) (col,out,([.int .i64 ((b+sizes ks:Nat):Int),.int .i64 i,.bool f]::rs).reverse)=
  (bif k==1 then(bif((out.length+(x.map byteRow).length) * 1).ble 140737488355328 then(bif(out.length+(x.map byteRow).length).ble 140737488355328 then some (.inl (i64.wrap (col+(x.length:Int)),out++x.map byteRow,rs.reverse)) else none) else none) else
   bif k==2||k==3 then(bif f then(bif((out.length+1) * 1).ble 140737488355328 then(bif(out.length+1).ble 140737488355328 then some (.inl (i64.wrap (col+1),out++[[D.int IntKind.u8 32]],rs.reverse)) else none) else none) else
    (bif aA out then((M.wo out i).bind λr=>some (.inl (i,r,rs.reverse))) else none)) else
   bif k==5 then(bif f then((M.kW rs.reverse k n x (encI (ends ks b)) i true).bind λr=>some (.inl (col,out,r))) else
    (bif !(akq (.mk k n x y ks)) then((M.yO (dD o l) rs.reverse ((b+sizes u.kids:Nat):Int) i true (i64.wrap (w - col))).bind λq=>(M.kW rs.reverse k n x (encI (ends ks b)) i q).bind λr=>some (.inl (col,out,r))) else
     ((M.kW rs.reverse k n x (encI (ends ks b)) i false).bind λr=>some (.inl (col,out,r))))) else
   ((M.kW rs.reverse k n x (encI (ends ks b)) (i64.wrap (i+n)) f).bind λr=>some (.inl (col,out,r)))):=by
 have hroot:l[b+sizes ks]? =some ⟨k,n,x,y,ends ks b⟩:=hu.root;generalize hR:[D.int .i64 ((b+sizes ks:Nat):Int),.int .i64 i,.bool f]=R;have c0:bK .i64 R 0=some ((b+sizes ks:Nat):Int):=by rw[<-hR];rfl
 have c1:bK .i64 R 1=some i:=by rw[<-hR];rfl
 have c2:RU R 2=some f:=by rw[<-hR];rfl
 have cb:∀z:Bool,RU [D.bool z] 0=some z:=λ_=>rfl
 have hlen:((R::rs).reverse.length:Int)=(rs.length:Int)+1:=by simp
 have aAE:i64.wrap ((rs.length:Int)+1 - 1)=(rs.length:Int):=(aB ak ak).trans ak;have hget:(R::rs).reverse[rs.length]? =some R:=by rw[List.reverse_cons];exact aho rs R
 have htk:(R::rs).reverse.take rs.length=rs.reverse:=by rw[List.reverse_cons];exact List.take_left' (by simp)
 have hd:(decide ((0:Int)<=(rs.length:Int)) && decide ((rs.length:Int)<=(rs.length:Int)+1))=true:=by simp;omega
 have hgt:decide ((rs.length:Int)+1>0)=true:=zdt ak;simp only[M.zy,M.LQ,M.Jt,hlen,aAE,hgt,bC,Xm,hget,sb,c0,c1,c2,hd,aK,htk,vN,hroot,O9,cD0,cD1,cD2,cD3,hf,ar1,hL,cb];cases h1:k==1 with
 |true=>rfl
 |false=>
 cases h2:k==2 with
 |true=>rfl
 |false=>
 cases h3:k==3 with
 |true=>rfl
 |false=>
 cases h5':k==5 with
 |false=>rfl
 |true=>
  have hks:=h5 (by simpa using h5');subst hks;have e0:idx (encI (ends [u] b)) 0=some [D.int .i64 ((b+sizes u.kids:Nat):Int)]:=by have:=bC (encI (ends [u] b)) 0;rw[oQ] at this;rw[this,lC,YV (ks:=[u]) (j:=0) (t:=u) rfl];rfl
  cases f with
  |true=>rfl
  |false=>
   cases akq (.mk k n x y [u]) with
   |true=>rfl
   |false=>simp only[bn,Bool.not_false,aK,e0,ah,KT,Bool.or_self]
end
def ak7(st:List Pc):Prop:=∃a c,st=a++c/\(∀p,p∈a->p.2.2=true)/\∀p,p∈c->p.2.2=false
def ak7.aYi{t:Tn}{i:Int}{st:List Pc}(h:ak7 ((t,i,false)::st)):∀p,p∈st->p.2.2=false:=by
 obtain⟨a,c,e,h1,h2⟩:=h;cases a with
 |nil=>rw[List.nil_append] at e;intro p hp;exact h2 p (by rw[<-e];exact zmm _ hp)
 |cons q a=>rw[Yr] at e;cases e;exact absurd (h1 _ zmf) (by simp)
def ak7.tail{p:Pc}{st:List Pc}(h:ak7 (p::st)):ak7 st:=by
 obtain⟨a,c,e,h1,h2⟩:=h;cases a with
 |nil=>rw[List.nil_append] at e;exact⟨[],st,rfl,(λ_ h=>by cases h),λq hq=>h2 q (by rw[<-e];exact zmm _ hq)⟩
 |cons q a=>rw[Yr] at e;cases e;exact⟨a,c,rfl,λq hq=>h1 q (zmm _ hq),h2⟩
def ak7.kids{t:Tn}{i:Int}{f:Bool}{st:List Pc}(h:ak7 ((t,i,f)::st))(ks:List Tn)(j:Int)(g:Bool)(hg:f=true->g=true):ak7 (ks.map (λt=>(t,j,g))++st):=by
 cases g with
 |true=>
  obtain⟨a,c,e,h1,h2⟩:=h.tail;refine⟨ks.map (λt=>(t,j,true))++a,c,by rw[e,NI],λp hp=> ?_,h2⟩;rcases List.mem_append.1 hp with hp|hp
  ·obtain⟨t,_,rfl⟩:=List.mem_map.1 hp;rfl
  ·exact h1 p hp
 |false=>
  cases f with
  |true=>exact absurd (hg rfl) (by simp)
  |false=>
   have hn:=h.aYi;refine⟨[],ks.map (λt=>(t,j,false))++st,rfl,(λ_ h=>by cases h),λp hp=> ?_⟩;rcases List.mem_append.1 hp with hp|hp
   ·obtain⟨t,_,rfl⟩:=List.mem_map.1 hp;rfl
   ·exact hn p hp
structure atE(l:List Nd)(m:Nat)(st:List Pc)(rows:au)(s:aC)(col:Int):Prop where
 sz:sizes (FT st)<=m
 is:RJ l st rows
 inv:aAD st
 rin:RInv st
 fin:ak7 st
 pos:0<=col
 len:s.length+(vg (FT st)+m * 200001)<=40000000000000
 col:col+(vg (FT st)+m * 200001)<=40000000000000
 tx:vg (FT st)<=10000000000000
def atE.rest{l:List Nd}{m:Nat}{k n:Int}{x y:aC}{ks:List Tn}{i:Int}{f:Bool}{st:List Pc}{r:Row}{rs:au}{s s':aC}{col col':Int}(h:atE l (m+1) ((.mk k n x y ks,i,f)::st) (r::rs) s col)
  (h0:0<=col') (h1:s'.length<=s.length+(x.length+200001)) (h2:col'<=col+(x.length+200001)):atE l m st rs s' col':=by
 obtain⟨a1,⟨r',rs',e,_,a2⟩,a3,b1,b2,a4,a5,a6,a7⟩:=h;cases e;simp only[FT,RQ,sizes,Tn.size,vg,txs] at a1 a5 a6 a7;refine⟨?_,a2,λp hp=>a3 p (zmm _ hp),λp hp=>b1 p (zmm _ hp),b2.tail,h0, ?_, ?_, ?_⟩<;>simp only[FT]<;>omega
def atE.kids{l:List Nd}{m:Nat}{k n:Int}{x y:aC}{ks:List Tn}{i:Int}{f:Bool}{st:List Pc}{r:Row}{rs ps:au}{s:aC}{col:Int}(h:atE l (m+1) ((.mk k n x y ks,i,f)::st) (r::rs) s col)
  {j:Int} {g:Bool} (h1:i<=j) (h2:j<=i+40) (hp:RJ l (ks.map λt=>(t,j,g)) ps) (k1:(k==1)=false) (k2:(k==2)=false) (k3:(k==3)=false) (hg:g=true->∃s,Ei (.mk k n x y ks)=some s) (hfg:f=true->g=true):
  atE l m (ks.map (λt=>(t,j,g))++st) (ps++rs) s col:=by
 obtain⟨a1,⟨r',rs',e,_,a2⟩,a3,b1,b2,a4,a5,a6,a7⟩:=h;cases e;simp only[FT,RQ,sizes,Tn.size,vg,txs] at a1 a5 a6 a7;refine⟨?_,Xk hp a2,a3.kids j g h1 h2,b1.kids k1 k2 k3 j g hg,b2.kids ks j g hfg,a4, ?_, ?_, ?_⟩<;>rw[ad6]<;>simp only[FT,kU,UM]<;>omega
def aEo(T:Tn)(o:Bool)(hT:T.size<=4000)(L:List Bool)(hL:aAG (T.flat 0) L T.size)(w:Int)(hw0:0<=w)(hw1:w<=10000):∀(m:Nat) (st:List Pc) (rows:au) (s:aC) (col:Int),m<=4000->atE (T.flat 0) m st rows s col->
  ∃col',dM (M.zy (dD o (T.flat 0)) w (Zc L)) (col,s.map byteRow,rows.reverse)=some (col',(lay w m st s col).map byteRow,[]):=by
 intro m;induction m with
 |zero=>
  intro st rows s col hmb hH;cases st with
  |cons p st=>have:=p.1.size_pos;have:=hH.sz;simp only[FT,RQ,sizes] at this;omega
  |nil=>have hP:=hH.is;rw[RJ] at hP;subst hP;exact⟨col,aY rfl⟩
 |succ m ih=>
  intro st rows s col hmb hH;cases st with
  |nil=>have hP:=hH.is;rw[RJ] at hP;subst hP;exact⟨col,aY rfl⟩
  |cons p st=>
   obtain⟨t,i,f⟩:=p;obtain⟨k,n,x,y,ks⟩:=t;obtain⟨r,rs,rfl,⟨b,hu,rfl⟩,hPs⟩:=hH.is;obtain⟨hd0,hi0,hi1⟩:=hH.inv _ zmf;obtain⟨_,aAL⟩:=hH.rin _ zmf;simp only[Tn.kids] at hd0 hi0 hi1 hu aAL hH|-;have hsz:=hH.sz;have hln:=hH.len;have hcl:=hH.col;have htx:=hH.tx;have hps:=hH.pos;have hrl:=PO hPs;have aI5:=aaW st;have aI7:=jC ks;have hlt:=hu.lt;rw[T.flat_length,Tn.size] at hlt;have e1:FT ((Tn.mk k n x y ks,i,f)::st)=Tn.mk k n x y ks::FT st:=rfl;rw[e1,sizes,Tn.size] at hsz;rw[e1,vg,txs] at hln hcl htx;rw[Tn.size] at hi1;have hd1:=hd0;rw[dOk,MS] at hd1;have hLb:=hL.2 b _ hu (by simp only[Tn.kids];omega);simp only[Tn.kids] at hLb;have aYj:(T.flat 0).length<=90000000:=by rw[T.flat_length];omega
   obtain⟨u,hu5⟩:∃u,k=5->ks=[u]:=by
    cases ks with
    |nil=>exact⟨.mk 0 0 [] [] [],λe=>absurd (aAF hd1.2 e) (by simp)⟩
    |cons v vs=>exact⟨v,λe=>by have:=aAF hd1.2 e;cases vs with
      |nil=>rfl
      |cons _ _=>simp at this⟩
   have hb:=aI9 (o:=o) (i:=i) (w:=w) (col:=col) (f:=f) (rs:=rs) (out:=s.map byteRow) (L:=L) ak hu (acI hPs) hLb u hu5;have hkids:=fun(ii:Int) (ff:Bool)=>au6 hu n x k ii ff hPs aYj ak
   generalize ([.int .i64 ((b+sizes ks:Nat):Int),.int .i64 i,.bool f]:Row)=R at hb hH|-;have hbr:=aAK i s hi0 ak ak;have hbl:(brk s i).length<=s.length+(x.length+200001):=by rw[brk,qK,nS,List.length_replicate];omega
   simp only[KJ,aK,zaQ] at hb;rw[lay];cases h1:k==1 with
   |true=>rw[h1,aK,aN ak,aK,aN ak,aK,aB ak ak,<-List.map_append] at hb;rw[cu hb,aK];exact ih st rs (s++x) _ ak (hH.rest ak (by rw[qK];omega) ak)
   |false=>
   rw[h1,bn] at hb;rw[bn];cases h23:(k==2||k==3) with
   |true=>
    rw[h23,aK] at hb;cases hf:f with
    |true=>
     have h2:(k==2)=true:=by
      cases h2:k==2 with
      |true=>rfl
      |false=>
       rw[h2,Bool.false_or] at h23;have ek:k=3:=by simpa using h23
       obtain⟨s',hs'⟩:=aAL hf;subst ek;cases hs'
     have e32:[[D.int .u8 32]]=[byteRow 32]:=rfl;rw[hf,aK,aN ak,aK,aN ak,aK,aB ak ak,e32,<-List.map_singleton,<-List.map_append] at hb;rw[cu hb,h2,Bool.and_self,aK];rw[hf] at hH;exact ih st rs (s++[32]) _ ak (hH.rest ak (by rw[qK,IU];omega) ak)
    |false=>rw[hf,bn,hbr,ah] at hb;rw[cu hb,Bool.and_false,bn,aK];rw[hf] at hH;exact ih st rs (brk s i) i ak (hH.rest hi0 hbl ak)
   |false=>
   rw[h23,bn] at hb;obtain⟨h2,h3⟩:(k==2)=false/\(k==3)=false:=by simpa using h23
   rw[h2,Bool.false_and,bn,bn];have go:∀(j:Int) (g:Bool),i<=j->j<=i+40->(g=true->∃s,Ei (.mk k n x y ks)=some s)->(f=true->g=true)->∀ps,RJ (T.flat 0) (ks.map λt=>(t,j,g)) ps->M.zy (dD o (T.flat 0)) w (Zc L) (col,s.map byteRow,(R::rs).reverse)=some (.inl (col,s.map byteRow,(ps++rs).reverse))->
     ∃col',dM (M.zy (dD o (T.flat 0)) w (Zc L)) (col,s.map byteRow,(R::rs).reverse)=some (col',(lay w m (ks.map (λt=>(t,j,g))++st) s col).map byteRow,[]):=by
    intro j g hj1 hj2 hg hfg ps hps hstep;rw[cu hstep];exact ih _ (ps++rs) s col ak (hH.kids hj1 hj2 hps h1 h2 h3 hg hfg)
   cases h4:k==4 with
   |true=>
    have ek:k=4:=by simpa using h4
    have h5:(k==5)=false:=by rw[ek];rfl
    rw[ek] at hd1;obtain⟨hn0,hn1⟩:=au5 hd1.2;obtain⟨ps,hps,hpush⟩:=hkids (i+n) f;rw[h5,bn,aB ak ak,hpush,ah] at hb;rw[aK];exact go (i+n) f ak ak aAL (λe=>e) ps hps hb
   |false=>
   rw[bn];cases h5:k==5 with
   |true=>
    rw[h5,aK] at hb;rw[aK];have ek:k=5:=by simpa using h5
    cases hf:f with
    |true=>obtain⟨ps,hps,hpush⟩:=hkids i true;rw[hf,aK,hpush,ah] at hb;rw[Bool.true_or];exact go i true ak ak (λ_=>aAL hf) (λ_=>rfl) ps hps hb
    |false=>
     rw[hf,bn] at hb;rw[Bool.false_or];have hks:=hu5 ek;have ar5:=arZ (.mk k n x y ks) hd0;rw[<-ar5] at hb;cases hx:Ei (.mk k n x y ks) with
     |none=>
      rw[hx] at hb;obtain⟨ps,hps,hpush⟩:=hkids i false;simp only[Option.isNone_none,zaO,bn,hpush,ah] at hb;have aJa:akh w col (.mk k n x y ks) st=false:=by rw[akh,hx]
      rw[aJa];exact go i false ak ak (λe=>by cases e) (λe=>by rw[hf] at e;cases e) ps hps hb
     |some a=>
      rw[hx] at hb;have hal:=ad4 _ a hx;rw[txs,Tn.size] at hal;have hn:=ak7.aYi (t:=.mk k n x y ks) (i:=i) (st:=st) (by have:=hH.fin;rw[hf] at this;exact this);have hxk:=hx;rw[acJ h1 h2 h3,hks] at hxk;have hfu:∃a',Ei u=some a'/\a'.length=a.length:=by
       rw[AP,AP] at hxk;cases hq:Ei u with
       |none=>rw[hq] at hxk;cases hxk
       |some a'=>rw[hq] at hxk;cases hxk;exact⟨a',rfl,by simp⟩
      obtain⟨a',ha',hla⟩:=hfu;have hsu:sizes ks=u.size:=by rw[hks];simp[sizes]
      have htu:vg ks=txs u:=by rw[hks];simp[vg]
      have hmu:u∈ks:=by rw[hks];exact zmf
      have a6I:RJ (T.flat 0) [(u,i,true)] [[.int .i64 ((b+sizes u.kids:Nat):Int),.int .i64 i,.bool true]]:=by have:=Lies.SQ hu (j:=0) (t:=u) (by rw[hks];rfl);exact⟨_,[],rfl,⟨b,by simpa[sizes] using this,rfl⟩,rfl⟩
      have aAC:=akl (FT st);have hfit:=aEn (l:=T.flat 0) (o:=o) aYj (all:=rs) ak (sizes (FT [(u,i,true)])+sizes (FT st)) [(u,i,true)] st _ rs [] (w - col) (zaP _) (by simp only[FT,RQ,List.map_nil,sizes];simp only[FT] at hsz;omega) a6I hPs rfl
       (λp hp=>by
        rcases List.mem_append.1 hp with hp|hp
        ·simp only[List.mem_singleton] at hp;subst hp;exact⟨ad5 hd1.1 hmu,λ_=>⟨a',ha'⟩⟩
        ·exact hH.rin p (zmm _ hp)) ak ak (by simp only[FT,RQ,List.map_nil,vg];simp only[FT] at htx;omega)
      have hfb:(fbs ([(u,i,true)]++st)).1=a.length+(WC (FT st)).1:=by rw[List.singleton_append,fbs,ar4 st hn];simp[cost,ha',hla]
      rw[hfb] at hfit;have aJa:akh w col (.mk k n x y ks) st=decide (((a.length+(WC (FT st)).1:Nat):Int)<=w - col):=by rw[akh,hx];simp only[Int.natCast_add];rfl
      have hrun:M.yO (dD o (T.flat 0)) rs.reverse ((b+sizes u.kids:Nat):Int) i true (w - col)=some (akh w col (.mk k n x y ks) st):=by
       rw[aJa];simp only[M.yO,M.QM,List.length_reverse,M.OI];rw[List.reverse_singleton] at hfit;rcases hfit with⟨q1,q2⟩|⟨q1,s',q2⟩
       ·rw[q2,q1];rfl
       ·rw[q2,q1];rfl
      obtain⟨ps,hps,hpush⟩:=hkids i (akh w col (.mk k n x y ks) st);simp only[Option.isNone_some,Bool.not_false,aK] at hb;rw[aB ak ak,hrun,ah,hpush,ah] at hb;exact go i _ ak ak (λ_=>⟨a,hx⟩) (λe=>by rw[hf] at e;cases e) ps hps hb
   |false=>have hn0:=aI8 hd1.2 h1 h2 h3 h4 h5;rw[h5,bn,hn0,Int.add_zero,aB ak ak] at hb;rw[bn];obtain⟨ps,hps,hpush⟩:=hkids i f;rw[hn0] at hpush;rw[hpush,ah] at hb;exact go i f ak ak aAL (λe=>e) ps hps hb
def akt{t:Tn}{o:Bool}(w:Int)(h:t.size<=90000000)(hx:∀n,n∈t.flat 0->n.text.length<=1000000000):M.wU (dD o (t.flat 0)) w=some (rnR t w):=by
 simp only[M.wU,M.NT,ak5 (o:=o) h hx,ah,Rx,rnR,render];have aAC:Nat.ble t.size 4000=decide (t.size<=4000):=by rw[Bool.eq_iff_iff,decide_eq_true_eq];exact Iff.of_eq Nat.ble_eq
 rw[aAC,Bool.and_comm (decide (t.size<=4000))];cases hd:(dOk t) && decide (t.size<=4000) with
 |false=>rfl
 |true=>
  cases hw:decide (0<=w) && decide (w<=10000) with
  |false=>rfl
  |true=>
   simp only[MS,decide_eq_true_eq] at hd hw;have htx:=atC 1000000000 t 0 hx;obtain⟨L,hL,hLr⟩:=aAI (o:=o) h;have hp:=t.size_pos;have hs:=t.vk;simp only[zaO,bn,Bool.and_self,aK,flR,hLr,ah,jv,t.flat_length];obtain⟨col',hl⟩:=aEo t o hd.2 L hL w hw.1 hw.2 t.size [(t,0,false)] [[.int .i64 ((0+sizes t.kids:Nat):Int),.int .i64 0,.bool false]] [] 0 hd.2
    ⟨by simp[FT,sizes],⟨_,[],rfl,⟨0,Lies.whole t,rfl⟩,rfl⟩,(λp hp=>by simp only[List.mem_singleton] at hp;subst hp;refine⟨hd.1,Int.le_refl 0, ?_⟩;simp only;omega),(λp hp=>by simp only[List.mem_singleton] at hp;subst hp;exact⟨hd.1,λe=>by cases e⟩),
     ⟨[],_,rfl,(λ_ h=>by cases h),(λp hp=>by simp only[List.mem_singleton] at hp;subst hp;rfl)⟩,Int.le_refl 0,
     by simp only[FT,RQ,List.map_nil,vg,uM];omega,by simp only[FT,RQ,List.map_nil,vg];omega,by simp only[FT,RQ,List.map_nil,vg];omega⟩
   rw[List.reverse_singleton] at hl;have e0:([]:aC).map byteRow=[]:=rfl;have ew:i64.wrap ((t.size:Int) - 1)=((0+sizes t.kids:Nat):Int):=(aB ak ak).trans ak;rw[e0] at hl;simp only[ew,M.QN,hl,ah,bytesOf_map]
def agR(w:Int):M.wU [] w=some ([],false):=by simp only[M.wU,M.NT,amF.2,ah];rfl
def aYk(r:List Nd):Prop:=r=[]\/∃d:Tn,r=d.flat 0/\d.size<=90000000/\WJ d
def aEp{r:List Nd}(hr:aYk r)(w:Int):∃q:aC×Bool,q.1.length<=3000/\M.yP (dD false r) w=some q/\M.sU (dD false r) w=some q:=by
 have key:∀p:aC×Bool,M.wU (dD false r) w=some p->M.xg (dD false r) w=some p->∃q:aC×Bool,q.1.length<=3000/\M.yP (dD false r) w=some q/\M.sU (dD false r) w=some q:=by
  intro p h1 h2;simp only[M.yP,M.QO,M.sU,M.MJ,h1,h2,ah];cases hp:p.2 with
  |false=>exact⟨([],false),by simp,rfl,rfl⟩
  |true=>
   by_cases hl:(p.1.length:Int)>3000
   ·rw[zdt hl];exact⟨([],false),by simp,rfl,rfl⟩
   ·rw[pq hl];exact⟨(p.1,true),by simp only;omega,rfl,rfl⟩
 rcases hr with rfl|⟨d,rfl,h1,h2⟩
 ·exact key _ (agR w) (agQ w)
 ·exact key _ (akt w h1 (ajY d 0 h2)) (ako w h1 (ajY d 0 h2))
def aAM{l:List Nd}(h:Ok l)(w:Int):∃q:aC×Bool,q.1.length<=3000/\M.JY (aZ false l) w=some q/\M.J4 (aZ false l) w=some q:=by
 have key:∃r,aYk r/\M.oN (aZ false l)=some (dD true r)/\M.oO (aZ false l)=some (dD true r):=by
  rcases ak3 h with h1|⟨T,hP,h1⟩
  ·exact⟨[],.inl rfl,h1⟩
  ·have:=akg hP;refine⟨(Ym T).flat 0,.inr ⟨_,rfl,ak, ?_⟩,h1⟩;rw[Ym,yV];exact aj9 hP.its
 obtain⟨r,hr,h1,h2⟩:=key;obtain⟨q,hq,h3,h4⟩:=aEp hr w;refine⟨q,hq, ?_, ?_⟩
 ·simp only[M.JY,M.Vs,ah,h1,arD,h3]
 ·simp only[M.J4,M.Vy,ah,h2,arD,h4]
def Va(c:aC):List (aC)->List (aC)
 |[]=>[c]
 |h::t=>(c++h)::t
def nR:aC->List (aC)
 |[]=>[[]]
 |c::l=>if c=10 then[]::nR l else Va [c] (nR l)
def amK(a b:aC)(l:List (aC)):Va a (Va b l)=Va (a++b) l:=by cases l<;>simp[Va]
def ae3{l:List (aC)}(h:l≠[]):Va [] l=l:=by
 cases l with
 |nil=>exact absurd rfl h
 |cons x l=>rfl
def WE:∀l,nR l≠[]
 |[]=>by simp[nR]
 |c::l=>by
  rw[nR];split
  ·simp
  ·cases h:nR l<;>simp[Va]
def Xl:∀(a b:aC),(10:UInt8) ∉ a->nR (a++b)=Va a (nR b)
 |[],b,_=>(ae3 (WE b)).symm
 |c::a,b,h=>by
  have hc:¬c=10:=λe=>h (by simp[e])
  rw[Yr,nR,if_neg hc,Xl a b (λhx=>h (by simp[hx])),amK];rfl
def aaH:∀l,(nR l).length<=l.length+1
 |[]=>by simp[nR]
 |c::l=>by
  have:=aaH l;rw[nR];split
  ·simp only[nS];omega
  ·cases h:nR l with
   |nil=>simp[Va]
   |cons x t=>rw[h] at this;simp only[Va,nS] at this|-;omega
def amL:∀(k:Nat) (s:aC),s.count 10<=k->Lib.splitK [10] 0 k s=nR s
 |0,s,h=>by
  have hn:(10:UInt8) ∉ s:=λhx=>by have:=List.count_pos_iff.2 hx;omega
  have:=Xl s [] hn;rw[List.append_nil] at this;rw[this,Lib.splitK];simp[nR,Va]
 |k+1,s,h=>by
  have hge:=Lib.indexByte_ge s 10;rw[Lib.splitK,Lib.index_one]
  by_cases hm:Lib.indexByte s 10= -1
  ·rw[if_pos (by rw[hm];rfl)];have hn:(10:UInt8) ∉ s:=λhx=>by obtain⟨i,hi⟩:=List.mem_iff_getElem?.1 hx;exact Lib.indexByte_none hm i hi
   have:=Xl s [] hn;rw[List.append_nil] at this;rw[this];simp[nR,Va]
  ·rw[if_neg (by simpa using hm)];obtain⟨i,hi⟩:∃i:Nat,Lib.indexByte s 10=i:=⟨(Lib.indexByte s 10).toNat,ak⟩
   obtain⟨h1,h2⟩:=Lib.indexByte_some hi;have hil:=(PU.1 h1).1;rw[hi,Xm,Nat.add_zero,IU];have hs:s=s.take i++10::s.drop (i+1):=by
    have h3:s[i]=10:=by have:=List.getElem?_eq_getElem hil;rw[this] at h1;exact Option.some.inj h1
    rw[<-h3,<-List.drop_eq_getElem_cons hil,List.take_append_drop]
   have hn:(10:UInt8) ∉ s.take i:=λhx=>by obtain⟨j,hj⟩:=List.mem_iff_getElem?.1 hx;have hjl:=(PU.1 hj).1;rw[XE] at hjl;rw[List.getElem?_take,if_pos ak] at hj;exact h2 j ak hj
   have hc:(s.drop (i+1)).count 10<=k:=by have:=congrArg (List.count 10) hs;rw[List.count_append,List.count_cons] at this;simp at this;omega
   rw[amL k _ hc]
   conv=>rhs;rw[hs]
   rw[Xl _ _ hn,nR,if_pos rfl];simp[Va]
def awG(s:aC):acn s [10]=nR s:=by rw[acn,Lib.splitB_data];refine amL _ _ ?_;show s.count 10<=Lib.count s [10];rw[Lib.count_one];exact zaP _
def Zd(s:aC):List (aC):=if(nR s).getLast? =some [] then(nR s).dropLast else nR s
@[simp] theorem ae4(l:List (aC)):aA (encS l)=true:=by simp only[aA,encS,List.all_map,List.all_eq_true];intro x _;rfl
def awH(l:List (aC))(n:Nat):(encS l).take n=encS (l.take n):=by simp[encS,List.map_take]
def ar6(a b:List (aC)):encS a++encS b=encS (a++b):=by simp[encS]
def ar7(s:aC):(Zd s).length<=s.length+1:=by
 have:=aaH s;unfold Zd;split
 ·rw[List.length_dropLast];omega
 ·exact this
def agS(s:aC)(h:s.length<=1048576):M.BJ s=some (encS (Zd s)):=by
 have hlen:=aaH s;have hpos:=List.length_pos_iff.2 (WE s);have hb:Nat.blt s.length 4294967281=true:=by rw[Nat.blt_eq];omega
 have hi:(((nR s).length:Nat):Int) - 1=(((nR s).length - 1:Nat):Int):=ak;have hl:(nR s)[(nR s).length - 1]? =(nR s).getLast? :=(List.getLast?_eq_getElem?).symm;obtain⟨z,hz⟩:∃z,(nR s).getLast? =some z:=⟨_,List.getLast?_eq_some_getLast (WE s)⟩
 simp only[M.BJ,M.Rn,M.strings_Split,hb,awG,rG,IU];rw[show(true && Nat.ble 1 1)=true from rfl,aK,ah,rG,aB ak ak,hi,bC,Xm,Yc,hl,hz];simp only[O9,ah,cS0,awH,ae4,aK];rw[Zd,hz]
 by_cases hzz:z=[]
 ·subst hzz;rw[if_pos rfl,zdt ak,zdt ak,List.dropLast_eq_take];rfl
 ·rw[if_neg (by simpa using hzz)];have:(z==[])=false:=by simpa using hzz
  rw[this];rfl
def aAN{s:aC}{a b:Nat}(h1:a<=b)(h2:b<=s.length):cut s (a:Int) (b:Int)=some ((s.drop a).take (b - a)):=by rw[cut,zdt ak,zdt ak,zdt ak];rfl
def awI(a cur rest:aC):(a++cur++rest).drop a.length=cur++rest:=by rw[NI,List.drop_left]
def U2:∀(rest:aC) (a cur:aC) (out:List (aC)),(a++cur++rest).length<=1048576->out.length<=a.length->
  ∃(a' cur':aC) (out':List (aC)),M.uK (a++cur++rest) ((a.length:Int),((a.length+cur.length:Nat):Int),encS out)=some ((a'.length:Int),(((a++cur++rest).length:Nat):Int),encS out')/\
   a++cur++rest=a'++cur'/\out'++[cur']=out++Va cur (nR rest)/\out'.length<=a'.length
 |[],a,cur,out,h,ho=>by refine⟨a,cur,out, ?_,by simp,by simp[nR,Va],ho⟩;rw[M.uK];apply aY;simp only[jI,M.Ju,M.xJ,List.append_nil,qK];rw[pq ak,bn]
 |c::rest,a,cur,out,h,ho=>by
  have hl:(a++cur++c::rest).length=a.length+cur.length+(rest.length+1):=by simp;omega
  have hget:(a++cur++c::rest)[a.length+cur.length]? =some c:=by rw[<-qK,List.getElem?_append_right (zaP _),Nat.sub_self];rfl
  by_cases hc:c=10
  ·subst hc;have e:a++cur++10::rest=(a++cur++[10])++[]++rest:=by simp
   obtain⟨a',cur',out',h1,h2,h3,h4⟩:=U2 rest (a++cur++[10]) [] (out++[cur]) (by rw[<-e];exact h) (by simp;omega);rw[<-e] at h1 h2;refine⟨a',cur',out', ?_,h2, ?_,h4⟩
   ·rw[M.uK] at h1|-;rw[cu (s':=(((a++cur++[10]).length:Int),(((a++cur++[10]).length+([]:aC).length:Nat):Int),encS (out++[cur]))) ?_]
    ·exact h1
    ·simp only[jI,M.Ju,M.xJ,bC,hget,ah];rw[zdt ak,aK,show((((10:UInt8).toNat:Nat):Int)==10)=true from rfl,aK,aAN ak ak,ah,awI,Nat.add_sub_cancel_left,List.take_left,
      aB ak ak,aN (by rw[rG,IU];omega),aK,aN (by rw[rG,IU];omega),aK]
     simp[encS];omega
   ·rw[h3,nR,if_pos rfl,ae3 (WE rest)];simp[Va]
  ·have e:a++cur++c::rest=a++(cur++[c])++rest:=by simp
   obtain⟨a',cur',out',h1,h2,h3,h4⟩:=U2 rest a (cur++[c]) out (by rw[<-e];exact h) ho;rw[<-e] at h1 h2;refine⟨a',cur',out', ?_,h2, ?_,h4⟩
   ·rw[M.uK] at h1|-;rw[cu (s':=((a.length:Int),((a.length+(cur++[c]).length:Nat):Int),encS out)) ?_]
    ·exact h1
    ·have hne:(((c.toNat:Nat):Int)==10)=false:=by rw[KL];intro hx;apply hc;have:c.toNat=10:=ak;exact UInt8.toNat_inj.1 this
     simp only[jI,M.Ju,M.xJ,bC,hget,ah];rw[zdt ak,aK,hne,bn,aB ak ak];simp;omega
   ·rw[h3,nR,if_neg hc,amK]
def agT(s:aC)(h:s.length<=1048576):M.BF s=some (encS (Zd s)):=by
 obtain⟨a',cur',out',h1,h2,h3,h4⟩:=U2 s [] [] [] (by simpa using h) (by simp);simp only[List.nil_append,uM,Nat.add_zero,oQ] at h1 h2 h3;rw[ae3 (WE s)] at h3;have hl:s.length=a'.length+cur'.length:=by have:=congrArg List.length h2;rw[qK] at this;exact this
 simp only[jI,M.BF,M.QS];have h1':M.uK s (0,0,[])=_:=h1;rw[h1',ah];rw[Zd,<-h3,List.getLast?_append];simp only[List.getLast?_singleton,Option.some_or,List.dropLast_concat]
 by_cases hc:cur'=[]
 ·subst hc;rw[pq (by simp at hl;omega),bn,ae4,aK,if_pos rfl]
 ·have hp:=List.length_pos_iff.2 hc;rw[zdt ak,aK,aAN ak (zaP _),ah,if_neg (by simpa using hc)];have hd:(s.drop a'.length).take (s.length - a'.length)=cur':=by rw[h2,List.drop_left,List.take_of_length_le (by rw[qK];omega)]
  rw[hd,show[[D.str cur']]=encS [cur'] from rfl,ar6,ae4,rG,rG,IU];rw[aN ak,aK,aN ak,aK,aK]
def Ze{l:List Nd}(h:Ok l)(w:Int):∃n:Int, -1<=n/\n<=4000/\M.qp (aZ false l) w=some n/\M.jU (aZ false l) w=some n:=by
 obtain⟨q,hq,h1,h2⟩:=aAM h w;have h3:=agT q.1 ak;have h4:=agS q.1 ak;have hl:=ar7 q.1;simp only[M.qp,M.LU,M.jU,M.MK,h1,h2,ah];cases q.2 with
 |false=>exact⟨-1,ak,ak,rfl,rfl⟩
 |true=>exact⟨((Zd q.1).length:Int),ak,ak,by simp only[zaO,bn,h3,ah,rG],by simp only[zaO,bn,h4,ah,rG]⟩
def af4(l:List Nd)(m w:Int):Prop:=∃n:Int,M.jU (aZ false l) w=some n/\0<=n/\n<=m
def au8{l:List Nd}(h:Ok l)(m:Int):∀(k w:Nat),w+k=81->∃r:Int⊕Int,M.qg (aZ false l) m (w:Int)=some r/\M.pY (aZ false l) m (w:Int)=some r/\
  ((∃u:Nat,r=.inl (u:Int)/\w<=u/\u<=80/\af4 l m (u:Int)/\∀j:Nat,w<=j->j<u->¬af4 l m (j:Int))\/(∃x,r=.inr x/\∀j:Nat,w<=j->j<=80->¬af4 l m (j:Int)))
 |0,w,hw=>by
  refine⟨.inr (w:Int), ?_, ?_,.inr ⟨_,rfl,λj h1 h2=>by omega⟩⟩
  ·rw[M.qg];apply aY;simp only[M.EH,M.uG];rw[pq ak,bn]
  ·rw[M.pY];apply aY;simp only[M.EF,M.uF];rw[pq ak,bn]
 |k+1,w,hw=>by
  obtain⟨n,hn1,hn2,h1,h2⟩:=Ze h (w:Int);have hi:M.bJ n 0 m=some (decide (n>=0) && decide (n<=m)):=dL n 0 m;have hw1:i64.wrap ((w:Int)+1)=((w+1:Nat):Int):=by rw[aB ak ak];omega
  by_cases hb:n>=0/\n<=m
  ·refine⟨.inl (w:Int), ?_, ?_,.inl ⟨w,rfl,zaP _,ak,⟨n,h2,hb.1,hb.2⟩,λj h1 h2=>by omega⟩⟩
   ·rw[M.qg];apply aY;simp only[M.EH,M.uG,h1,ah];rw[zdt ak,aK,zdt hb.1,aK,zdt hb.2,aK]
   ·rw[M.pY];apply aY;simp only[M.EF,M.uF,h2,hi,ah];rw[zdt ak,aK,zdt hb.1,zdt hb.2];rfl
  ·obtain⟨r,r1,r2,hr⟩:=au8 h m k (w+1) ak;have hnw:¬af4 l m (w:Int):=by rintro⟨n',e,g1,g2⟩;rw[h2] at e;cases e;exact hb ⟨g1,g2⟩
   refine⟨r, ?_, ?_, ?_⟩
   ·rw[M.qg] at r1|-;rw[cu (s':=((w+1:Nat):Int)) ?_]
    ·exact r1
    ·simp only[M.EH,M.uG,h1,ah,hw1];rw[zdt ak,aK]
     by_cases h0:n>=0
     ·rw[zdt h0,aK,pq (λe=>hb ⟨h0,e⟩),bn]
     ·rw[pq h0,bn]
   ·rw[M.pY] at r2|-;rw[cu (s':=((w+1:Nat):Int)) ?_]
    ·exact r2
    ·simp only[M.EF,M.uF,h2,hi,ah,hw1];have e:(decide (n>=0) && decide (n<=m))=false:=by rw[Bool.and_eq_false_iff,decide_eq_false_iff_not,decide_eq_false_iff_not];omega
     rw[zdt ak,aK,e,bn]
   ·rcases hr with⟨u,g1,g2,g3,g4,g5⟩|⟨x,g1,g2⟩
    ·refine .inl ⟨u,g1,ak,g3,g4,λj j1 j2=> ?_⟩
     by_cases hj:j=w
     ·rw[hj];exact hnw
     ·exact g5 j ak j2
    ·refine .inr ⟨x,g1,λj j1 j2=> ?_⟩
     by_cases hj:j=w
     ·rw[hj];exact hnw
     ·exact g2 j ak j2
def an9{l:List Nd}(h:Ok l)(m:Int):∃r:Int,M.xq (aZ false l) m=some r/\M.xk (aZ false l) m=some r/\
  ((r= -1/\¬af4 l m 80)\/(0<=r/\r<=80/\af4 l m r/\(r=0\/¬af4 l m (r - 1)))):=by
 obtain⟨r,r1,r2,hr⟩:=au8 h m 81 0 rfl;have r1':M.qg (aZ false l) m 0=some r:=r1;have r2':M.pY (aZ false l) m 0=some r:=r2;simp only[M.xq,M.MN,M.xk,M.ML,r1',r2',ah];rcases hr with⟨u,rfl,g2,g3,g4,g5⟩|⟨x,rfl,g2⟩
 ·refine⟨(u:Int),rfl,rfl,.inr ⟨ak,ak,g4, ?_⟩⟩
  by_cases hu:u=0
  ·exact .inl ak
  ·right;have:=g5 (u - 1) ak ak
   rwa [show((u - 1:Nat):Int)=(u:Int) - 1 by omega] at this
 ·exact⟨-1,rfl,rfl,.inl ⟨rfl,g2 80 ak ak⟩⟩
def aku(l:List Tk)(k:Int):Bool:=l.any λt=>t.kind==k
def kl(l:List Tk):Nat->List Int
 |0=>[]
 |j+1=>if aku l j then kl l j++[(j:Int)] else kl l j
def ae5(l:List Tk):∀j,(kl l j).length<=j
 |0=>zaP 0
 |j+1=>by
  have:=ae5 l j;rw[kl];split
  ·simp;exact this
  ·omega
def aAO(l:List Tk):∀j x,x∈kl l j->x<j
 |0,x,h=>absurd h List.not_mem_nil
 |j+1,x,h=>by
  rw[kl] at h;split at h
  ·rcases List.mem_append.1 h with h|h
   ·have:=aAO l j x h;omega
   ·rw[List.mem_singleton.1 h];omega
  ·have:=aAO l j x h;omega
def aaX(c:Int)(w:Nat)(t:Tk):Nat⊕((Int×Int)⊕(Int×Int)):=if t.kind==c then .inr (.inl ((w:Int),c)) else .inl (w+1)
def amM(c:Int)(len:Int):∀(l:List Tk) (w:Nat),(aku l c=true/\∃j:Nat,aii (aaX c) (λ_=> .inr (len,c)) l w=.inl ((j:Int),c))\/(aku l c=false/\aii (aaX c) (λ_=> .inr (len,c)) l w=.inr (len,c))
 |[],w=> .inr ⟨rfl,rfl⟩
 |t::l,w=>by
  rw[aii,aaX];cases hk:(t.kind==c) with
  |true=>refine .inl ⟨?_,w,rfl⟩;rw[aku,List.any_cons,hk,Bool.true_or]
  |false=>
   rcases amM c len l (w+1) with⟨h,j,hj⟩|⟨h,hj⟩
   ·refine .inl ⟨?_,j,hj⟩;rw[aku,List.any_cons,hk,Bool.false_or];exact h
   ·refine .inr ⟨?_,hj⟩;rw[aku,List.any_cons,hk,Bool.false_or];exact h
def ar8(l:List Tk)(c:Int)(hl:l.length<=1048576):M.slices_ContainsFunc (iP l) c=some (aku l c,c):=by
 have hloop:=asO (M.AA (iP l) (l.length:Int)) l (λi (_:Nat)=>((i:Int),c)) (aaX c) (λ_=> .inr ((l.length:Int),c)) (λi w=>w=i)
  (by
   intro i n w hi hw;subst hw;have hlt:=(PU.1 hi).1;simp only[M.AA,M.uV,M.xZ,M.JG,bC,aaP,hi,O9,ah,cT0,cT1,cT2,aaX];rw[zdt ak,aK];cases hk:(n.kind==c) with
   |true=>rfl
   |false=>simp only[bn];rw[aB ak ak];rfl)
  (by
   intro i n w w' hi hw h;subst hw;rw[aaX] at h;split at h
   ·cases h
   ·cases h;rfl)
  (by intro w _;simp only[M.AA,M.uV];rw[pq ak,bn]) 0 rfl
 rw[oQ] at hloop;simp only[M.slices_ContainsFunc,M.AB,M.slices_IndexFunc,M.Hr,eU,M.EI];rw[hloop];rcases amM c (l.length:Int) l 0 with⟨h,j,hj⟩|⟨h,hj⟩
 ·rw[hj,h];simp only[ah,pz,letE];rw[zdt ak]
 ·rw[hj,h];rfl
def ak8(l:List Tk)(hl:l.length<=1048576):M.BK (iP l)=some (encI (kl l 69)):=by
 have hloop:=iY (b:=M.JH (iP l)) (t:=(69,encI (kl l 69))) (λi=>((i:Int),encI (kl l i))) 69
  (by
   intro i hi;have hlen:=ae5 l i;simp only[jI,M.JH,M.Df,ar8 l _ hl,ah];rw[zdt ak,aK,aB ak ak,kl];cases hk:aku l (i:Int) with
   |true=>simp only[aK,aV,IU];rw[aN ak,aK,aN ak,aK,if_pos trivial];simp[encI]
   |false=>simp only[bn];rw[if_neg (by simp)];simp)
  (by simp only[jI,M.JH,M.Df];rfl) 0 (Nat.zero_le _)
 rw[oQ] at hloop;simp only[M.BK,M.Rq,M.O7];rw[show([]:au)=encI (kl l 0) from rfl,hloop,ah];simp only[Iy,aK]
def aAP{l:List Tk}{c:Int}:aku l c=true↔∃t,t∈l/\t.kind=c:=by unfold aku;simp[List.any_eq_true]
def aAQ(l:List Tk):∀(j:Nat) (x:Int),0<=x->x<j->aku l x=true->x∈kl l j
 |0,x,h0,h,_=>by omega
 |j+1,x,h0,h,hk=>by
  rw[kl]
  by_cases hx:x=(j:Int)
  ·subst hx;rw[if_pos hk];simp
  ·have:=aAQ l j x h0 ak hk;split
   ·simp[this]
   ·exact this
def amN(l:List Tk):∀(j:Nat),(kl l j).Pairwise (· < ·)
 |0=>List.Pairwise.nil
 |j+1=>by
  have ih:=amN l j;rw[kl];split
  ·rw[List.pairwise_append];refine⟨ih,List.pairwise_singleton _ _,λa ha b hb=> ?_⟩;have:=aAO l j a ha;rw[List.mem_singleton.1 hb];omega
  ·exact ih
def aAR:∀{l:List Nd},(∀n,n∈l->n.kids.length<=501)->wK l<=505 * l.length
 |[],_=>by simp[wK]
 |n::l,h=>by
  have:=aAR (l:=l) λm hm=>h m (by simp[hm])
  have:=h n (by simp);rw[wK,nS];omega
def Bt.ok{l:List Nd}(h:Bt l):Ok l:=by
 have hl:=h.len;have hw:=aAR λn hn=>(h.all n hn).kids
 refine⟨ak,λn hn=> ?_,λn hn=> ?_,ak⟩
 ·have hb:=h.all n hn;have:=hb.kids;exact⟨ak,λe he=>by have:=hb.ints e he;constructor<;>omega⟩
 ·have hb:=(h.all n hn).fine;have h1:n.text.length<=100:=hb.2.2.1;have h2:n.other.length<=100:=hb.2.2.2;exact⟨ak,ak⟩
def ar9(c:aC)(hc:c.length<=1048576):∃(l:List Nd) (m:Int),M.oK (c.map byteRow)=some (aZ true l,m)/\Bt l:=by obtain⟨h,e⟩:=azY c hc;have hc':=az0 hc h;obtain⟨t,q,f,z,i⟩:=az3 hc' 0;have f':M.vT (c.map byteRow) 0 h=_:=f;have e60:=oD hc' q 60 ak ak;rw[show((60:Nat):Int)=60 from rfl] at e60;have e3:=oD hc' (q+1) 3 ak ak;rw[show((3:Nat):Int)=3 from rfl] at e3;have hb:=aD7 (t:=t) ak i;obtain⟨n,_,_,h1,_⟩:=Ze hb.ok ((Cu.g ⟨c,0,h⟩ q % 60:Nat):Int);simp only[M.oK,M.CG,e,ah,f',e60,e3,aif,h1];exact⟨_,_,rfl,hb⟩
def aoa(c:aC)(hc:c.length<=1048576):∃l:List Tk,M.qY (c.map byteRow)=some (iP l)/\l.length<=60/\∀t,t∈l->PL t.kind:=by obtain⟨h,e⟩:=azY c hc;have hc':=az0 hc h;obtain⟨l,q,f,hl,hk⟩:=awk hc' 0;have f':M.wE 12 (c.map byteRow) 0 h=_:=f;simp only[M.qY,M.Hq,e,ah,f',ajD,aK];exact⟨l,rfl,hl,hk⟩
def aJb(p:List Int)(k:Int)(hp:p.length<=1048576)(hk:k∈p):M.UA (encI p) k=some true:=by
 obtain⟨j,hj⟩:=List.mem_iff_getElem?.1 hk;have hjl:=(PU.1 hj).1;have key:∀(d i:Nat),i+d=j->dM (M.NW (encI p) k) (i:Int)=some (.inl ()):=by
  intro d;induction d with
  |zero=>intro i hi;have:i=j:=ak;subst this;apply aY;simp only[M.NW,M.IL,aV,bC,lC,hj,O9,ah,KT];rw[zdt ak,aK];simp
  |succ d ih=>
   intro i hi;obtain⟨x,hx⟩:∃x,p[i]? =some x:=⟨p[i],by simp⟩
   by_cases hxk:x=k
   ·apply aY;simp only[M.NW,M.IL,aV,bC,lC,hx,O9,ah,KT];rw[zdt ak,aK,hxk];simp
   ·rw[<-ih (i+1) ak];apply cu;simp only[M.NW,M.IL,aV,bC,lC,hx,O9,ah,KT];rw[zdt ak,aK,show(x==k)=false from by simp[hxk],bn,aB ak ak];rfl
 have:=key j 0 ak;have e:M.Xf (encI p) k 0=_:=this;simp only[M.UA,M.YO,e,ah];rfl
def atF(n w:Int)(x:au)(l:List Tk)(p:List Int)(hl:l.length<=1048576)(hp:p.length<=1048576)(h:∀t,t∈l->t.kind∈p):M.O8 n w x (iP l) (encI p) 0=some (.inr (l.length:Int)):=by
 exact iY (b:=M.JI n w x (iP l) (encI p)) (t:=.inr (l.length:Int)) (λi=>(i:Int)) l.length
  (by
   intro i hi;obtain⟨y,hy⟩:∃y,l[i]? =some y:=⟨l[i],by simp⟩
   have hh:=aJb p y.kind hp (h y (En hy));have hw:i64.wrap ((i:Int)+1)=((i+1:Nat):Int):=by rw[aB ak ak];omega
   simp only[M.JI,M.Dh,eU,bC,Xm,aaP,hy,O9,ah,cT0,hh,hw];rw[zdt ak,aK];rfl)
  (by simp only[M.JI,M.Dh,eU];rw[pq ak,bn]) 0 (Nat.zero_le _)
def asa(n w:Int)(x:au)(p:List Int)(hp:p.length<=1048576)(h:p.Pairwise (· < ·)):∃r,M.Iq n w x (encI p) 1=some (.inr r):=by
 by_cases h1:1<=p.length
 ·exact⟨(p.length:Int),iY (b:=M.Di n w x (encI p)) (t:=.inr (p.length:Int)) (λi=>((i+1:Nat):Int)) (p.length - 1)
   (by
    intro i hi;obtain⟨y,hy⟩:∃y,p[i+1]? =some y:=⟨p[i+1],by simp⟩
    obtain⟨z,hz⟩:∃z,p[i]? =some z:=⟨p[i],by simp⟩
    have hlt:z<y:=by have hy':=PU.1 hy;have hz':=PU.1 hz;rw[<-hy'.2,<-hz'.2];exact List.pairwise_iff_getElem.1 h i (i+1) hz'.1 hy'.1 ak
    have hw:i64.wrap (((i+1:Nat):Int)+1)=((i+1+1:Nat):Int):=by rw[aB ak ak];omega
    have hw2:i64.wrap (((i+1:Nat):Int) - 1)=(i:Int):=by rw[aB ak ak];omega
    simp only[M.Di,M.xO,aV,hw,hw2,bC,Xm,lC,hy,hz,O9,ah,KT];rw[zdt ak,aK,pq ak,bn])
   (by simp only[M.Di,M.xO,aV];rw[pq ak,bn,show((p.length - 1+1:Nat):Int)=(p.length:Int) by omega]) 0 (Nat.zero_le _)⟩
 ·refine⟨1, ?_⟩;rw[M.Iq];apply aY;simp only[M.Di,M.xO,aV];rw[pq ak,bn]
def aAS(c:aC):M.J5 (c.map byteRow)=some true:=by
 simp only[M.J5,M.Ul,M.VY,M.YJ,ah,zaQ]
 by_cases hc:c.length<=1048576
 ·rw[pq ak,bn];obtain⟨l,m,h1,hb⟩:=ar9 c hc;obtain⟨ts,h2,htl,htk⟩:=aoa c hc;obtain⟨r,h3,h4,hr⟩:=an9 hb.ok m;have hk:=ak8 ts ak;have hkl:=ae5 ts 69;have hl1:=atF m r (aZ true l) ts (kl ts 69) ak ak (λt ht=>by have:=htk t ht;unfold PL at this;exact aAQ ts 69 t.kind ak ak (aAP.2 ⟨t,ht,rfl⟩));obtain⟨x,hl2⟩:=asa m r (aZ true l) (kl ts 69) ak (amN ts 69);rw[h1,ah];simp only[aif,h3,h4,ah,bne_self_eq_false,bn,h2,hk,awd,aK,hl1,hl2,pz,letE];have key:∀w:Int,∃n,M.jU (aZ false l) w=some n/\(af4 l m w↔0<=n/\n<=m):=by intro w;obtain⟨n,_,_,_,e⟩:=Ze hb.ok w;refine⟨n,e,⟨?_,λg=>⟨n,e,g.1,g.2⟩⟩⟩;rintro⟨n',e',g1,g2⟩;rw[e] at e';cases e';exact⟨g1,g2⟩
  rcases hr with⟨rfl,hg⟩|⟨r0,r1,hg,hg2⟩
  ·obtain⟨n,e,hn⟩:=key 80;rw[hn] at hg;rw[zdt ak,aK,e,ah]
   by_cases hn0:n<0
   ·rw[zdt hn0,aK]
   ·rw[pq hn0,bn,ah,zdt ak]
  ·obtain⟨n,e,hn⟩:=key r;rw[hn] at hg;rw[pq ak,bn,e,ah,zdt ak,aK,zdt ak,aK]
   by_cases hz:r=0
   ·rw[show(r==0)=true from by simp[hz],aK]
   ·rw[show(r==0)=false from by simp[hz],bn,aB ak ak];obtain⟨n',e',hn'⟩:=key (r - 1);rw[hn'] at hg2;rw[e',ah]
    by_cases hn0:n'>m
    ·rw[zdt hn0,aK]
    ·rw[pq hn0,bn,ah,zdt ak]
 ·rw[zdt ak,aK]
end Go.Proofs.YtajjpadmdmehmaaGreatDoor
