import Derived.Test.YtbpldgeajbfgnaaGreatDoorXRend3
import Derived.Test.YtbpldgeajbfgnaaGreatDoorXLay
set_option linter.defProp false
namespace Go.Proofs.YtbpldgeajbfgnaaGreatDoor
set_option linter.unusedVariables false
set_option linter.unusedSimpArgs false
open Go Go.Vm
open Go.IntKind (i64)
def isP(p:Pc)(r:Row):Prop:=∃rows g,r=[.int .i64 p.1.kind,.int .i64 p.1.op,.str p.1.text,.sl false 5 rows,.int .i64 g,.int .i64 p.2.1,.bool p.2.2]∧Ll p.1.kids rows
def O7:List Pc->au->Prop
 |[],rows=>rows=[]
 |p::ps,rows=>∃r rs,rows=r::rs∧isP p r∧O7 ps rs
def N7:∀{ts:List Pc} {rows:au},O7 ts rows->rows.length=ts.length
 |[],_,h=>by rw[O7] at h;rw[h];rfl
 |t::ts,_,⟨r,rs,e,_,h2⟩=>by subst e;rw[vX,N7 h2,vX]
def YJ:∀{a b:List Pc} {ra rb:au},O7 a ra->O7 b rb->O7 (a++b) (ra++rb)
 |[],_,_,_,h,h2=>by rw[O7] at h;subst h;exact h2
 |t::ts,_,_,_,⟨r,rs,e,h1,h2⟩,h3=>by subst e;exact⟨r,_,rfl,h1,YJ h2 h3⟩
def abO:∀{rows:au},(∀r,r∈rows->ql r=r)->dI rows=rows
 |[],_=>rfl
 |r::rs,h=>by rw[dI,h r ZQ,abO (λx hx=>h x (XR _ hx))]
def akG:∀{ps:List Pc} {rows:au},O7 ps rows->∀r,r∈rows->ql r=r
 |[],_,h,r,hr=>by rw[O7] at h;subst h;cases hr
 |p::ps,_,⟨q,qs,e,⟨rows,g,e1,h1⟩,h2⟩,r,hr=>by
  subst e;rcases List.mem_cons.1 hr with rfl|hr
  ·subst e1;simp only[ql,D.fz,ae1 _ rows h1]
  ·exact akG h2 r hr
def apf{ps:List Pc}{rows:au}(h:O7 ps rows):dI rows.reverse=rows.reverse:=
 abO λr hr=>akG h r (List.mem_reverse.1 hr)
def zB(st:List Pc):List Tn:=st.map (·.1)
def Sz(st:List Pc):st.length<=sizes (zB st):=by have:=jT (zB st);simpa[zB] using this
def abP(w:Row)(all:au)(hw:LC 7 w 2=some all.reverse)(hall:all.length<=1000000000):∀(st:List Pc) (pre rows:au) (c:Nat),O7 st rows->all=pre++rows->sizes (zB st)<=1000000000->c+qB (zB st)<=20000000000000->
  fF M.nR (w,(c:Int),(rows.length:Int) - 1,[])=some (bif(Ns (zB st)).2 then .inl ((c+(Ns (zB st)).1:Nat):Int) else .inr (w,((c+(Ns (zB st)).1:Nat):Int), -1,[]))
 |[],pre,rows,c,h,ha,hs,hc=>by rw[O7] at h;subst h;apply dD;rfl
 |(t,ii,ff)::st,pre,rows,c,h,ha,hs,hc=>by
  obtain⟨r,rs,rfl,⟨rows',g',rfl,hk'⟩,hPs⟩:=h;have hrl:=N7 hPs;have av2:=Sz st;have e1:zB ((t,ii,ff)::st)=t::zB st:=rfl;rw[e1,sizes] at hs;rw[e1,qB] at hc;have hb1:=abN [t];simp only[qB,Nat.add_zero] at hb1;generalize hR:[D.int .i64 t.kind,.int .i64 t.op,.str t.text,.sl false 5 rows',.int .i64 g',.int .i64 ii,.bool ff]=R at ha⊢;have c0:eu .i64 R 0=some t.kind:=by rw[<-hR];rfl
  have c1:eu .i64 R 1=some t.op:=by rw[<-hR];rfl
  have c2:cStr R 2=some t.text:=by rw[<-hR];rfl
  have c3:LC 5 R 3=some rows':=by rw[<-hR];rfl
  have c4:eu .i64 R 4=some g':=by rw[<-hR];rfl
  have hget:all.reverse[rs.length]? =some R:=by rw[ha,List.reverse_append,List.reverse_cons,AB,List.getElem?_append_right (by simp)];simp
  have hD:Ll [t] [[D.int .i64 t.kind,.int .i64 t.op,.str t.text,.sl false 5 rows',.int .i64 g']]:=⟨_,[],rfl,(Wi _ _).2 ⟨rows',g',rfl,hk'⟩,rfl⟩
  have hin:=alX w (rs.length:Int) t.size [t] _ c _ (by simp[sizes]) (by omega) hD (by simp only[qB];omega) (.inl rfl);rw[List.reverse_singleton] at hin;have e2:(Ns [t]).2=(bh t).2:=by cases hq:(bh t).2<;>simp[Ns,hq]
  have e3:(Ns [t]).1=(bh t).1:=by cases hq:(bh t).2<;>simp[Ns,hq]
  rw[e2,e3] at hin;rw[e3] at hb1;have e4:(((R::rs).length:Nat):Int) - 1=(rs.length:Int):=by simp only[vX];omega
  rw[e1,e4,Ns];cases hq:(bh t).2 with
  |true=>apply dD;rw[hq,bW] at hin;simp only[lJ,M.nR,M.nP,hw,dF,hget,ah,c0,c1,c2,c3,c4,EN,GX,List.nil_append,M.qA,hin,nX,bW,hq];rw[zdt (by omega),bW];rfl
  |false=>
   rw[hq,dP] at hin;have hstep:M.nR (w,(c:Int),(rs.length:Int),[])=some (.inl (w,((c+(bh t).1:Nat):Int),(rs.length:Int) - 1,[])):=by simp only[lJ,M.nR,M.nP,hw,dF,hget,ah,c0,c1,c2,c3,c4,EN,GX,List.nil_append,M.qA,hin,nX,letE];rw[zdt (by omega),bW,aG (by omega) (by omega)];rfl
   rw[eF hstep,abP w all hw hall st (pre++[R]) rs (c+(bh t).1) hPs (by rw[ha];simp) (by omega) (by omega)];simp only[dP];cases(Ns (zB st)).2<;>simp[Nat.add_assoc]
def alY(w:Row){st:List Pc}{rows:au}(h:O7 st rows)(hw:LC 7 w 2=some rows.reverse)(hs:sizes (zB st)<=1000000000)(hc:qB (zB st)<=20000000000000):
  M.lK w=some (((Ns (zB st)).1:Nat):Int):=by
 have hrl:=N7 h;have av2:=Sz st;have:=abP w rows hw (by omega) st [] rows 0 h rfl hs (by omega);rw[Nat.zero_add,rE] at this;simp only[M.lK,M.xW,hw,ah,List.length_reverse,M.vP];rw[aG (by omega) (by omega),this];cases(Ns (zB st)).2<;>rfl
def aIw{t:Tn}{rows':au}(g:Int)(hk:Ll t.kids rows'){st:List Pc}{rows:au}(h:O7 st rows)(s:aC)(col w:Int)(hs:t.size+sizes (zB st)<=1000000000)(hc:txs t+qB (zB st)<=10000000000000)
  (h0:0<=col) (h1:col<=40000000000000) (h2:0<=w) (h3:w<=10000):
  M.oW t.kind t.op t.text rows' g (s.map byteRow) col rows.reverse w=some (abH w col t st,s.map byteRow,col,rows.reverse,w):=by
 have hfl:=M.Xx (arb t t.size rows' g (Nat.le_refl _) hk (by omega));have hbe:=alY [D.sl false 1 (s.map byteRow),D.int .i64 col,D.sl false 7 rows.reverse] h rfl (by omega) (by omega);have apg:=abN (zB st);simp only[M.oW,M.Es,hfl,ah,apf h,Dx,bW];unfold abH;cases hx:yD t with
 |none=>rfl
 |some a=>have hal:=Wn t a hx;have e1:i64.wrap ((a.length:Int)+((Ns (zB st)).1:Int))=(a.length:Int)+((Ns (zB st)).1:Int):=aG (by omega) (by omega);have e2:i64.wrap (w - col)=w - col:=aG (by omega) (by omega);simp only[flR,bW,hbe,ah,e1,e2];rfl
def ard{ks:List Tn}{rows:au}(hr:Ll ks rows)(k n:Int)(x:aC)(g ii:Int)(ff:Bool)(s:aC)(col:Int)(st:au)(hk:ks.length<=1000000000)(hl:st.length<=1000000000):
  ∃ps,O7 (ks.map λt=>(t,ii,ff)) ps∧M.iI k n x rows g ii ff (s.map byteRow) col st=some (s.map byteRow,col,st++ps.reverse):=by
 have hrl:=Dw hr;refine⟨rows.map (· ++[.int .i64 ii,.bool ff]), ?_, ?_⟩
 ·clear hk hrl;induction ks generalizing rows with
  |nil=>rw[Ll] at hr;subst hr;rfl
  |cons u us ih=>obtain⟨r,rs,rfl,h1,h2⟩:=hr;obtain⟨rows',g',rfl,hk'⟩:=(Wi u r).1 h1;exact⟨_,_,rfl,⟨rows',g',rfl,hk'⟩,ih h2⟩
 ·have key:∀(j:Nat),j<=ks.length->fF (M.vO ii ff col k n x rows g (s.map byteRow)) ((j:Int) - 1,st++((rows.drop j).map (· ++[D.int .i64 ii,.bool ff])).reverse)=some (-1,st++(rows.map (· ++[D.int .i64 ii,.bool ff])).reverse):=by
   intro j;induction j with
   |zero=>intro _;apply dD;simp only[lJ,M.vO,M.qy];rw[uh (by omega),dP];rfl
   |succ j ihj=>
    intro hj;obtain⟨u,hu⟩:∃u,ks[j]? =some u:=⟨ks[j],by simp⟩
    obtain⟨r,hrj,hrD⟩:=Wj hr hu;obtain⟨rows',g',rfl,hk'⟩:=(Wi u r).1 hrD;have c0:eu .i64 [D.int .i64 u.kind,.int .i64 u.op,.str u.text,.sl false 5 rows',.int .i64 g'] 0=some u.kind:=rfl;have c1:eu .i64 [D.int .i64 u.kind,.int .i64 u.op,.str u.text,.sl false 5 rows',.int .i64 g'] 1=some u.op:=rfl;have c2:cStr [D.int .i64 u.kind,.int .i64 u.op,.str u.text,.sl false 5 rows',.int .i64 g'] 2=some u.text:=rfl;have c3:LC 5 [D.int .i64 u.kind,.int .i64 u.op,.str u.text,.sl false 5 rows',.int .i64 g'] 3=some rows':=rfl;have c4:eu .i64 [D.int .i64 u.kind,.int .i64 u.op,.str u.text,.sl false 5 rows',.int .i64 g'] 4=some g':=rfl;have hlen:(st++((rows.drop (j+1)).map (· ++[D.int .i64 ii,.bool ff])).reverse).length<=2000000000:=by simp;omega
    have hdr:rows.drop j=[D.int .i64 u.kind,.int .i64 u.op,.str u.text,.sl false 5 rows',.int .i64 g']::rows.drop (j+1):=by obtain⟨h1,h2⟩:=Je.1 hrj;rw[List.drop_eq_getElem_cons h1,h2]
    rw[show(((j+1:Nat):Int) - 1)=(j:Int) by omega,<-ihj (by omega),hdr,JI,List.reverse_cons,<-AB];refine eF ?_;simp only[lJ,M.vO,M.qy,dF,hrj,ah,c0,c1,c2,c3,c4,GX];rw[zdt (by omega),bW,dN (by omega),bW,dN (by omega),bW,aG (by omega) (by omega)];rfl
  have:=key rows.length (by omega);rw[List.drop_length,List.map_nil,List.reverse_nil,List.append_nil] at this;simp only[M.iI,M.Aw,M.yN];rw[aG (by omega) (by omega),this];simp only[ah,Dx,bW]
def arf(ii:Int)(s:aC)(col:Int)(st:au)(h0:0<=ii)(h1:ii<=200000)(hs:s.length<=80000000000000):M.kD ii (s.map byteRow) col st=some ((brk s ii).map byteRow,ii,st):=by
 have hrep:M.strings_Repeat [32] ii=some (List.replicate ii.toNat 32):=by rw[M.strings_Repeat,zdt h0,zdt (by omega),GX,dN (show 1<=1000000 by omega)];simp
 have e10:[[D.int .u8 10]]=[byteRow 10]:=rfl;have hb:s.map byteRow++[[D.int .u8 10]]++(List.replicate ii.toNat (32:UInt8)).map byteRow=(brk s ii).map byteRow:=by rw[brk,List.map_append,JI,e10];simp
 simp only[M.kD,M.Au,hrep,ah,List.length_map,vS,List.length_replicate,GX];rw[dN (by omega),bW,dN (by omega),bW,dN (by omega),bW,dN (by omega),bW,hb,Dx,bW]
def aph(st:List Pc):Prop:=∀p,p∈st->dOk p.1=true∧0<=p.2.1∧p.2.1+40 * p.1.size<=200000
def Wp:∀{ks:List Tn} {t:Tn},aie ks=true->t∈ks->dOk t=true
 |[],_,_,h=>by cases h
 |u::us,t,h,ht=>by
  rw[aie,AL] at h;rcases List.mem_cons.1 ht with rfl|ht
  ·exact h.1
  ·exact Wp h.2 ht
def aph.kids{k m:Int}{x y:aC}{ks:List Tn}{i:Int}{f:Bool}{st:List Pc}(h:aph ((.mk k m x y ks,i,f)::st))(j:Int)(g:Bool)(h1:i<=j)(h2:j<=i+40):aph (ks.map (λt=>(t,j,g))++st):=by
 intro p hp;rcases List.mem_append.1 hp with hp|hp
 ·obtain⟨t,ht,rfl⟩:=List.mem_map.1 hp;obtain⟨h3,h4,h5⟩:=h _ ZQ;simp only[dOk,Tn.size,AL] at h3 h4 h5;have hsz:=nJ ht;refine⟨Wp h3.1 ht, ?_, ?_⟩<;>simp only<;>omega
 ·exact h p (XR _ hp)
def akH{m:Int}{x:aC}{c:Nat}(h:Qd 4 m x c=true):0<=m∧m<=40:=by cases hx:(x==[])<;>simp[Qd,hx] at h;exact h.1
def Wq(ks:List Tn)(j:Int)(g:Bool)(st:List Pc):zB (ks.map (λt=>(t,j,g))++st)=ks++zB st:=by simp[zB,List.map_append,Function.comp_def]
def sb{α β:Type}(a:α)(f:α->Option β):(some a).bind f=f a:=by cases h:f a<;>simp[h]
section
variable {k n i g w col:Int} {x:aC} {f:Bool} {rows' rs o:au}
def aIx(hl:rs.length<=1000000000):M.nS (col,w,o,([D.int .i64 k,.int .i64 n,.str x,.sl false 5 rows',.int .i64 g,.int .i64 i,.bool f]::rs).reverse)=
  (bif k==1 then(bif((o.length+(x.map byteRow).length) * 1).ble 140737488355328 then(bif(o.length+(x.map byteRow).length).ble 140737488355328 then some (.inl (i64.wrap (col+(x.length:Int)),w,o++x.map byteRow,rs.reverse)) else none) else none) else
   bif k==2 then(bif f then(bif((o.length+1) * 1).ble 140737488355328 then(bif(o.length+1).ble 140737488355328 then some (.inl (i64.wrap (col+1),w,o++[[D.int IntKind.u8 32]],rs.reverse)) else none) else none) else
    (bif aA o then((M.kD i o col rs.reverse).bind λr=>some (.inl (r.2.1,w,r.1,r.2.2))) else none)) else
   bif k==3 then(bif aA o then((M.kD i o col rs.reverse).bind λr=>some (.inl (r.2.1,w,r.1,r.2.2))) else none) else
   bif k==4 then(bif aA o then((M.iI k n x rows' g (i64.wrap (i+n)) f o col rs.reverse).bind λr=>some (.inl (r.2.1,w,r.1,r.2.2))) else none) else
   bif k==5 then(bif f then(bif aA o then((M.iI k n x rows' g i true o col rs.reverse).bind λr=>some (.inl (r.2.1,w,r.1,r.2.2))) else none) else
    (bif aA o then((M.oW k n x rows' g o col rs.reverse w).bind λr=>(bif aA r.2.1 then((M.iI k n x rows' g i r.1 r.2.1 r.2.2.1 r.2.2.2.1).bind λq=>some (.inl (q.2.1,r.2.2.2.2,q.1,q.2.2))) else none)) else none)) else
   (bif aA o then((M.iI k n x rows' g i f o col rs.reverse).bind λr=>some (.inl (r.2.1,w,r.1,r.2.2))) else none)):=by
 generalize hR:[D.int .i64 k,.int .i64 n,.str x,.sl false 5 rows',.int .i64 g,.int .i64 i,.bool f]=R;have c0:eu .i64 R 0=some k:=by rw[<-hR];rfl
 have c1:eu .i64 R 1=some n:=by rw[<-hR];rfl
 have c2:cStr R 2=some x:=by rw[<-hR];rfl
 have c3:cRo 5 R 3=some rows':=by rw[<-hR];rfl
 have c4:eu .i64 R 4=some g:=by rw[<-hR];rfl
 have c5:eu .i64 R 5=some i:=by rw[<-hR];rfl
 have c6:Ji R 6=some f:=by rw[<-hR];rfl
 have hlen:((R::rs).reverse.length:Int)=(rs.length:Int)+1:=by simp
 have apj:i64.wrap ((rs.length:Int)+1 - 1)=(rs.length:Int):=(aG (by omega) (by omega)).trans (by omega);have hget:(R::rs).reverse[rs.length]? =some R:=by rw[List.reverse_cons];exact ZH rs R
 have htk:(R::rs).reverse.take rs.length=rs.reverse:=by rw[List.reverse_cons];exact List.take_left' (by simp)
 have hd:(decide ((0:Int)<=(rs.length:Int)) && decide ((rs.length:Int)<=(rs.length:Int)+1))=true:=by simp;omega
 have hgt:decide ((rs.length:Int)+1>0)=true:=zdt (by omega);simp only[M.nS,M.xX,hlen,apj,hgt,dF,O9,hget,sb,c0,c1,c2,c3,c4,c5,c6,hd,bW,htk]
end
structure ajz(m:Nat)(st:List Pc)(rows:au)(s:aC)(col:Int):Prop where
 sz:sizes (zB st)<=m
 is:O7 st rows
 inv:aph st
 pos:0<=col
 len:s.length+(qB (zB st)+m * 200001)<=40000000000000
 col:col+(qB (zB st)+m * 200001)<=40000000000000
 tx:qB (zB st)<=10000000000000
def ajz.rest{m:Nat}{k n:Int}{x y:aC}{ks:List Tn}{i:Int}{f:Bool}{st:List Pc}{r:Row}{rs:au}{s s':aC}{col col':Int}(h:ajz (m+1) ((.mk k n x y ks,i,f)::st) (r::rs) s col)
  (h0:0<=col') (h1:s'.length<=s.length+(x.length+200001)) (h2:col'<=col+(x.length+200001)):ajz m st rs s' col':=by
 obtain⟨a1,⟨r',rs',e,_,a2⟩,a3,a4,a5,a6,a7⟩:=h;cases e;simp only[zB,JI,sizes,Tn.size,qB,txs] at a1 a5 a6 a7;refine⟨?_,a2,λp hp=>a3 p (XR _ hp),h0, ?_, ?_, ?_⟩<;>simp only[zB]<;>omega
def ajz.kids{m:Nat}{k n:Int}{x y:aC}{ks:List Tn}{i:Int}{f:Bool}{st:List Pc}{r:Row}{rs ps:au}{s:aC}{col:Int}(h:ajz (m+1) ((.mk k n x y ks,i,f)::st) (r::rs) s col)
  {j:Int} {g:Bool} (h1:i<=j) (h2:j<=i+40) (hp:O7 (ks.map λt=>(t,j,g)) ps):ajz m (ks.map (λt=>(t,j,g))++st) (ps++rs) s col:=by
 obtain⟨a1,⟨r',rs',e,_,a2⟩,a3,a4,a5,a6,a7⟩:=h;cases e;simp only[zB,JI,sizes,Tn.size,qB,txs] at a1 a5 a6 a7;refine⟨?_,YJ hp a2,a3.kids j g h1 h2,a4, ?_, ?_, ?_⟩<;>rw[Wq]<;>simp only[zB,kK,KQ]<;>omega
def av3(w:Int)(hw0:0<=w)(hw1:w<=10000):∀(m:Nat) (st:List Pc) (rows:au) (s:aC) (col:Int),m<=4000->ajz m st rows s col->
  ∃col',fF M.nS (col,w,s.map byteRow,rows.reverse)=some (col',w,(lay w m st s col).map byteRow,[]):=by
 intro m;induction m with
 |zero=>
  intro st rows s col hmb hH;cases st with
  |cons p st=>have:=p.1.size_pos;have:=hH.sz;simp only[zB,JI,sizes] at this;omega
  |nil=>have hP:=hH.is;rw[O7] at hP;subst hP;exact⟨col,dD rfl⟩
 |succ m ih=>
  intro st rows s col hmb hH;cases st with
  |nil=>have hP:=hH.is;rw[O7] at hP;subst hP;exact⟨col,dD rfl⟩
  |cons p st=>
   obtain⟨t,i,f⟩:=p;obtain⟨k,n,x,y,ks⟩:=t;obtain⟨r,rs,rfl,⟨rows',g',rfl,hk'⟩,hPs⟩:=hH.is;obtain⟨hd0,hi0,hi1⟩:=hH.inv _ ZQ;simp only[Tn.kind,Tn.op,Tn.text,Tn.kids] at hd0 hi0 hi1 hk' hH⊢;have hsz:=hH.sz;have hln:=hH.len;have hcl:=hH.col;have htx:=hH.tx;have hps:=hH.pos;have hrl:=N7 hPs;have hkl:=Dw hk';have av2:=Sz st;have av4:=jT ks;have e1:zB ((Tn.mk k n x y ks,i,f)::st)=Tn.mk k n x y ks::zB st:=rfl;rw[e1,sizes,Tn.size] at hsz;rw[e1,qB,txs] at hln hcl htx;rw[Tn.size] at hi1;have hrev:rs.reverse.length<=1000000000:=by rw[List.length_reverse];omega
   have hb:=aIx (k:=k) (n:=n) (i:=i) (g:=g') (w:=w) (col:=col) (x:=x) (f:=f) (rows':=rows') (rs:=rs) (o:=s.map byteRow) (by omega);generalize ([D.int .i64 k,.int .i64 n,.str x,.sl false 5 rows',.int .i64 g',.int .i64 i,.bool f]:Row)=R at hb hH⊢;have asz:=arf i s col rs.reverse hi0 (by omega) (by omega);have hbl:(brk s i).length<=s.length+(x.length+200001):=by rw[brk,vS,vX,List.length_replicate];omega
   have hpu:=fun(ii:Int) (ff:Bool)=>ard hk' k n x g' ii ff s col rs.reverse (by omega) hrev
   simp only[Dx,bW,List.length_map] at hb;rw[lay];cases h1:k==1 with
   |true=>rw[h1,bW,dN (by omega),bW,dN (by omega),bW,aG (by omega) (by omega),<-List.map_append] at hb;rw[eF hb,bW];exact ih st rs (s++x) _ (by omega) (hH.rest (by omega) (by rw[vS];omega) (by omega))
   |false=>
   rw[h1,dP] at hb;rw[dP];cases h2:k==2 with
   |true=>
    rw[h2,bW] at hb;cases hf:f with
    |true=>have e32:[[D.int .u8 32]]=[byteRow 32]:=rfl;rw[hf,bW,dN (by omega),bW,dN (by omega),bW,aG (by omega) (by omega),e32,<-List.map_singleton,<-List.map_append] at hb;rw[eF hb,Bool.and_self,bW];rw[hf] at hH;exact ih st rs (s++[32]) _ (by omega) (hH.rest (by omega) (by rw[vS,GX];omega) (by omega))
    |false=>rw[hf,dP,asz,ah] at hb;rw[eF hb,Bool.and_false,dP,Bool.true_or,bW];rw[hf] at hH;exact ih st rs (brk s i) i (by omega) (hH.rest hi0 hbl (by omega))
   |false=>
   rw[h2,dP] at hb;rw[Bool.false_and,dP,Bool.false_or];cases h3:k==3 with
   |true=>rw[h3,bW,asz,ah] at hb;rw[eF hb,bW];exact ih st rs (brk s i) i (by omega) (hH.rest hi0 hbl (by omega))
   |false=>
   rw[h3,dP] at hb;rw[dP];have go:∀(j:Int) (g:Bool),i<=j->j<=i+40->∀ps,O7 (ks.map λt=>(t,j,g)) ps->M.nS (col,w,s.map byteRow,(R::rs).reverse)=some (.inl (col,w,s.map byteRow,rs.reverse++ps.reverse))->
     ∃col',fF M.nS (col,w,s.map byteRow,(R::rs).reverse)=some (col',w,(lay w m (ks.map (λt=>(t,j,g))++st) s col).map byteRow,[]):=by
    intro j g hj1 hj2 ps hps hstep;rw[eF hstep,<-List.reverse_append];exact ih _ (ps++rs) s col (by omega) (hH.kids hj1 hj2 hps)
   cases h4:k==4 with
   |true=>
    have ek:k=4:=by simpa using h4
    rw[dOk,AL,ek] at hd0;obtain⟨hn0,hn1⟩:=akH hd0.2;obtain⟨ps,hps,hpush⟩:=hpu (i+n) f;rw[h4,bW,aG (by omega) (by omega),hpush,ah] at hb;rw[bW];exact go (i+n) f (by omega) (by omega) ps hps hb
   |false=>
   rw[h4,dP] at hb;rw[dP];cases h5:k==5 with
   |true=>
    rw[h5,bW] at hb;rw[bW];cases hf:f with
    |true=>obtain⟨ps,hps,hpush⟩:=hpu i true;rw[hf,bW,hpush,ah] at hb;rw[Bool.true_or];exact go i true (by omega) (by omega) ps hps hb
    |false=>have hc1:=aIw (t:=.mk k n x y ks) g' hk' hPs s col w (by rw[Tn.size];omega) (by rw[txs];omega) hps (by omega) hw0 hw1;simp only[Tn.kind,Tn.op,Tn.text] at hc1;rw[Bool.false_or];obtain⟨ps,hps,hpush⟩:=hpu i (abH w col (.mk k n x y ks) st);rw[hf,dP,hc1,ah] at hb;simp only[Dx,bW,hpush,ah] at hb;exact go i (abH w col (.mk k n x y ks) st) (by omega) (by omega) ps hps hb
   |false=>rw[h5,dP] at hb;rw[dP];obtain⟨ps,hps,hpush⟩:=hpu i f;rw[hpush,ah] at hb;exact go i f (by omega) (by omega) ps hps hb
def rnR(t:Tn)(w:Int):aC×Bool:=flR (render t w)
def abQ{t:Tn}{o:Bool}(w:Int)(h:t.size<=90000000)(hx:∀n,n∈t.flat 0->n.text.length<=1000000000):M.su (dW o (t.flat 0)) w=some (rnR t w):=by
 simp only[M.su,M.EX,acJ (o:=o) h,ah,I8,apd (o:=o) h,rnR,render];have apg:Nat.ble t.size 4000=decide (t.size<=4000):=by rw[Bool.eq_iff_iff,decide_eq_true_eq];exact Iff.of_eq Nat.ble_eq
 rw[apg,Bool.and_comm (decide (t.size<=4000))];cases hd:(dOk t) && decide (t.size<=4000) with
 |false=>rfl
 |true=>
  cases hw:decide (0<=w) && decide (w<=10000) with
  |false=>rfl
  |true=>
   simp only[AL,decide_eq_true_eq] at hd hw;have htx:=ajy 1000000000 t 0 hx;simp only[Bool.not_true,dP,Bool.and_self,bW,flR];obtain⟨col',hl⟩:=av3 w hw.1 hw.2 t.size [(t,0,false)] [[.int .i64 t.kind,.int .i64 t.op,.str t.text,.sl false 5 (dI (vK (t.flat 0) t.kids 0)),.int .i64 (grp ((t.flat 0).take (sizes t.kids))),.int .i64 0,.bool false]] [] 0 hd.2
    ⟨by simp[zB,sizes],⟨_,[],rfl,⟨_,_,rfl,Ry _ _ _⟩,rfl⟩,λp hp=>by simp only[List.mem_singleton] at hp;subst hp;refine⟨hd.1,Int.le_refl 0, ?_⟩;simp only;omega,Int.le_refl 0,
     by simp only[zB,JI,List.map_nil,qB,EN];omega,by simp only[zB,JI,List.map_nil,qB];omega,by simp only[zB,JI,List.map_nil,qB];omega⟩
   rw[List.reverse_singleton] at hl;have e0:([]:aC).map byteRow=[]:=rfl;rw[e0] at hl;simp only[M.tu,M.Cj,M.Az,hl,ah,Dx,bW,bytesOf_map]
def Zh(w:Int):M.su [] w=some ([],false):=by simp only[M.su,M.EX,adR.1,ah];rfl
mutual
def adT:∀(t:Tn) (pre post:List Nd) (i:Nat),i<t.size->∃b u,Lies (pre++(t.flat pre.length++post)) b u∧b+sizes u.kids=pre.length+i
 | .mk k o x y ks,pre,post,i,h=>by
  rw[Tn.size] at h
  by_cases hi:i=sizes ks
  ·exact⟨pre.length,.mk k o x y ks,⟨pre,post,rfl,rfl⟩,by rw[hi];rfl⟩
  ·obtain⟨b,u,h1,h2⟩:=abR ks pre ([⟨k,o,x,y,ends ks pre.length⟩]++post) i (by omega);refine⟨b,u, ?_,h2⟩;rw[Tn.flat,AB];exact h1
def abR:∀(ks:List Tn) (pre post:List Nd) (i:Nat),i<sizes ks->∃b u,Lies (pre++(jC ks pre.length++post)) b u∧b+sizes u.kids=pre.length+i
 |[],_,_,i,h=>by simp[sizes] at h
 |t::ts,pre,post,i,h=>by
  rw[sizes] at h
  by_cases hi:i<t.size
  ·obtain⟨b,u,h1,h2⟩:=adT t pre (jC ts (pre.length+t.size)++post) i hi;refine⟨b,u, ?_,h2⟩;rw[jC,AB];exact h1
  ·obtain⟨b,u,h1,h2⟩:=abR ts (pre++t.flat pre.length) post (i - t.size) (by omega);rw[vS,t.flat_length] at h1 h2;refine⟨b,u, ?_,by omega⟩;rw[jC,AB,<-AB pre];exact h1
end
def arh{t:Tn}{i:Nat}(h:i<t.size):∃b u,Lies (t.flat 0) b u∧b+sizes u.kids=i:=by obtain⟨b,u,h1,h2⟩:=adT t [] [] i h;refine⟨b,u,by simpa using h1,by simpa using h2⟩
mutual
def abS:Tn->Bool
 | .mk k _ _ _ ks=>k==3||EL ks
def EL:List Tn->Bool
 |[]=>false
 |t::ts=>(abS t)||EL ts
end
def Ws{k n:Int}{x:aC}{c:Nat}(h:Qd k n x c=true)(hk:k=1∨k=2∨k=3):c=0:=by rcases hk with rfl|rfl|rfl<;>cases hn:(n==0)<;>cases hx:(x==[])<;>simp[Qd,hn,hx] at h<;>omega
def apk{k n:Int}{x:aC}{c:Nat}(h:Qd k n x c=true)(hk:k=5):c=1:=by subst hk;cases hn:(n==0)<;>cases hx:(x==[])<;>simp[Qd,hn,hx] at h<;>omega
def av5{k n:Int}{x:aC}{c:Nat}(h:Qd k n x c=true)(h1:(k==1)=false)(h2:(k==2)=false)(h3:(k==3)=false)(h4:(k==4)=false)(h5:(k==5)=false):n=0:=by
 cases hn:(n==0) with
 |true=>simpa using hn
 |false=>simp[Qd,hn,h4] at h
mutual
def aiq:∀t:Tn,dOk t=true->(yD t).isNone=(abS t)
 | .mk k n x y ks,h=>by
  rw[dOk,AL] at h;rw[yD,abS];cases h1:k==1 with
  |true=>
   have hl:=Ws h.2 (.inl (by simpa using h1));have:ks=[]:=List.length_eq_zero_iff.1 hl;have e:k=1:=by simpa using h1
   subst this;subst e;rfl
  |false=>
  cases h2:k==2 with
  |true=>
   have hl:=Ws h.2 (.inr (.inl (by simpa using h2)));have:ks=[]:=List.length_eq_zero_iff.1 hl;have e:k=2:=by simpa using h2
   subst this;subst e;rfl
  |false=>
  cases h3:k==3 with
  |true=>rfl
  |false=>simp only[dP,Bool.false_or];exact adU ks h.1
def adU:∀ts:List Tn,aie ts=true->(vW ts).isNone=EL ts
 |[],_=>rfl
 |t::ts,h=>by
  rw[aie,AL] at h;have h1:=aiq t h.1;have h2:=adU ts h.2;rw[vW,EL,<-h1,<-h2];cases yD t with
  |none=>rfl
  |some a=>cases vW ts<;>rfl
end
def Qg(l:List Bool):au:=l.map λb=>[.bool b]
def air(l:List Bool):(Qg l).length=l.length:=by simp[Qg]
def ais(l:List Bool)(j:Nat):(Qg l)[j]? =(l[j]?).map λb=>[D.bool b]:=by simp[Qg]
def alZ(l:List Bool):aA (Qg l)=true:=by simp only[aA,Qg,List.all_map,List.all_eq_true];intro x _;rfl
def apl(l:List Nd)(L:List Bool)(i:Nat):Prop:=L.length=i∧∀b u,Lies l b u->b+sizes u.kids<i->L[b+sizes u.kids]? =some (abS u)
def TQ:∀a b:List Tn,EL (a++b)=(EL a||EL b)
 |[],b=>rfl
 |t::a,b=>by rw[SS,EL,EL,TQ a b,Bool.or_assoc]
def apm{l:List Nd}{o:Bool}{L:List Bool}{i:Nat}(hI:apl l L i)(hl:l.length<=90000000){b:Nat}{u:Tn}(hu:Lies l b u)(hi:b+sizes u.kids=i)(is:Bool):
  M.Eh (dW o l) (i:Int) (Qg L) (is,0)=some (is||EL u.kids,(u.kids.length:Int)):=by
 obtain⟨k,n,x,y,ks⟩:=u;have hroot:l[b+sizes ks]? =some ⟨k,n,x,y,ends ks b⟩:=hu.root;simp only[Tn.kids] at hi⊢;rw[hi] at hroot;have hlt:=hu.lt;rw[Tn.size] at hlt;have av4:=jT ks;have hloop:=kX (b:=M.Ap (dW o l) (i:Int) (Qg L)) (t:=(is||EL ks,(ks.length:Int))) (λj=>(is||EL (ks.take j),(j:Int))) ks.length
  (by
   intro j hj;obtain⟨t,ht⟩:∃t,ks[j]? =some t:=⟨ks[j],by simp⟩
   have he:=Qa (b:=b) ht;have hst:=Gn ht;have hts:=t.Ju;have hLt:=hI.2 _ t (Lies.P9 hu ht) (by omega);rw[kY ht,TQ,<-Bool.or_assoc];generalize (is||EL (ks.take j))=c;simp only[M.Ap,M.vF,dF,qN,hroot,Jf,ah,cD3,dn,iQ,jS,he,LQ,O9,ais,hLt];rw[zdt (by omega),bW,aG (by omega) (by omega)];cases c with
   |true=>rfl
   |false=>simp only[dP,EL,Bool.or_false,Bool.false_or];rfl)
  (by simp only[M.Ap,M.vF,dF,qN,hroot,Jf,ah,cD3,dn,iQ];rw[uh (by omega),dP,List.take_length]) 0 (Nat.zero_le _)
 rw[rE,List.take_zero,EL,Bool.or_false] at hloop;exact hloop
def apn{t:Tn}{o:Bool}(h:t.size<=90000000):∃L,apl (t.flat 0) L t.size∧M.uK (dW o (t.flat 0))=some (Qg L):=by
 have key:∀(m i:Nat) (L:List Bool),t.size - i=m->i<=t.size->apl (t.flat 0) L i->∃L',apl (t.flat 0) L' t.size∧fF (M.vH (dW o (t.flat 0))) ((i:Int),Qg L)=some ((t.size:Int),Qg L'):=by
  intro m;induction m with
  |zero=>
   intro i L hm hi hI;have:i=t.size:=by omega
   subst this;refine⟨L,hI,dD ?_⟩;simp only[lJ,M.vH,M.vG,iM,t.flat_length];rw[uh (by omega),dP]
  |succ m ih=>
   intro i L hm hi hI;have hlt:i<t.size:=by omega
   obtain⟨b,u,hu,hbi⟩:=arh hlt;have hroot:=Lies.root' hu;rw[hbi] at hroot;have hin:=λb u hu hbi=>apm (o:=o) hI (Qe h).1 (b:=b) (u:=u) hu hbi (u.kind==3)
   have hin0:=hin b u hu hbi;have hL:=hI.1;have hstep:M.vH (dW o (t.flat 0)) ((i:Int),Qg L)=some (.inl (((i+1:Nat):Int),Qg (L++[u.kind==3||EL u.kids]))):=by simp only[lJ,M.vH,M.vG,iM,t.flat_length,dF,qN,hroot,Jf,ah,cD0,hin0,air,GX];rw[zdt (by omega),bW,dN (by omega),bW,dN (by omega),bW,aG (by omega) (by omega)];simp[Qg]
   rw[eF hstep];refine ih (i+1) _ (by omega) hlt ⟨by simp[hL],λb2 u2 hu2 hb2=> ?_⟩
   by_cases hc:b2+sizes u2.kids<i
   ·rw[List.getElem?_append_left (by omega)];exact hI.2 b2 u2 hu2 hc
   ·have hb2:b2+sizes u2.kids=i:=by omega
    have h2:=hin b2 u2 hu2 hb2;have hr2:=Lies.root' hu2;rw[hb2,hroot] at hr2;simp only[gQ,Nd.mk.injEq] at hr2;rw[<-hr2.1,hin0] at h2;simp only[gQ,je] at h2;rw[hb2,List.getElem?_append_right (by omega),hL,Nat.sub_self,List.getElem?_cons_zero,h2.1,hr2.1];cases u2;rfl
 obtain⟨L,h1,h2⟩:=key t.size 0 [] rfl (Nat.zero_le _) ⟨rfl,λ_ _ _ h=>absurd h (Nat.not_lt_zero _)⟩;have e0:Qg []=[]:=rfl;rw[rE,e0] at h2;refine⟨L,h1, ?_⟩;simp only[M.uK,M.FX,M.Ei,h2,ah,alZ,bW]
def isI(l:List Nd)(p:Pc)(r:Row):Prop:=∃b,Lies l b p.1∧r=[.int .i64 ((b+sizes p.1.kids:Nat):Int),.int .i64 p.2.1,.bool p.2.2]
def Ja(l:List Nd):List Pc->au->Prop
 |[],rows=>rows=[]
 |p::ps,rows=>∃r rs,rows=r::rs∧isI l p r∧Ja l ps rs
def GL{l:List Nd}:∀{ts:List Pc} {rows:au},Ja l ts rows->rows.length=ts.length
 |[],_,h=>by rw[Ja] at h;rw[h];rfl
 |t::ts,_,⟨r,rs,e,_,h2⟩=>by subst e;rw[vX,GL h2,vX]
def N8{l:List Nd}:∀{a b:List Pc} {ra rb:au},Ja l a ra->Ja l b rb->Ja l (a++b) (ra++rb)
 |[],_,_,_,h,h2=>by rw[Ja] at h;subst h;exact h2
 |t::ts,_,_,_,⟨r,rs,e,h1,h2⟩,h3=>by subst e;exact⟨r,_,rfl,h1,N8 h2 h3⟩
def adV{l:List Nd}:∀{ps:List Pc} {rows:au},Ja l ps rows->rows.all (λr=>r.all D.flat)=true
 |[],_,h=>by rw[Ja] at h;subst h;rfl
 |p::ps,_,⟨r,rs,e,⟨b,_,e1⟩,h2⟩=>by subst e;subst e1;rw[List.all_cons,adV h2];rfl
def UU{l:List Nd}{ps:List Pc}{rows:au}(h:Ja l ps rows):aA rows.reverse=true:=by rw[aA,List.all_reverse];exact adV h
def akI{l:List Nd}{b:Nat}{k n:Int}{x y:aC}{ks:List Tn}(hu:Lies l b (.mk k n x y ks))(n':Int)(x':aC)(k' ii:Int)(ff:Bool){st:List Pc}{rows:au}(hst:Ja l st rows)(hl:l.length<=90000000)(hs:st.length<=1000000000):
  ∃ps,Ja l (ks.map λt=>(t,ii,ff)) ps∧M.jl rows.reverse k' n' x' (encI (ends ks b)) ii ff=some (ps++rows).reverse:=by
 have hlt:=hu.lt;rw[Tn.size] at hlt;have av4:=jT ks;have hrl:=GL hst;have aQ0:∀j t,ks[j]? =some t->isI l (t,ii,ff) [.int .i64 ((b+sizes (ks.take j)+sizes t.kids:Nat):Int),.int .i64 ii,.bool ff]:=λj t ht=>⟨_,Lies.P9 hu ht,rfl⟩
 have key:∀(j:Nat),j<=ks.length->∀ps,Ja l ((ks.drop j).map λt=>(t,ii,ff)) ps->∃ps',Ja l (ks.map λt=>(t,ii,ff)) ps'∧
   fF (M.Ce ii ff k' n' x' (encI (ends ks b))) ((j:Int) - 1,(ps++rows).reverse)=some (-1,(ps'++rows).reverse):=by
  intro j;induction j with
  |zero=>intro _ ps hps;refine⟨ps,hps,dD ?_⟩;simp only[lJ,M.Ce,M.xU];rw[uh (by omega),dP];rfl
  |succ j ihj=>
   intro hj ps hps;obtain⟨t,ht⟩:∃t,ks[j]? =some t:=⟨ks[j],by simp⟩
   have he:=Qa (b:=b) ht;have hpl:=GL hps;rw[List.length_map,List.length_drop] at hpl;have hdr:ks.drop j=t::ks.drop (j+1):=by obtain⟨h1,h2⟩:=Je.1 ht;rw[List.drop_eq_getElem_cons h1,h2]
   have hlen:(ps++rows).reverse.length<=2000000000:=by rw[List.length_reverse,vS];omega
   obtain⟨ps',h1,h2⟩:=ihj (by omega) ([.int .i64 ((b+sizes (ks.take j)+sizes t.kids:Nat):Int),.int .i64 ii,.bool ff]::ps) (by rw[hdr];exact⟨_,_,rfl,aQ0 j t ht,hps⟩);refine⟨ps',h1, ?_⟩;rw[show(((j+1:Nat):Int) - 1)=(j:Int) by omega,<-h2];refine eF ?_;simp only[lJ,M.Ce,M.xU,dF,jS,he,Jf,ah,LQ,GX];rw[zdt (by omega),bW,dN (by omega),bW,dN (by omega),bW,aG (by omega) (by omega)];simp
 obtain⟨ps,h1,h2⟩:=key ks.length (Nat.le_refl _) [] (by rw[List.drop_length];rfl);rw[List.nil_append] at h2;refine⟨ps,h1, ?_⟩;simp only[M.jl,M.IL,M.FZ,dn,iQ];rw[aG (by omega) (by omega),h2];simp only[ah,UU (N8 h1 hst),bW]
def cost(p:Pc):Nat×Bool:=bif p.2.2 then(((yD p.1).getD []).length,false) else(bh p.1)
def SA:List Pc->Nat×Bool
 |[]=>(0,false)
 |p::ps=>bif(cost p).2 then cost p else((cost p).1+(SA ps).1,(SA ps).2)
def abT:∀a b:List Pc,SA (a++b)=bif(SA a).2 then SA a else((SA a).1+(SA b).1,(SA b).2)
 |[],b=>by simp[SA]
 |t::a,b=>by
  rw[SS,SA,SA,abT a b];cases h:(cost t).2 with
  |true=>simp[h]
  |false=>simp only[dP];cases h2:(SA a).2<;>simp[Nat.add_assoc,h2]
def akJ(i:Int):∀ts:List Tn,SA (ts.map λt=>(t,i,false))=Ns ts
 |[]=>rfl
 |t::ts=>by rw[JI,SA,Ns,akJ i ts];rfl
def ait(i:Int):∀(ts:List Tn) (s:aC),vW ts=some s->SA (ts.map λt=>(t,i,true))=(s.length,false)
 |[],s,h=>by cases h;rfl
 |t::ts,s,h=>by
  rw[vW] at h;cases ha:yD t with
  |none=>rw[ha] at h;cases h
  |some a=>
   rw[ha] at h;cases hb:vW ts with
   |none=>rw[hb] at h;cases h
   |some b=>rw[hb] at h;cases h;rw[JI,SA,ait i ts b hb];simp[cost,ha]
def aiu:∀(st:List Pc),(∀p,p∈st->p.2.2=false)->SA st=Ns (zB st)
 |[],_=>rfl
 |p::st,h=>by
  have e:=h p ZQ;have ec:cost p=(bh p.1):=by rw[cost,e];rfl
  have:=aiu st λq hq=>h q (XR _ hq)
  rw[SA,this,ec];rfl
def RInv(st:List Pc):Prop:=∀p,p∈st->dOk p.1=true∧(p.2.2=true->∃s,yD p.1=some s)
def abU:∀{ts:List Tn} {s:aC} {t:Tn},vW ts=some s->t∈ts->∃a,yD t=some a
 |[],_,_,_,h=>by cases h
 |u::ts,s,t,h,ht=>by
  rw[vW] at h;cases ha:yD u with
  |none=>rw[ha] at h;cases h
  |some a=>
   rw[ha] at h;cases hb:vW ts with
   |none=>rw[hb] at h;cases h
   |some b=>
    rcases List.mem_cons.1 ht with rfl|ht
    ·exact⟨a,ha⟩
    ·exact abU hb ht
def UW{k n:Int}{x y:aC}{ks:List Tn}(h1:(k==1)=false)(h2:(k==2)=false)(h3:(k==3)=false):yD (.mk k n x y ks)=vW ks:=by rw[yD,h1,h2,h3];rfl
def RInv.kids{k n:Int}{x y:aC}{ks:List Tn}{i:Int}{f:Bool}{st:List Pc}(h:RInv ((.mk k n x y ks,i,f)::st))(h1:(k==1)=false)(h2:(k==2)=false)(h3:(k==3)=false)(j:Int)(g:Bool)
  (hg:g=true->∃s,yD (.mk k n x y ks)=some s):RInv (ks.map (λt=>(t,j,g))++st):=by
 intro p hp;rcases List.mem_append.1 hp with hp|hp
 ·obtain⟨t,ht,rfl⟩:=List.mem_map.1 hp;obtain⟨h4,h5⟩:=h _ ZQ;rw[dOk,AL] at h4;refine⟨Wp h4.1 ht,λe=> ?_⟩;obtain⟨s,hs⟩:=hg e;rw[UW h1 h2 h3] at hs;exact abU hs ht
 ·exact h p (XR _ hp)
def apo{l:List Nd}{o:Bool}(hl:l.length<=90000000){b:Nat}{k n:Int}{x y:aC}{ks:List Tn}(hu:Lies l b (.mk k n x y ks))(rest:au)(room:Int)(at_:Int){ii:Int}{f:Bool}{st:List Pc}{rows:au}(hst:Ja l st rows)(hs:st.length<=1000000000)
  (hr:0<=room) (hx:x.length<=20000000000000) (hr2:room<=40000000000000) (hdn:Qd k n x ks.length=true) (aiv:f=true->(k==3)=false):
  ∃ps,Ja l (ks.map λt=>(t,ii,f)) ps∧
  M.fO (dW o l) rest (room,at_,([.int .i64 ((b+sizes ks:Nat):Int),.int .i64 ii,.bool f]::rows).reverse)=
   some (bif k==1 then .inl (room - (x.length:Int),at_,(ps++rows).reverse) else bif k==2 then(bif !f then .inr (.inl ()) else .inl (room - 1,at_,(ps++rows).reverse)) else bif k==3 then .inr (.inl ()) else .inl (room,at_,(ps++rows).reverse)):=by
 obtain⟨ps,hps,hkids⟩:=akI (l:=l) hu n x k ii f hst hl hs;refine⟨ps,hps, ?_⟩;have hroot:l[b+sizes ks]? =some ⟨k,n,x,y,ends ks b⟩:=hu.root;have hrl:=GL hst;generalize hR:[D.int .i64 ((b+sizes ks:Nat):Int),.int .i64 ii,.bool f]=R;have c0:eu .i64 R 0=some ((b+sizes ks:Nat):Int):=by rw[<-hR];rfl
 have c1:eu .i64 R 1=some ii:=by rw[<-hR];rfl
 have c2:Ji R 2=some f:=by rw[<-hR];rfl
 have hlen:((R::rows).reverse.length:Int)=(rows.length:Int)+1:=by simp
 have apj:i64.wrap ((rows.length:Int)+1 - 1)=(rows.length:Int):=(aG (by omega) (by omega)).trans (by omega);have hget:(R::rows).reverse[rows.length]? =some R:=by rw[List.reverse_cons];exact ZH rows R
 have htk:(R::rows).reverse.take rows.length=rows.reverse:=by rw[List.reverse_cons];exact List.take_left' (by simp)
 have hd:(decide ((0:Int)<=(rows.length:Int)) && decide ((rows.length:Int)<=(rows.length:Int)+1))=true:=by simp;omega
 have hz:(((rows.length:Int)+1)==0)=false:=Nw.2 (by omega);have hge:decide (room>=0)=true:=zdt hr;have hfl:=UU hst;have asA:(k=1∨k=2∨k=3)->ps=[]:=by intro hk;have hc:=Ws hdn hk;have:ks=[]:=List.length_eq_zero_iff.1 hc;subst this;exact hps
 have hwa:i64.wrap (room - (x.length:Int))=room - (x.length:Int):=aG (by omega) (by omega);have hwb:i64.wrap (room - 1)=room - 1:=aG (by omega) (by omega);simp only[lJ,M.fO,M.lF,hwa,hwb,hge,hlen,hz,apj,dF,O9,hget,sb,c0,c1,c2,hd,bW,dP,qN,hroot,Jf,cD0,cD1,cD2,cD3,htk,hfl,hkids];cases h1:k==1 with
 |true=>rw[asA (.inl (by simpa using h1))];rfl
 |false=>
 cases h2:k==2 with
 |true=>rw[asA (.inr (.inl (by simpa using h2)))];cases f<;>rfl
 |false=>cases h3:k==3<;>rfl
def ari{l:List Nd}{o:Bool}(hl:l.length<=90000000){all:au}(hall:all.length<=1000000000):∀(m:Nat) (us rs:List Pc) (rows rws pre:au) (room:Int),sizes (zB us)+sizes (zB rs)<=m->m<=1000000000->Ja l us rows->Ja l rs rws->all=pre++rws->
  RInv (us++rs)-> -50000000000000<=room->room<=40000000000000->qB (zB us)+qB (zB rs)<=20000000000000->
  (decide (((SA (us++rs)).1:Int)<=room)=true∧fF (M.fO (dW o l) all.reverse) (room,(rws.length:Int),rows.reverse)=some (.inl ()))∨
  (decide (((SA (us++rs)).1:Int)<=room)=false∧∃s,fF (M.fO (dW o l) all.reverse) (room,(rws.length:Int),rows.reverse)=some (.inr s)):=by
 intro m;induction m with
 |zero=>
  intro us rs rows rws pre room hm hmb hU hR ha hI hr0 hr1 htx;have hu0:us=[]:=by
   cases us with
   |nil=>rfl
   |cons p us=>have:=p.1.size_pos;simp only[zB,JI,sizes] at hm;omega
  have aQ1:rs=[]:=by
   cases rs with
   |nil=>rfl
   |cons p us=>have:=p.1.size_pos;simp only[zB,JI,sizes] at hm;omega
  subst hu0;subst aQ1;rw[Ja] at hU hR;subst hU;subst hR
  by_cases hr:0<=room
  ·refine .inl ⟨zdt (by simpa[SA] using hr),dD ?_⟩;simp only[lJ,M.fO,M.lF,zdt (show room>=0 from hr)];rfl
  ·refine .inr ⟨uh (by simp[SA];omega),(room,0,[]),dD ?_⟩;simp only[lJ,M.fO,M.lF,uh (show¬room>=0 by omega)];rfl
 |succ m ih=>
  intro us rs rows rws pre room hm hmb hU hR ha hI hr0 hr1 htx
  by_cases hr:0<=room
  case neg=>refine .inr ⟨uh (by omega),(room,(rws.length:Int),rows.reverse),dD ?_⟩;simp only[lJ,M.fO,M.lF,uh (show¬room>=0 by omega)];rfl
  have top:∀(p:Pc) (us rs:List Pc) (rows rws pre:au) (r:Row),sizes (zB (p::us))+sizes (zB rs)<=m+1->isI l p r->Ja l us rows->Ja l rs rws->all=pre++rws->RInv (p::us++rs)->qB (zB (p::us))+qB (zB rs)<=20000000000000->
    ∀R,M.fO (dW o l) all.reverse (room,(rws.length:Int),(r::rows).reverse)=R->
    (∀q:(Int×Int×au)⊕((Unit)⊕(Int×Int×au)),R=some q->
     (decide (((SA (p::us++rs)).1:Int)<=room)=true∧q=.inr (.inl ()))∨
     (∃s,q=.inl s∧((decide (((SA (p::us++rs)).1:Int)<=room)=true∧fF (M.fO (dW o l) all.reverse) s=some (.inl ()))∨
      (decide (((SA (p::us++rs)).1:Int)<=room)=false∧∃s',fF (M.fO (dW o l) all.reverse) s=some (.inr s')))))∧R≠none:=by
   intro p us rs rows rws pre r hm hp hU hR ha hI htx R hRd;obtain⟨t,ii,f⟩:=p;obtain⟨k,n,x,y,ks⟩:=t;obtain⟨b,hu,rfl⟩:=hp;simp only[Tn.kids] at hu hRd;obtain⟨hd0,hfl⟩:=hI _ ZQ;simp only at hd0 hfl;have hd1:=hd0;rw[dOk,AL] at hd1;have e1:zB ((Tn.mk k n x y ks,ii,f)::us)=Tn.mk k n x y ks::zB us:=rfl;rw[e1,sizes,Tn.size] at hm;rw[e1,qB,txs] at htx;have hul:=Sz us;have aiv:f=true->(k==3)=false:=by
    intro e;obtain⟨s,hs⟩:=hfl e;cases h3:k==3 with
    |false=>rfl
    |true=>
     have e3:k=3:=by simpa using h3
     subst e3;cases hs
   obtain⟨ps,hps,hone⟩:=apo (o:=o) hl hu all.reverse room (rws.length:Int) (ii:=ii) (f:=f) hU (by omega) hr (by omega) hr1 hd1.2 aiv;rw[hone] at hRd;subst hRd;refine⟨λq hq=> ?_,by simp⟩;simp only[gQ] at hq;subst hq;have hIr:RInv (us++rs):=λp hp=>hI p (XR _ hp)
   rw[SS,SA];cases h1:k==1 with
   |true=>
    have ek:k=1:=by simpa using h1
    have hk0:ks=[]:=List.length_eq_zero_iff.1 (Ws hd1.2 (.inl ek));subst hk0;have hc:cost (Tn.mk k n x y [],ii,f)=(x.length,false):=by subst ek;cases f<;>simp[cost,yD,bh,Ns]
    have hps0:ps=[]:=hps;subst hps0;simp only[bW,List.nil_append,hc,dP];refine .inr ⟨_,rfl, ?_⟩;have:=ih us rs rows rws pre (room - (x.length:Int)) (by omega) (by omega) hU hR ha hIr (by omega) (by omega) (by omega);have hdd:decide (((x.length+(SA (us++rs)).1:Nat):Int)<=room)=decide (((SA (us++rs)).1:Int)<=room - (x.length:Int)):=by rw[Bool.eq_iff_iff,decide_eq_true_eq,decide_eq_true_eq];omega
    rw[hdd];exact this
   |false=>
   cases h2:k==2 with
   |true=>
    have ek:k=2:=by simpa using h2
    have hk0:ks=[]:=List.length_eq_zero_iff.1 (Ws hd1.2 (.inr (.inl ek)));subst hk0;cases hf:f with
    |false=>
     have hc:cost (Tn.mk k n x y [],ii,false)=(0,true):=by subst ek;simp[cost,bh]
     simp only[hc,bW];exact .inl ⟨zdt (by omega),rfl⟩
    |true=>
     have hc:cost (Tn.mk k n x y [],ii,true)=(1,false):=by subst ek;simp[cost,yD]
     have hps0:ps=[]:=hps;subst hps0;simp only[bW,dP,List.nil_append,hc,Bool.not_true];refine .inr ⟨_,rfl, ?_⟩;have:=ih us rs rows rws pre (room - 1) (by omega) (by omega) hU hR ha hIr (by omega) (by omega) (by omega);have hdd:decide (((1+(SA (us++rs)).1:Nat):Int)<=room)=decide (((SA (us++rs)).1:Int)<=room - 1):=by rw[Bool.eq_iff_iff,decide_eq_true_eq,decide_eq_true_eq];omega
     rw[hdd];exact this
   |false=>
   cases h3:k==3 with
   |true=>
    have ek:k=3:=by simpa using h3
    have hf:f=false:=by
     cases hf:f with
     |false=>rfl
     |true=>rw[aiv hf] at h3;cases h3
    subst hf;have hc:cost (Tn.mk k n x y ks,ii,false)=(0,true):=by subst ek;simp[cost,bh]
    simp only[hc,bW];exact .inl ⟨zdt (by omega),rfl⟩
   |false=>
    simp only[dP];refine .inr ⟨_,rfl, ?_⟩;have hIk:=hI.kids h1 h2 h3 ii f hfl;have:=ih (ks.map (λt=>(t,ii,f))++us) rs (ps++rows) rws pre room (by rw[Wq,kK];omega) (by omega) (N8 hps hU) hR ha (by rw[AB];exact hIk) (by omega) (by omega) (by rw[Wq,KQ];omega);have hcf:SA (ks.map (λt=>(t,ii,f)))=cost (Tn.mk k n x y ks,ii,f):=by
     cases hf:f with
     |true=>rw[hf] at hfl;obtain⟨s,hs⟩:=hfl rfl;have hs':=hs;rw[UW h1 h2 h3] at hs';rw[ait ii ks s hs',cost,hs];rfl
     |false=>rw[akJ,cost,bh,h1,h2,h3];simp
    rw[AB,abT,hcf] at this;exact this
  cases us with
  |cons p us=>
   obtain⟨r,rows',rfl,hp,hU'⟩:=hU;obtain⟨t1,t2⟩:=top p us rs rows' rws pre r hm hp hU' hR ha hI htx _ rfl;cases hb:M.fO (dW o l) all.reverse (room,(rws.length:Int),(r::rows').reverse) with
   |none=>exact absurd hb t2
   |some q=>
    rcases t1 q hb with⟨h1,rfl⟩|⟨s,rfl,h1⟩
    ·exact .inl ⟨h1,dD hb⟩
    ·rw[eF hb];exact h1
  |nil=>
   rw[Ja] at hU;subst hU;cases rs with
   |nil=>rw[Ja] at hR;subst hR;refine .inl ⟨zdt (by simpa[SA] using hr),dD ?_⟩;simp only[lJ,M.fO,M.lF,zdt (show room>=0 from hr)];rfl
   |cons p rs=>
    obtain⟨r,acL,rfl,hp,hR'⟩:=hR;have aRR:=Sz rs;have hrl:=GL hR';have hm':sizes (zB [p])+sizes (zB rs)<=m+1:=by simp only[zB,JI,List.map_nil,sizes] at hm⊢;omega
    have aQ2:qB (zB [p])+qB (zB rs)<=20000000000000:=by simp only[zB,JI,List.map_nil,qB] at htx⊢;omega
    obtain⟨t1,t2⟩:=top p [] rs [] acL (pre++[r]) r hm' hp rfl hR' (by rw[ha];simp) hI aQ2 _ rfl;have hsame:M.fO (dW o l) all.reverse (room,(((r::acL).length:Nat):Int),[].reverse)=M.fO (dW o l) all.reverse (room,(acL.length:Int),[r].reverse):=by
     obtain⟨b,hu,rfl⟩:=hp;have asB:all.reverse[acL.length]? =some [.int .i64 ((b+sizes p.1.kids:Nat):Int),.int .i64 p.2.1,.bool p.2.2]:=by rw[ha,List.reverse_append,List.reverse_cons,AB,List.getElem?_append_right (by simp)];simp
     generalize hR:[D.int .i64 ((b+sizes p.1.kids:Nat):Int),.int .i64 p.2.1,.bool p.2.2]=R at asB⊢;have c0:eu .i64 R 0=some ((b+sizes p.1.kids:Nat):Int):=by rw[<-hR];rfl
     have c1:eu .i64 R 1=some p.2.1:=by rw[<-hR];rfl
     have c2:Ji R 2=some p.2.2:=by rw[<-hR];rfl
     have hge:decide (room>=0)=true:=zdt hr;have hl1:(((R::acL).length:Nat):Int)=(acL.length:Int)+1:=by simp
     have hz:(((acL.length:Int)+1)==0)=false:=Nw.2 (by omega);have hw1:i64.wrap ((acL.length:Int)+1 - 1)=(acL.length:Int):=(aG (by omega) (by omega)).trans (by omega);have hb1:Nat.ble ((0+1) * 24) 140737488355328=true:=dN (by omega);have hb2:Nat.ble (0+1) 140737488355328=true:=dN (by omega);have hz0:(((0:Nat):Int)==0)=true:=rfl;have hz1:(((1:Nat):Int)==0)=false:=rfl;have hq0:i64.wrap (((1:Nat):Int) - 1)=((0:Nat):Int):=(aG (by omega) (by omega)).trans (by omega);have hg0:([R]:au)[0]? =some R:=rfl;simp only[lJ,M.fO,M.lF,List.reverse_nil,List.reverse_singleton,hge,bW,dP,hl1,hz,hz0,hz1,hw1,dF,asB,sb,c0,c1,c2,List.nil_append,EN,GX,hb1,hb2,hR,hq0,hg0,O9]
    cases hb:M.fO (dW o l) all.reverse (room,(acL.length:Int),[r].reverse) with
    |none=>exact absurd hb t2
    |some q=>
     rcases t1 q hb with⟨h1,rfl⟩|⟨s,rfl,h1⟩
     ·exact .inl ⟨h1,dD (hsame.trans hb)⟩
     ·rw[eF (hsame.trans hb)];exact h1
def apq(ii:Int)(s:aC)(h0:0<=ii)(h1:ii<=200000)(hs:s.length<=80000000000000):M.oG (s.map byteRow) ii=some ((brk s ii).map byteRow):=by
 obtain⟨n,rfl⟩:∃n:Nat,ii=n:=⟨ii.toNat,by omega⟩
 have hloop:=kX (b:=M.Aq (n:Int)) (t:=((n:Int),(s++(10::List.replicate n 32)).map byteRow)) (λi=>((i:Int),(s++(10::List.replicate i 32)).map byteRow)) n
  (by
   intro i hi;have hlen:((s++(10::List.replicate i (32:UInt8))).map byteRow).length=s.length+(i+1):=by simp
   have e32:[[D.int .u8 32]]=[byteRow 32]:=rfl;simp only[M.Aq,M.vI,hlen];rw[zdt (by omega),bW,dN (by omega),bW,dN (by omega),bW,aG (by omega) (by omega),e32,<-List.map_singleton,<-List.map_append,AB,SS,<-List.replicate_succ'];rfl)
  (by simp only[M.Aq,M.vI];rw[uh (by omega),dP]) 0 (Nat.zero_le _)
 have e10:s.map byteRow++[[D.int .u8 10]]=(s++(10::List.replicate 0 32)).map byteRow:=by simp[byteRow]
 rw[rE] at hloop;simp only[M.oG,M.FY,List.length_map,M.Ej,e10,hloop,ah,Dx,bW];rw[dN (by omega),bW,dN (by omega),bW];rfl
section
variable {l:List Nd} {o:Bool} {b:Nat} {k n i w col:Int} {x y:aC} {ks:List Tn} {f:Bool} {rs out:au} {L:List Bool}
def av6(hl:rs.length<=1000000000)(hu:Lies l b (.mk k n x y ks))(hf:aA rs.reverse=true)(hL:L[b+sizes ks]? =some (abS (.mk k n x y ks)))(u:Tn)(h5:k=5->ks=[u]):M.uQ (dW o l) w (Qg L) (col,out,([.int .i64 ((b+sizes ks:Nat):Int),.int .i64 i,.bool f]::rs).reverse)=
  (bif k==1 then(bif((out.length+(x.map byteRow).length) * 1).ble 140737488355328 then(bif(out.length+(x.map byteRow).length).ble 140737488355328 then some (.inl (i64.wrap (col+(x.length:Int)),out++x.map byteRow,rs.reverse)) else none) else none) else
   bif k==2||k==3 then(bif f then(bif((out.length+1) * 1).ble 140737488355328 then(bif(out.length+1).ble 140737488355328 then some (.inl (i64.wrap (col+1),out++[[D.int IntKind.u8 32]],rs.reverse)) else none) else none) else
    (bif aA out then((M.oG out i).bind λr=>some (.inl (i,r,rs.reverse))) else none)) else
   bif k==5 then(bif f then((M.jl rs.reverse k n x (encI (ends ks b)) i true).bind λr=>some (.inl (col,out,r))) else
    (bif !(abS (.mk k n x y ks)) then((M.uq (dW o l) rs.reverse ((b+sizes u.kids:Nat):Int) i true (i64.wrap (w - col))).bind λq=>(M.jl rs.reverse k n x (encI (ends ks b)) i q).bind λr=>some (.inl (col,out,r))) else
     ((M.jl rs.reverse k n x (encI (ends ks b)) i false).bind λr=>some (.inl (col,out,r))))) else
   ((M.jl rs.reverse k n x (encI (ends ks b)) (i64.wrap (i+n)) f).bind λr=>some (.inl (col,out,r)))):=by
 have hroot:l[b+sizes ks]? =some ⟨k,n,x,y,ends ks b⟩:=hu.root;generalize hR:[D.int .i64 ((b+sizes ks:Nat):Int),.int .i64 i,.bool f]=R;have c0:eu .i64 R 0=some ((b+sizes ks:Nat):Int):=by rw[<-hR];rfl
 have c1:eu .i64 R 1=some i:=by rw[<-hR];rfl
 have c2:Ji R 2=some f:=by rw[<-hR];rfl
 have cb:∀z:Bool,Ji [D.bool z] 0=some z:=λ_=>rfl
 have hlen:((R::rs).reverse.length:Int)=(rs.length:Int)+1:=by simp
 have apj:i64.wrap ((rs.length:Int)+1 - 1)=(rs.length:Int):=(aG (by omega) (by omega)).trans (by omega);have hget:(R::rs).reverse[rs.length]? =some R:=by rw[List.reverse_cons];exact ZH rs R
 have htk:(R::rs).reverse.take rs.length=rs.reverse:=by rw[List.reverse_cons];exact List.take_left' (by simp)
 have hd:(decide ((0:Int)<=(rs.length:Int)) && decide ((rs.length:Int)<=(rs.length:Int)+1))=true:=by simp;omega
 have hgt:decide ((rs.length:Int)+1>0)=true:=zdt (by omega);simp only[M.uQ,M.Em,hlen,apj,hgt,dF,O9,hget,sb,c0,c1,c2,hd,bW,htk,qN,hroot,Jf,cD0,cD1,cD2,cD3,hf,ais,hL,cb];cases h1:k==1 with
 |true=>rfl
 |false=>
 cases h2:k==2 with
 |true=>rfl
 |false=>
 cases h3:k==3 with
 |true=>rfl
 |false=>
 cases h5':k==5 with
 |false=>rfl
 |true=>
  have hks:=h5 (by simpa using h5');subst hks;have e0:idx (encI (ends [u] b)) 0=some [D.int .i64 ((b+sizes u.kids:Nat):Int)]:=by have:=dF (encI (ends [u] b)) 0;rw[rE] at this;rw[this,jS,Qa (ks:=[u]) (j:=0) (t:=u) rfl];rfl
  cases f with
  |true=>rfl
  |false=>
   cases abS (.mk k n x y [u]) with
   |true=>rfl
   |false=>simp only[dP,Bool.not_false,bW,e0,ah,LQ,Bool.or_self]
end
def acM(st:List Pc):Prop:=∃a c,st=a++c∧(∀p,p∈a->p.2.2=true)∧∀p,p∈c->p.2.2=false
def acM.aIy{t:Tn}{i:Int}{st:List Pc}(h:acM ((t,i,false)::st)):∀p,p∈st->p.2.2=false:=by
 obtain⟨a,c,e,h1,h2⟩:=h;cases a with
 |nil=>rw[List.nil_append] at e;intro p hp;exact h2 p (by rw[<-e];exact XR _ hp)
 |cons q a=>rw[SS] at e;cases e;exact absurd (h1 _ ZQ) (by simp)
def acM.tail{p:Pc}{st:List Pc}(h:acM (p::st)):acM st:=by
 obtain⟨a,c,e,h1,h2⟩:=h;cases a with
 |nil=>rw[List.nil_append] at e;exact⟨[],st,rfl,(λ_ h=>by cases h),λq hq=>h2 q (by rw[<-e];exact XR _ hq)⟩
 |cons q a=>rw[SS] at e;cases e;exact⟨a,c,rfl,λq hq=>h1 q (XR _ hq),h2⟩
def acM.kids{t:Tn}{i:Int}{f:Bool}{st:List Pc}(h:acM ((t,i,f)::st))(ks:List Tn)(j:Int)(g:Bool)(hg:f=true->g=true):acM (ks.map (λt=>(t,j,g))++st):=by
 cases g with
 |true=>
  obtain⟨a,c,e,h1,h2⟩:=h.tail;refine⟨ks.map (λt=>(t,j,true))++a,c,by rw[e,AB],λp hp=> ?_,h2⟩;rcases List.mem_append.1 hp with hp|hp
  ·obtain⟨t,_,rfl⟩:=List.mem_map.1 hp;rfl
  ·exact h1 p hp
 |false=>
  cases f with
  |true=>exact absurd (hg rfl) (by simp)
  |false=>
   have hn:=h.aIy;refine⟨[],ks.map (λt=>(t,j,false))++st,rfl,(λ_ h=>by cases h),λp hp=> ?_⟩;rcases List.mem_append.1 hp with hp|hp
   ·obtain⟨t,_,rfl⟩:=List.mem_map.1 hp;rfl
   ·exact hn p hp
structure ajA(l:List Nd)(m:Nat)(st:List Pc)(rows:au)(s:aC)(col:Int):Prop where
 sz:sizes (zB st)<=m
 is:Ja l st rows
 inv:aph st
 rin:RInv st
 fin:acM st
 pos:0<=col
 len:s.length+(qB (zB st)+m * 200001)<=40000000000000
 col:col+(qB (zB st)+m * 200001)<=40000000000000
 tx:qB (zB st)<=10000000000000
def ajA.rest{l:List Nd}{m:Nat}{k n:Int}{x y:aC}{ks:List Tn}{i:Int}{f:Bool}{st:List Pc}{r:Row}{rs:au}{s s':aC}{col col':Int}(h:ajA l (m+1) ((.mk k n x y ks,i,f)::st) (r::rs) s col)
  (h0:0<=col') (h1:s'.length<=s.length+(x.length+200001)) (h2:col'<=col+(x.length+200001)):ajA l m st rs s' col':=by
 obtain⟨a1,⟨r',rs',e,_,a2⟩,a3,b1,b2,a4,a5,a6,a7⟩:=h;cases e;simp only[zB,JI,sizes,Tn.size,qB,txs] at a1 a5 a6 a7;refine⟨?_,a2,λp hp=>a3 p (XR _ hp),λp hp=>b1 p (XR _ hp),b2.tail,h0, ?_, ?_, ?_⟩<;>simp only[zB]<;>omega
def ajA.kids{l:List Nd}{m:Nat}{k n:Int}{x y:aC}{ks:List Tn}{i:Int}{f:Bool}{st:List Pc}{r:Row}{rs ps:au}{s:aC}{col:Int}(h:ajA l (m+1) ((.mk k n x y ks,i,f)::st) (r::rs) s col)
  {j:Int} {g:Bool} (h1:i<=j) (h2:j<=i+40) (hp:Ja l (ks.map λt=>(t,j,g)) ps) (k1:(k==1)=false) (k2:(k==2)=false) (k3:(k==3)=false) (hg:g=true->∃s,yD (.mk k n x y ks)=some s) (hfg:f=true->g=true):
  ajA l m (ks.map (λt=>(t,j,g))++st) (ps++rs) s col:=by
 obtain⟨a1,⟨r',rs',e,_,a2⟩,a3,b1,b2,a4,a5,a6,a7⟩:=h;cases e;simp only[zB,JI,sizes,Tn.size,qB,txs] at a1 a5 a6 a7;refine⟨?_,N8 hp a2,a3.kids j g h1 h2,b1.kids k1 k2 k3 j g hg,b2.kids ks j g hfg,a4, ?_, ?_, ?_⟩<;>rw[Wq]<;>simp only[zB,kK,KQ]<;>omega
def arj(T:Tn)(o:Bool)(hT:T.size<=4000)(L:List Bool)(hL:apl (T.flat 0) L T.size)(w:Int)(hw0:0<=w)(hw1:w<=10000):∀(m:Nat) (st:List Pc) (rows:au) (s:aC) (col:Int),m<=4000->ajA (T.flat 0) m st rows s col->
  ∃col',fF (M.uQ (dW o (T.flat 0)) w (Qg L)) (col,s.map byteRow,rows.reverse)=some (col',(lay w m st s col).map byteRow,[]):=by
 intro m;induction m with
 |zero=>
  intro st rows s col hmb hH;cases st with
  |cons p st=>have:=p.1.size_pos;have:=hH.sz;simp only[zB,JI,sizes] at this;omega
  |nil=>have hP:=hH.is;rw[Ja] at hP;subst hP;exact⟨col,dD rfl⟩
 |succ m ih=>
  intro st rows s col hmb hH;cases st with
  |nil=>have hP:=hH.is;rw[Ja] at hP;subst hP;exact⟨col,dD rfl⟩
  |cons p st=>
   obtain⟨t,i,f⟩:=p;obtain⟨k,n,x,y,ks⟩:=t;obtain⟨r,rs,rfl,⟨b,hu,rfl⟩,hPs⟩:=hH.is;obtain⟨hd0,hi0,hi1⟩:=hH.inv _ ZQ;obtain⟨_,apr⟩:=hH.rin _ ZQ;simp only[Tn.kids] at hd0 hi0 hi1 hu apr hH⊢;have hsz:=hH.sz;have hln:=hH.len;have hcl:=hH.col;have htx:=hH.tx;have hps:=hH.pos;have hrl:=GL hPs;have av2:=Sz st;have av4:=jT ks;have hlt:=hu.lt;rw[T.flat_length,Tn.size] at hlt;have e1:zB ((Tn.mk k n x y ks,i,f)::st)=Tn.mk k n x y ks::zB st:=rfl;rw[e1,sizes,Tn.size] at hsz;rw[e1,qB,txs] at hln hcl htx;rw[Tn.size] at hi1;have hd1:=hd0;rw[dOk,AL] at hd1;have hLb:=hL.2 b _ hu (by simp only[Tn.kids];omega);simp only[Tn.kids] at hLb;have aIz:(T.flat 0).length<=90000000:=by rw[T.flat_length];omega
   obtain⟨u,hu5⟩:∃u,k=5->ks=[u]:=by
    cases ks with
    |nil=>exact⟨.mk 0 0 [] [] [],λe=>absurd (apk hd1.2 e) (by simp)⟩
    |cons v vs=>exact⟨v,λe=>by have:=apk hd1.2 e;cases vs with
      |nil=>rfl
      |cons _ _=>simp at this⟩
   have hb:=av6 (o:=o) (i:=i) (w:=w) (col:=col) (f:=f) (rs:=rs) (out:=s.map byteRow) (L:=L) (by omega) hu (UU hPs) hLb u hu5;have hkids:=fun(ii:Int) (ff:Bool)=>akI hu n x k ii ff hPs aIz (by omega)
   generalize ([.int .i64 ((b+sizes ks:Nat):Int),.int .i64 i,.bool f]:Row)=R at hb hH⊢;have hbr:=apq i s hi0 (by omega) (by omega);have hbl:(brk s i).length<=s.length+(x.length+200001):=by rw[brk,vS,vX,List.length_replicate];omega
   simp only[Dx,bW,List.length_map] at hb;rw[lay];cases h1:k==1 with
   |true=>rw[h1,bW,dN (by omega),bW,dN (by omega),bW,aG (by omega) (by omega),<-List.map_append] at hb;rw[eF hb,bW];exact ih st rs (s++x) _ (by omega) (hH.rest (by omega) (by rw[vS];omega) (by omega))
   |false=>
   rw[h1,dP] at hb;rw[dP];cases h23:(k==2||k==3) with
   |true=>
    rw[h23,bW] at hb;cases hf:f with
    |true=>
     have h2:(k==2)=true:=by
      cases h2:k==2 with
      |true=>rfl
      |false=>
       rw[h2,Bool.false_or] at h23;have ek:k=3:=by simpa using h23
       obtain⟨s',hs'⟩:=apr hf;subst ek;cases hs'
     have e32:[[D.int .u8 32]]=[byteRow 32]:=rfl;rw[hf,bW,dN (by omega),bW,dN (by omega),bW,aG (by omega) (by omega),e32,<-List.map_singleton,<-List.map_append] at hb;rw[eF hb,h2,Bool.and_self,bW];rw[hf] at hH;exact ih st rs (s++[32]) _ (by omega) (hH.rest (by omega) (by rw[vS,GX];omega) (by omega))
    |false=>rw[hf,dP,hbr,ah] at hb;rw[eF hb,Bool.and_false,dP,bW];rw[hf] at hH;exact ih st rs (brk s i) i (by omega) (hH.rest hi0 hbl (by omega))
   |false=>
   rw[h23,dP] at hb;obtain⟨h2,h3⟩:(k==2)=false∧(k==3)=false:=by simpa using h23
   rw[h2,Bool.false_and,dP,dP];have go:∀(j:Int) (g:Bool),i<=j->j<=i+40->(g=true->∃s,yD (.mk k n x y ks)=some s)->(f=true->g=true)->∀ps,Ja (T.flat 0) (ks.map λt=>(t,j,g)) ps->M.uQ (dW o (T.flat 0)) w (Qg L) (col,s.map byteRow,(R::rs).reverse)=some (.inl (col,s.map byteRow,(ps++rs).reverse))->
     ∃col',fF (M.uQ (dW o (T.flat 0)) w (Qg L)) (col,s.map byteRow,(R::rs).reverse)=some (col',(lay w m (ks.map (λt=>(t,j,g))++st) s col).map byteRow,[]):=by
    intro j g hj1 hj2 hg hfg ps hps hstep;rw[eF hstep];exact ih _ (ps++rs) s col (by omega) (hH.kids hj1 hj2 hps h1 h2 h3 hg hfg)
   cases h4:k==4 with
   |true=>
    have ek:k=4:=by simpa using h4
    have h5:(k==5)=false:=by rw[ek];rfl
    rw[ek] at hd1;obtain⟨hn0,hn1⟩:=akH hd1.2;obtain⟨ps,hps,hpush⟩:=hkids (i+n) f;rw[h5,dP,aG (by omega) (by omega),hpush,ah] at hb;rw[bW];exact go (i+n) f (by omega) (by omega) apr (λe=>e) ps hps hb
   |false=>
   rw[dP];cases h5:k==5 with
   |true=>
    rw[h5,bW] at hb;rw[bW];have ek:k=5:=by simpa using h5
    cases hf:f with
    |true=>obtain⟨ps,hps,hpush⟩:=hkids i true;rw[hf,bW,hpush,ah] at hb;rw[Bool.true_or];exact go i true (by omega) (by omega) (λ_=>apr hf) (λ_=>rfl) ps hps hb
    |false=>
     rw[hf,dP] at hb;rw[Bool.false_or];have hks:=hu5 ek;have aiv:=aiq (.mk k n x y ks) hd0;rw[<-aiv] at hb;cases hx:yD (.mk k n x y ks) with
     |none=>
      rw[hx] at hb;obtain⟨ps,hps,hpush⟩:=hkids i false;simp only[Option.isNone_none,Bool.not_true,dP,hpush,ah] at hb;have av7:abH w col (.mk k n x y ks) st=false:=by rw[abH,hx]
      rw[av7];exact go i false (by omega) (by omega) (λe=>by cases e) (λe=>by rw[hf] at e;cases e) ps hps hb
     |some a=>
      rw[hx] at hb;have hal:=Wn _ a hx;rw[txs,Tn.size] at hal;have hn:=acM.aIy (t:=.mk k n x y ks) (i:=i) (st:=st) (by have:=hH.fin;rw[hf] at this;exact this);have hxk:=hx;rw[UW h1 h2 h3,hks] at hxk;have hfu:∃a',yD u=some a'∧a'.length=a.length:=by
       rw[vW,vW] at hxk;cases hq:yD u with
       |none=>rw[hq] at hxk;cases hxk
       |some a'=>rw[hq] at hxk;cases hxk;exact⟨a',rfl,by simp⟩
      obtain⟨a',ha',hla⟩:=hfu;have hsu:sizes ks=u.size:=by rw[hks];simp[sizes]
      have htu:qB ks=txs u:=by rw[hks];simp[qB]
      have hmu:u∈ks:=by rw[hks];exact ZQ
      have aQ3:Ja (T.flat 0) [(u,i,true)] [[.int .i64 ((b+sizes u.kids:Nat):Int),.int .i64 i,.bool true]]:=by have:=Lies.P9 hu (j:=0) (t:=u) (by rw[hks];rfl);exact⟨_,[],rfl,⟨b,by simpa[sizes] using this,rfl⟩,rfl⟩
      have apg:=abN (zB st);have hfit:=ari (l:=T.flat 0) (o:=o) aIz (all:=rs) (by omega) (sizes (zB [(u,i,true)])+sizes (zB st)) [(u,i,true)] st _ rs [] (w - col) (Nat.le_refl _) (by simp only[zB,JI,List.map_nil,sizes];simp only[zB] at hsz;omega) aQ3 hPs rfl
       (λp hp=>by
        rcases List.mem_append.1 hp with hp|hp
        ·simp only[List.mem_singleton] at hp;subst hp;exact⟨Wp hd1.1 hmu,λ_=>⟨a',ha'⟩⟩
        ·exact hH.rin p (XR _ hp)) (by omega) (by omega) (by simp only[zB,JI,List.map_nil,qB];simp only[zB] at htx;omega)
      have hfb:(SA ([(u,i,true)]++st)).1=a.length+(Ns (zB st)).1:=by rw[List.singleton_append,SA,aiu st hn];simp[cost,ha',hla]
      rw[hfb] at hfit;have av7:abH w col (.mk k n x y ks) st=decide (((a.length+(Ns (zB st)).1:Nat):Int)<=w - col):=by rw[abH,hx];simp only[Int.natCast_add];rfl
      have hrun:M.uq (dW o (T.flat 0)) rs.reverse ((b+sizes u.kids:Nat):Int) i true (w - col)=some (abH w col (.mk k n x y ks) st):=by
       rw[av7];simp only[M.uq,M.IQ,List.length_reverse,M.F5];rw[List.reverse_singleton] at hfit;rcases hfit with⟨q1,q2⟩|⟨q1,s',q2⟩
       ·rw[q2,q1];rfl
       ·rw[q2,q1];rfl
      obtain⟨ps,hps,hpush⟩:=hkids i (abH w col (.mk k n x y ks) st);simp only[Option.isNone_some,Bool.not_false,bW] at hb;rw[aG (by omega) (by omega),hrun,ah,hpush,ah] at hb;exact go i _ (by omega) (by omega) (λ_=>⟨a,hx⟩) (λe=>by rw[hf] at e;cases e) ps hps hb
   |false=>have hn0:=av5 hd1.2 h1 h2 h3 h4 h5;rw[h5,dP,hn0,Int.add_zero,aG (by omega) (by omega)] at hb;rw[dP];obtain⟨ps,hps,hpush⟩:=hkids i f;rw[hn0] at hpush;rw[hpush,ah] at hb;exact go i f (by omega) (by omega) apr (λe=>e) ps hps hb
def abV{t:Tn}{o:Bool}(w:Int)(h:t.size<=90000000)(hx:∀n,n∈t.flat 0->n.text.length<=1000000000):M.rX (dW o (t.flat 0)) w=some (rnR t w):=by
 simp only[M.rX,M.EW,acK (o:=o) h hx,ah,I7,rnR,render];have apg:Nat.ble t.size 4000=decide (t.size<=4000):=by rw[Bool.eq_iff_iff,decide_eq_true_eq];exact Iff.of_eq Nat.ble_eq
 rw[apg,Bool.and_comm (decide (t.size<=4000))];cases hd:(dOk t) && decide (t.size<=4000) with
 |false=>rfl
 |true=>
  cases hw:decide (0<=w) && decide (w<=10000) with
  |false=>rfl
  |true=>
   simp only[AL,decide_eq_true_eq] at hd hw;have htx:=ajy 1000000000 t 0 hx;obtain⟨L,hL,hLr⟩:=apn (o:=o) h;have hp:=t.size_pos;have hs:=t.Ju;simp only[Bool.not_true,dP,Bool.and_self,bW,flR,hLr,ah,iM,t.flat_length];obtain⟨col',hl⟩:=arj t o hd.2 L hL w hw.1 hw.2 t.size [(t,0,false)] [[.int .i64 ((0+sizes t.kids:Nat):Int),.int .i64 0,.bool false]] [] 0 hd.2
    ⟨by simp[zB,sizes],⟨_,[],rfl,⟨0,Lies.whole t,rfl⟩,rfl⟩,(λp hp=>by simp only[List.mem_singleton] at hp;subst hp;refine⟨hd.1,Int.le_refl 0, ?_⟩;simp only;omega),(λp hp=>by simp only[List.mem_singleton] at hp;subst hp;exact⟨hd.1,λe=>by cases e⟩),
     ⟨[],_,rfl,(λ_ h=>by cases h),(λp hp=>by simp only[List.mem_singleton] at hp;subst hp;rfl)⟩,Int.le_refl 0,
     by simp only[zB,JI,List.map_nil,qB,EN];omega,by simp only[zB,JI,List.map_nil,qB];omega,by simp only[zB,JI,List.map_nil,qB];omega⟩
   rw[List.reverse_singleton] at hl;have e0:([]:aC).map byteRow=[]:=rfl;have ew:i64.wrap ((t.size:Int) - 1)=((0+sizes t.kids:Nat):Int):=(aG (by omega) (by omega)).trans (by omega);rw[e0] at hl;simp only[ew,M.IU,hl,ah,bytesOf_map]
def Zi(w:Int):M.rX [] w=some ([],false):=by simp only[M.rX,M.EW,adR.2,ah];rfl
def vM(s:aC):(GK s).size=1:=by simp[GK,Tn.size,sizes]
def Rz:NY.size=1:=by simp[NY,Tn.size,sizes]
def Wu(d:Tn):(TL d).size=d.size+1:=by simp[TL,Tn.size,sizes]
def akK(d:Tn):(aic d).size=d.size+1:=by simp[aic,Tn.size,sizes]
def Qh(l:List Tn):(Du l).size=sizes l+1:=by simp[Du,Tn.size]
def XC:∀(L:List Tn) (b:Bool),sizes (Lj b L)<=sizes L+2 * L.length
 |[],b=>by rw[Lj];simp[sizes]
 |x::l,b=>by have:=XC l false;cases b<;>simp only[Lj,bW,dP,kK,sizes,vM,Rz,vX]<;>omega
def abW(L:List Tn):(V5 L).size<=sizes L+2 * L.length+3:=by have:=XC L true;rw[V5,akK,Wu,Qh];omega
def adW:∀(L:List Tn) (j:Nat),(Gp L j).size<=sizes L+1
 |[],j=>by simp[Gp,sizes,vM]
 |x::l,0=>by simp only[Gp,List.getElem?_cons_zero,Option.getD_some,sizes];omega
 |x::l,j+1=>by have:=adW l j;simp only[Gp,List.getElem?_cons_succ,sizes] at this⊢;omega
def ajB:∀(L:List Tn),(Gp L 0).size+((Gp L 1).size+(Gp L 2).size)<=sizes L+3
 |[]=>by simp[Gp,sizes,vM]
 |[x]=>by simp[Gp,sizes,vM]
 |[x,y]=>by simp[Gp,sizes,vM];omega
 |x::y::z::l=>by simp[Gp,sizes];omega
def Bf{a b:Tn}{N:Nat}(c:Bool)(ha:a.size<=N)(hb:b.size<=N):(bif c then a else b).size<=N:=by cases c<;>assumption
def al0(k op:Int)(n:Nat)(x:aC)(g:Bool)(L:List Tn):(Ru k op n x g L).size<=sizes L+2 * L.length+9:=by
 have h1:=abW L;have h2:=adW L 0;have h3:=ajB L;unfold Ru;refine Bf _ ?_ (Bf _ ?_ (Bf _ ?_ (Bf _ ?_ (Bf _ ?_ (Bf _ ?_ (Bf _ ?_ (Bf _ ?_ (Bf _ (Bf _ ?_ ?_) (Bf _ ?_ (Bf _ ?_ ?_))))))))))
 all_goals(simp only[vM,Qh,akK,Wu,Rz,sizes]<;>omega)
def Wv(k op:Int)(n:Nat)(p:Ps):∀(ts:List Tn) (j:Nat),(pz k op n p ts j).length=ts.length
 |[],j=>by simp[pz]
 |t::ts,j=>by rw[pz,vX,Wv k op n p ts (j+1),vX]
def Jb(k op:Int)(n:Nat)(p:Ps)(j:Nat)(u:Tn):Tn:=bif nC k j||fits u.kind u.op (dZ k op n j p) then nD u (dZ k op n j p) else Du [GK [40],nD u .top,GK [41]]
def abX(a:Tn):(Du [GK [40],a,GK [41]]).size=a.size+3:=by simp only[Qh,vM,sizes];omega
def adX{k op:Int}{n:Nat}{p:Ps}{j:Nat}{u:Tn}(h:∀q,(nD u q).size+6<=16 * u.size):(Jb k op n p j u).size+3<=16 * u.size:=by
 unfold Jb;cases(nC k j||fits u.kind u.op (dZ k op n j p)) with
 |true=>have:=h (dZ k op n j p);rw[bW];omega
 |false=>have:=h .top;rw[dP,abX];omega
def abY{k op:Int}{n:Nat}{p:Ps}:∀{ts:List Tn} {j:Nat},(∀u,u∈ts->∀q,(nD u q).size+6<=16 * u.size)->sizes (pz k op n p ts j)+3 * ts.length<=16 * sizes ts
 |[],j,_=>by rw[pz];simp[sizes]
 |t::ts,j,h=>by
  have h1:=adX (k:=k) (op:=op) (n:=n) (p:=p) (j:=j) (h t ZQ);have h2:=abY (k:=k) (op:=op) (n:=n) (p:=p) (ts:=ts) (j:=j+1) λu hu=>h u (XR _ hu)
  unfold Jb at h1;rw[pz,sizes,sizes,vX];omega
def Gq(t:Tn):∀q,(nD t q).size+6<=16 * t.size:=by refine Tn.ind (P:=λt=>∀q,(nD t q).size+6<=16 * t.size) ?_ t;intro k op x y ks ih q;have h1:=al0 k op ks.length x (adP op (iW k op ks.length q ks 0)) (pz k op ks.length q ks 0);have h2:=abY (k:=k) (op:=op) (n:=ks.length) (p:=q) (ts:=ks) (j:=0) ih;rw[Wv] at h1;rw[nD,Tn.size];omega
def UY(t:Tn)(q:Ps):(Ez t q).size+3<=16 * t.size:=by
 have h1:=Gq t q;have h2:=Gq t .top;unfold Ez;cases fits t.kind t.op q with
 |true=>rw[bW];omega
 |false=>rw[dP,abX];omega
def abZ(p:Ps)(L:List Tn):(YH p L).size<=16 * sizes L+3:=by
 have h:∀L:List Tn,sizes (L.map λt=>Ez t p)+3 * L.length<=16 * sizes L:=by
  intro L;induction L with
  |nil=>simp[sizes]
  |cons t l ih=>have:=UY t p;simp only[JI,sizes,vX];omega
 have h1:=abW (L.map λt=>Ez t p);have h2:=h L;rw[List.length_map] at h1;unfold YH;omega
def UZ{a b:Int×Int}(c:Bool)(ha:(1<=a.1∧a.1<=14)∧1<=a.2∧a.2<=14)(hb:(1<=b.1∧b.1<=14)∧1<=b.2∧b.2<=14):(1<=(bif c then a else b).1∧(bif c then a else b).1<=14)∧1<=(bif c then a else b).2∧(bif c then a else b).2<=14:=by cases c<;>assumption
def aiw(op:Int):(1<=(sides op).1∧(sides op).1<=14)∧1<=(sides op).2∧(sides op).2<=14:=by unfold sides;exact UZ _ (by decide) (UZ _ (by decide) (UZ _ (by decide) (UZ _ (by decide) (UZ _ (by decide) (UZ _ (by decide) (UZ _ (by decide) (by decide)))))))
def ae2(k op:Int)(j:Nat):1<=Qb k op j∧Qb k op j<=14:=by have h:=aiw op;unfold Qb;exact EK _ (EK _ (by decide) (by decide)) (EK _ (EK _ (by decide) (by decide)) (EK _ (by decide) (EK _ (by decide) (EK _ (EK _ h.1 h.2) (by decide)))))
def sN{k op:Int}{n j:Nat}{p:Ps}(hp:kZ p=true)(hj:j<n)(hl:lvl k op≠0):kZ (dZ k op n j p)=true:=by
 have h1:Nat.blt j n=true:=by rw[Nat.blt_eq];exact hj
 have h2:(lvl k op==0)=false:=by simpa using hl
 unfold dZ;rw[hp,h1,h2];simp only[Bool.not_true,Bool.or_false,dP];cases(lvl k op==15||(k==13 && Nat.blt 1 n)) with
 |true=>rfl
 |false=>
  have hr:=ae2 k op j;simp only[dP,kZ];rw[zdt hr.1,zdt (show Qb k op j<=15 by omega)]
  by_cases h6:k=6
  ·subst h6;rfl
  ·have:(k==6)=false:=by simpa using h6
   rw[this];rfl
def RD{k op:Int}{n:Nat}{p q:Ps}(h:∀j,j<n->dZ k op n j p=dZ k op n j q):∀(ts:List Tn) (j:Nat),j+ts.length=n->iW k op n p ts j=iW k op n q ts j
 |[],_,_=>by rw[iW,iW]
 |t::ts,j,hj=>by rw[vX] at hj;rw[iW,iW,h j (by omega),RD h ts (j+1) (by omega)]
def YK{k op:Int}{n:Nat}{p q:Ps}(h:∀j,j<n->dZ k op n j p=dZ k op n j q):∀(ts:List Tn) (j:Nat),j+ts.length=n->pz k op n p ts j=pz k op n q ts j
 |[],_,_=>by rw[pz,pz]
 |t::ts,j,hj=>by rw[vX] at hj;rw[pz,pz,h j (by omega),YK h ts (j+1) (by omega)]
def Dy{k op:Int}{n j:Nat}{p:Ps}(hp:kZ p=true)(hj:j<n)(hl:lvl k op=15):dZ k op n j p=.top:=by
 have h1:Nat.blt j n=true:=by rw[Nat.blt_eq];exact hj
 unfold dZ;rw[hp,h1,hl];rfl
def Qi{k op:Int}(h:13<=lvl k op)(he:1<=k∧k<=15):lvl k op=15∨k=6∨k=9∨k=10:=by
 have hk:k=1∨k=2∨k=3∨k=4∨k=5∨k=6∨k=7∨k=8∨k=9∨k=10∨k=11∨k=12∨k=13∨k=14∨k=15:=by omega
 rcases hk with rfl|rfl|rfl|rfl|rfl|rfl|rfl|rfl|rfl|rfl|rfl|rfl|rfl|rfl|rfl
 all_goals first
  |(left;rfl)
  |(right;simp;done)
  |(exfalso;have h2:=(abG op).2;have h3:lvl 12 op=vT op:=rfl;omega)
  |(exfalso;revert h;simp[lvl];done)
def ae3{k op:Int}(h:k=1∨k=5∨k=6):13<=lvl k op∧(1<=k∧k<=15):=by rcases h with rfl|rfl|rfl<;>simp[lvl]
def YL{k op:Int}{a b c:Bool}{i j:Bool}(hl:lvl k op≠0):fits k op ⟨14,true,a,b,false⟩=fits k op ⟨14,true,i,j,false⟩:=by
 have e:∀a b,fits k op ⟨14,true,a,b,false⟩=(k==9||decide (14<=lvl k op)):=by
  intro a b;have h2:(lvl k op==0)=false:=by simpa using hl
  unfold fits;rw[h2,show kZ ⟨14,true,a,b,false⟩=true from rfl];simp only[Bool.not_true,Bool.or_false,dP,Bool.false_and,Bool.true_and]
  by_cases h13:k=13
  ·subst h13;have:lvl 13 op=5:=rfl;rw[this];cases a<;>cases b<;>rfl
  ·have e13:(k==13)=false:=by simpa using h13
   rw[e13,Bool.and_false,dP]
   by_cases h12:k=12∧op=62
   ·obtain⟨rfl,rfl⟩:=h12;cases b<;>rfl
   ·have e12:(k==12 && op==62)=false:=by rw[Bool.and_eq_false_iff,Nw,Nw];omega
    rw[e12,Bool.and_false,dP]
 rw[e,e]
def ajC(t:Tn):(GU t)->13<=lvl t.kind t.op->(TM t)->∀p q,kZ p=true->kZ q=true->sK t p=sK t q:=by
 refine Tn.ind (P:=λt=>(GU t)->13<=lvl t.kind t.op->(TM t)->∀p q,kZ p=true->kZ q=true->sK t p=sK t q) ?_ t;intro k op x y ks ih hok hl he p q hp hq;simp only[Tn.kind,Tn.op] at hl;simp only[TM,Tn.kind] at he;rw[sK,sK];congr 1;rcases Qi hl he with h|h
 ·exact RD (λj hj=>by rw[Dy hp hj h,Dy hq hj h]) ks 0 (by omega)
 ·have hn:ks.length=1:=(Qc hok).one (by omega);obtain⟨u,rfl⟩:=zlo.1 hn;obtain⟨hue,huo⟩:=V6 hok he (i:=0) (t:=u) rfl;obtain⟨huc,_⟩:=abE hok (i:=0) (t:=u) rfl;have hlu:1<=lvl u.kind u.op∧lvl u.kind u.op<=15:=by cases u;exact NZ hue (Qc huo)
  have hlk:lvl k op≠0:=by omega
  have kp:=sN (n:=[u].length) (j:=0) hp (by simp) hlk;have kq:=sN (n:=[u].length) (j:=0) hq (by simp) hlk;rw[iW,iW,iW,iW];congr 1;rcases h with rfl|h
  ·have e1:∀r:Ps,kZ r=true->dZ 6 op [u].length 0 r=⟨14,true,r.qh,r.qj,false⟩:=by intro r hr;unfold dZ;rw[hr];rfl
   rw[e1 p hp] at kp⊢;rw[e1 q hq] at kq⊢;have ht:nC 6 0=false:=rfl;rw[ht,Bool.false_or,Bool.false_or,YL (c:=false) (i:=q.qh) (j:=q.qj) (by omega)];cases hf:fits u.kind u.op ⟨14,true,q.qh,q.qj,false⟩ with
   |false=>rfl
   |true=>
    have av8:13<=lvl u.kind u.op:=by
     unfold fits at hf;revert hf;cases(!(kZ ⟨14,true,q.qh,q.qj,false⟩)||lvl u.kind u.op==0)<;>cases(q.qh && u.kind==13)<;>cases(q.qj &&(u.kind==12 && u.op==62))<;>simp;intro hf;rcases hf with h9|h14
     ·rw[h9];exact(show(13:Int)<=13 by omega)
     ·omega
    rw[bW,bW];exact ih u (by simp) huo av8 hue _ _ kp kq
  ·have ht:nC k 0=true:=by rcases h with rfl|rfl<;>rfl
   rw[ht,Bool.true_or,bW,Bool.true_or,bW];have hc6:cls k op [u].length 0=6:=by unfold cls;rw[if_pos (by omega)]
   rw[hc6] at huc;exact ih u (by simp) huo (ae3 huc).1 hue _ _ kp kq
def ajD(t:Tn):(GU t)->13<=lvl t.kind t.op->(TM t)->∀p q,kZ p=true->kZ q=true->nD t p=nD t q:=by
 refine Tn.ind (P:=λt=>(GU t)->13<=lvl t.kind t.op->(TM t)->∀p q,kZ p=true->kZ q=true->nD t p=nD t q) ?_ t;intro k op x y ks ih hok hl he p q hp hq;simp only[Tn.kind,Tn.op] at hl;simp only[TM,Tn.kind] at he;have hT:iW k op ks.length p ks 0=iW k op ks.length q ks 0∨k=6∨k=9∨k=10:=by
  rcases Qi hl he with h|h
  ·exact .inl (RD (λj hj=>by rw[Dy hp hj h,Dy hq hj h]) ks 0 (by omega))
  ·exact .inr h
 rw[nD,nD];have hg:∀g g' L,k≠11->Ru k op ks.length x g L=Ru k op ks.length x g' L:=by
  intro g g' L h11;have:(k==11)=false:=by simpa using h11
  unfold Ru;rw[this];rfl
 have h11:k≠11:=by
  rcases Qi hl he with h|h
  ·rintro rfl;exact absurd h (by change¬(11:Int)=15;decide)
  ·omega
 rw[hg _ (adP op (iW k op ks.length q ks 0)) _ h11];congr 1;rcases Qi hl he with h|h
 ·exact YK (λj hj=>by rw[Dy hp hj h,Dy hq hj h]) ks 0 (by omega)
 ·have hn:ks.length=1:=(Qc hok).one (by omega);obtain⟨u,rfl⟩:=zlo.1 hn;obtain⟨hue,huo⟩:=V6 hok he (i:=0) (t:=u) rfl;obtain⟨huc,_⟩:=abE hok (i:=0) (t:=u) rfl;have hlu:1<=lvl u.kind u.op∧lvl u.kind u.op<=15:=by cases u;exact NZ hue (Qc huo)
  have hlk:lvl k op≠0:=by omega
  have kp:=sN (n:=[u].length) (j:=0) hp (by simp) hlk;have kq:=sN (n:=[u].length) (j:=0) hq (by simp) hlk;rw[pz,pz,pz,pz];congr 1;rcases h with rfl|h
  ·have e1:∀r:Ps,kZ r=true->dZ 6 op [u].length 0 r=⟨14,true,r.qh,r.qj,false⟩:=by intro r hr;unfold dZ;rw[hr];rfl
   rw[e1 p hp] at kp⊢;rw[e1 q hq] at kq⊢;have ht:nC 6 0=false:=rfl;rw[ht,Bool.false_or,Bool.false_or,YL (c:=false) (i:=q.qh) (j:=q.qj) (by omega)];cases hf:fits u.kind u.op ⟨14,true,q.qh,q.qj,false⟩ with
   |false=>rfl
   |true=>
    have av8:13<=lvl u.kind u.op:=by
     unfold fits at hf;revert hf;cases(!(kZ ⟨14,true,q.qh,q.qj,false⟩)||lvl u.kind u.op==0)<;>cases(q.qh && u.kind==13)<;>cases(q.qj &&(u.kind==12 && u.op==62))<;>simp;intro hf;rcases hf with h9|h14
     ·rw[h9];exact(show(13:Int)<=13 by omega)
     ·omega
    rw[bW,bW];exact ih u (by simp) huo av8 hue _ _ kp kq
  ·have ht:nC k 0=true:=by rcases h with rfl|rfl<;>rfl
   rw[ht,Bool.true_or,bW,Bool.true_or,bW];have hc6:cls k op [u].length 0=6:=by unfold cls;rw[if_pos (by omega)]
   rw[hc6] at huc;exact ih u (by simp) huo (ae3 huc).1 hue _ _ kp kq
def U0{α:Type}(a b:Bool)(x y:α):(bif a||b then x else y)=bif a then x else bif b then x else y:=by cases a<;>rfl
def ae4{α:Type}(a b:Bool)(x y:α):(bif a && b then x else y)=bif a then(bif b then x else y) else y:=by cases a<;>rfl
def O8{α:Type}(a:Bool)(x y:α):some (bif a then x else y)=bif a then some x else some y:=by cases a<;>rfl
def Qj(op:Int):M.lC op=some (vT op)∧M.qV op=some (vT op):=by simp only[M.lC,M.Df,M.qV,M.Ih,vT,U0,O8];constructor<;>first|trivial|rfl
def Qk(k op:Int)(x y:aC)(r:au):M.lU k op x y r=some (lvl k op)∧M.dQ k op x y r=some (lvl k op):=by simp only[M.lU,M.Iz,M.dQ,M.Ii,lvl,U0,O8,(Qj op).1,(Qj op).2,ah];constructor<;>first|trivial|rfl
def Wx(p:Ps):M.qG p.level p.kV p.qh p.qj p.kE=some (kZ p)∧M.qE p.level p.kV p.qh p.qj p.kE=some (kZ p):=by simp only[M.qG,M.LW,M.qE,M.LU,aT,aJ,ah,kZ,ge_iff_le];cases(decide (1<=p.level) && decide (p.level<=15))<;>cases p.kV<;>exact⟨rfl,rfl⟩
def Nu:M.oM=some (1,false,false,false,false)∧M.jL=some (1,false,false,false,false):=⟨rfl,rfl⟩
def ark(k op:Int)(p:Ps):fits k op p=bif !(kZ p) then false else bif lvl k op==0 then false else bif p.qh && k==13 then false else bif p.qj &&(k==12 && op==62) then false else
  bif p.kE &&(k==11||(k==9||k==4)) then false else bif p.kV && k==9 then true else decide (p.level<=lvl k op):=by
 unfold fits;rw[U0];cases(p.kV && k==9)<;>rfl
def ZI(k op:Int)(x y:aC)(r:au)(p:Ps):M.Bl k op x y r p.level p.kV p.qh p.qj p.kE=some (fits k op p)∧M.Bj k op x y r p.level p.kV p.qh p.qj p.kE=some (fits k op p):=by rw[ark];simp only[M.Bl,M.NT,M.Bj,M.NR,(Qk k op x y r).1,(Qk k op x y r).2,(Wx p).1,(Wx p).2,ah,U0,ae4,O8];constructor<;>first|trivial|rfl
def nb0(j:Nat):((j:Int)==0)=Nat.beq j 0:=by cases j<;>rfl
def nb1(j:Nat):((j:Int)==1)=Nat.beq j 1:=by
 rcases j with _|_|j
 ·rfl
 ·rfl
 ·rw[Nw.2 (by omega)];rfl
def gt0(j:Nat):decide ((j:Int)>0)= !(Nat.beq j 0):=by
 cases j with
 |zero=>rfl
 |succ j=>rw[zdt (by omega)];rfl
def aix(op:Int)(j:Nat):M.uG op (j:Int)=some (bif Nat.beq j 0 then(sides op).1 else(sides op).2):=by simp only[M.uG,M.FM,(Qj op).1,ah,nb0,sides];cases vT op==3<;>cases vT op==4<;>cases vT op==6<;>cases vT op==7<;>cases vT op==8<;>cases vT op==9<;>cases vT op==10<;>cases Nat.beq j 0<;>rfl
def ajE(op:Int):M.uo op=some (sides op):=by simp only[M.uo,M.Io,(Qj op).2,ah,sides,O8]
def aiy(k op:Int)(x y:aC)(r:au)(j:Nat):M.qY k op x y r (j:Int)=some (Qb k op j):=by simp only[M.qY,M.FN,aix,ah,Qb,gt0];cases k==15<;>cases k==14<;>cases k==13<;>cases k==11<;>cases k==12<;>cases Nat.beq j 0<;>rfl
def Ps.yE(p:Ps):Int×Bool×Bool×Bool×Bool:=(p.level,p.kV,p.qh,p.qj,p.kE)
def akL(j n:Nat)(h:n<=1048576):(decide ((j:Int)>=0) && decide ((j:Int)<=i64.wrap ((n:Int) - 1)))=Nat.blt j n:=by
 rw[aG (by omega) (by omega)];cases hb:Nat.blt j n with
 |true=>rw[Nat.blt_eq] at hb;rw[zdt (by omega),zdt (by omega)];rfl
 |false=>
  have:¬j<n:=by rw[<-Nat.blt_eq,hb];simp
  rw[uh (show¬(j:Int)<=(n:Int) - 1 by omega),Bool.and_false]
def many(n:Nat):decide ((n:Int)>1)=Nat.blt 1 n:=by
 cases hb:Nat.blt 1 n with
 |true=>rw[Nat.blt_eq] at hb;exact zdt (by omega)
 |false=>
  have:¬1<n:=by rw[<-Nat.blt_eq,hb];simp
  exact uh (by omega)
def RF(k op:Int)(x y:aC)(r:au)(j:Nat)(p:Ps)(hr:r.length<=1048576):M.uH k op x y r (j:Int) p.level p.kV p.qh p.qj p.kE=some (dZ k op r.length j p).yE:=by
 simp only[M.uH,M.Kv,(Wx p).1,aJ,(Qk k op x y r).1,aiy,Nu.1,ah,akL j r.length hr,many,nb0,nb1,dZ];cases kZ p with
 |false=>rfl
 |true=>
  cases Nat.blt j r.length with
  |false=>rfl
  |true=>
   cases hz:(lvl k op==0) with
   |true=>rfl
   |false=>
    cases h15:(lvl k op==15) with
    |true=>rfl
    |false=>
     simp only[Bool.not_true,dP,Bool.false_or];have fin:∀z:Int,(bif k==11 then some (z,k==6,p.qh,p.qj,false) else bif k==9 then some (z,k==6,p.qh,p.qj,false) else bif k==10 then some (z,k==6,p.qh,p.qj,false) else bif k==6 then some (z,k==6,p.qh,p.qj,false) else
       bif Nat.beq j 0 then(bif p.kE then some (z,k==6,p.qh,p.qj,true) else bif Nat.beq j 1 then(bif k==12 then some (z,k==6,p.qh,p.qj,op==99) else some (z,k==6,p.qh,p.qj,false)) else some (z,k==6,p.qh,p.qj,false)) else
       bif Nat.beq j 1 then(bif k==12 then some (z,k==6,p.qh,p.qj,op==99) else some (z,k==6,p.qh,p.qj,false)) else some (z,k==6,p.qh,p.qj,false))=
       some (z,k==6,p.qh,p.qj,bif k==11||(k==9||(k==10||k==6)) then false else(Nat.beq j 0 && p.kE)||(Nat.beq j 1 &&(k==12 && op==99))):=by
      intro z;cases h11:(k==11) with
      |true=>rfl
      |false=>cases h9:(k==9) with
       |true=>rfl
       |false=>cases h10:(k==10) with
        |true=>rfl
        |false=>cases h6:(k==6) with
         |true=>rfl
         |false=>simp only[dP,Bool.or_false];cases Nat.beq j 0<;>cases p.kE<;>cases Nat.beq j 1<;>cases(k==12)<;>simp
     cases h13:(k==13) with
     |true=>
      cases Nat.blt 1 r.length with
      |true=>rfl
      |false=>exact fin _
     |false=>exact fin _
def YM(k op:Int)(x y:aC)(r:au)(j:Nat):M.oD k op x y r (j:Int)=some (nC k j):=by simp only[M.oD,M.FP,nb0,nC];cases Nat.beq j 0<;>cases k==9<;>cases k==10<;>rfl
def kG(k:Int)(hk:I64 k):M.iO k=some (k,spell k,0)∧M.dV k=some (k,spell k,0):=by simp only[M.iO,M.NU,M.dV,M.J7,(lM k hk).1,(lM k hk).2,ah];constructor<;>first|trivial|rfl
def opF(s:aC):List (aC)->Nat->Int->Nat->Int×Nat
 |[],_,k,m=>(k,m)
 |g::l,i,k,m=>bif Nat.blt m g.length && g.isPrefixOf s then opF s l (i+1) (30+(i:Int)) g.length else opF s l (i+1) k m
def ZJ(s:aC):∀(l:List (aC)) (i:Nat) (k:Int) (m:Nat),(opF s l i k m).2=abD s l m
 |[],_,_,_=>rfl
 |g::l,i,k,m=>by
  rw[opF,abD];cases(Nat.blt m g.length && g.isPrefixOf s) with
  |true=>rw[bW,bW,ZJ s l]
  |false=>rw[dP,dP,ZJ s l]
def akM(s:aC)(L:List (aC)){b:Int×Int×Int->Option (Int×Int×Int⊕Int×Int×Int)}
  (hb:∀(i:Nat) g k (m:Nat),L[i]? =some g->m<=2->b (k,(m:Int),(i:Int))=some (.inl (bif Nat.blt m g.length && g.isPrefixOf s then(30+(i:Int),(g.length:Int),(i:Int)+1) else(k,(m:Int),(i:Int)+1))))
  (he:∀k m,b (k,m,(L.length:Int))=some (.inr (k,m,(L.length:Int)))) (h2:∀g,g∈L->g.length<=2):
  fF b (0,0,0)=some ((opF s L 0 0 0).1,((opF s L 0 0 0).2:Int),(L.length:Int)):=by
 have key:∀(t:List (aC)) (i:Nat) (k:Int) (m:Nat),L.drop i=t->i<=L.length->m<=2->fF b (k,(m:Int),(i:Int))=some ((opF s t i k m).1,((opF s t i k m).2:Int),(L.length:Int)):=by
  intro t;induction t with
  |nil=>
   intro i k m hd hi hm;have:i=L.length:=by have:=congrArg List.length hd;simp at this;omega
   subst this;exact dD (he _ _)
  |cons g t ih=>
   intro i k m hd hi hm;have hx:L[i]? =some g:=by
    have:(L.drop i)[0]? =some g:=by rw[hd];rfl
    simpa using this
   have hlt:i<L.length:=(Je.1 hx).1;have hd':L.drop (i+1)=t:=by rw[<-List.drop_drop,hd];rfl
   have hs:=hb i g k m hx hm;have hg:=h2 g (Lu hx);rw[opF];cases hc:(Nat.blt m g.length && g.isPrefixOf s) with
   |true=>rw[hc,bW] at hs;rw[eF hs,bW,show(i:Int)+1=((i+1:Nat):Int) by omega,ih (i+1) _ _ hd' hlt hg]
   |false=>rw[hc,dP] at hs;rw[eF hs,dP,show(i:Int)+1=((i+1:Nat):Int) by omega,ih (i+1) _ _ hd' hlt hm]
 have:=key L 0 0 0 rfl (Nat.zero_le _) (by omega);rw[rE] at this;exact this
def av9{α:Type}(s:List α)(n:Nat)(h:n<=s.length):cut s 0 (n:Int)=some (s.take n):=by unfold cut;rw[zdt (by omega),zdt (by omega),zdt (by omega)];simp
def pre_eq:∀(g s:aC),g.length<=s.length->(s.take g.length==g)=g.isPrefixOf s
 |[],s,_=>by simp
 |x::g,[],h=>by simp at h
 |x::g,y::s,h=>by
  have hr:=pre_eq g s (by simpa using h);have hxy:(y==x)=(x==y):=by rw[Bool.eq_iff_iff,beq_iff_eq,beq_iff_eq];exact⟨Eq.symm,Eq.symm⟩
  rw[List.isPrefixOf,vX,List.take_succ_cons,<-hr,<-hxy];rfl
def adY(g s:aC)(h:s.length<g.length):g.isPrefixOf s=false:=by
 cases hp:g.isPrefixOf s with
 |false=>rfl
 |true=>have:=(List.isPrefixOf_iff_prefix.1 hp).length_le;omega
def ae5(s g:aC):M.strings_HasPrefix s g=some (g.isPrefixOf s):=by
 simp only[M.strings_HasPrefix,M.yI,M.iF,M.lD]
 by_cases h:g.length<=s.length
 ·rw[zdt (by omega),bW,av9 s g.length h,ah,ah,pre_eq g s h]
 ·rw[uh (by omega),dP,ah,adY g s (by omega)]
def aps:∀g,g∈O1->g.length<=2:=by decide+kernel
def ZK(m n:Nat):decide ((n:Int)>(m:Int))=Nat.blt m n:=by
 cases hb:Nat.blt m n with
 |true=>rw[Nat.blt_eq] at hb;exact zdt (by omega)
 |false=>
  have:¬m<n:=by rw[<-Nat.blt_eq,hb];simp
  exact uh (by omega)
def ae6(s:aC)(h0:s≠[])(hs:s.length<=4000000):M.qH s 0=some ((opF s O1 0 0 0).1,((abD s O1 0:Nat):Int)):=by
 have hl:O1.length=39:=rfl;have hn:1<=s.length:=by cases s with|nil=>exact absurd rfl h0|cons=>simp
 simp only[M.qH,M.NV,M.LY,aJ,ah];rw[aG (by omega) (by omega),zdt (by omega),zdt (by omega),Bool.and_self,Bool.not_true,dP];have hc:=av9 s s.length (Nat.le_refl _);rw[List.take_length] at hc;rw[akM s O1 (λi g k m hg hm=> ?_) (λk m=> ?_) aps,ah,ZJ]
 ·have hi:=(Je.1 hg).1;rw[hl] at hi;have hsc:=akB i hi;simp only[MQ,hg] at hsc;simp only[M.Rj,M.IC,O9,hsc,ah,hc,ae5,ZK];rw[zdt (by omega),zdt (by omega),aG (by omega) (by omega),aG (by omega) (by omega)];cases Nat.blt m g.length<;>cases g.isPrefixOf s<;>rfl
 ·rw[hl];rfl
def aiz{s:aC}(h:s≠[])(hl:s.length<=2000000):∃c,idx s (i64.wrap ((s.length:Int) - 1))=some c∧lastB s=(c.toNat:Int):=by
 have hn:1<=s.length:=by cases s with|nil=>exact absurd rfl h|cons=>simp
 obtain⟨c,hc⟩:∃c,s[s.length - 1]? =some c:=⟨s[s.length - 1],by simp⟩
 refine⟨c, ?_, ?_⟩
 ·rw[aG (by omega) (by omega),show((s.length:Int) - 1)=((s.length - 1:Nat):Int) by omega,dF,hc]
 ·rw[lastB,List.getLast?_eq_getElem?,hc]
def akN{s:aC}(h:s≠[]):∃c,idx s 0=some c∧ajw s=(c.toNat:Int):=by
 cases s with
 |nil=>exact absurd rfl h
 |cons c s=>exact⟨c,rfl,rfl⟩
def akO(c:UInt8):i64.wrap (c.toNat:Int)=(c.toNat:Int):=by have:=ahT c;exact aG (by omega) (by omega)
def YN(a b:Tk):Dv a b=bif a.text==[] then false else bif b.text==[] then false else bif a.kind==2 then false else bif a.kind==1 then false else bif b.kind==1 then false else
 bif isW (lastB a.text) && isW (ajw b.text) then true else
 bif a.kind==3 &&(isW (ajw b.text)||ajw b.text==46) then true else
 bif a.kind==6 && b.kind==32 then true else
 bif !(decide (30<=a.kind) && decide (a.kind<=68)) then false else Nat.blt a.text.length (abD (a.text++b.text) O1 0):=by
 unfold Dv;simp only[U0]
def XD(a b:Tk)(ha:a.text.length<=2000000)(hb:b.text.length<=2000000):M.qZ a.kind a.text a.at_ b.kind b.text b.at_=some (Dv a b):=by
 rw[YN];simp only[M.qZ,M.FQ]
 by_cases h1:a.text=[]
 ·rw[show(a.text==[])=true by simpa using h1,bW,bW]
 ·rw[show(a.text==[])=false by simpa using h1,dP,dP]
  by_cases h2:b.text=[]
  ·rw[show(b.text==[])=true by simpa using h2,bW,bW]
  ·obtain⟨c,hc,hc'⟩:=aiz h1 ha;obtain⟨d,hd,hd'⟩:=akN h2;have hop:=ae6 (a.text++b.text) (by simp[h1]) (by simp only[vS];omega);rw[show(b.text==[])=false by simpa using h2,dP,dP,hc',hd'];simp only[hc,hd,ah,akO,KE,M.iy,M.xH,aJ,hop,ZK,ge_iff_le,U0,ae4,O8,dN (show a.text.length+b.text.length<=9223372036854775807 by omega),bW]
def Ol{α:Type}:List (List α)->Nat
 |[]=>0
 |x::l=>x.length+Ol l
def akP{α:Type}:∀(L:List (List α)) (j:Nat),(xZ L j).length<=Ol L
 |[],j=>by simp[xZ,Ol]
 |x::l,0=>by simp[xZ,Ol]
 |x::l,j+1=>by have:=akP l j;simp only[xZ,List.getElem?_cons_succ,Ol] at this⊢;omega
def RG:∀(L:List (List Tk)) (b:Bool),(BD b L).length<=Ol L+L.length
 |[],b=>by simp[BD,Ol]
 |x::l,b=>by have:=RG l false;cases b<;>simp only[BD,Ol,bW,dP,vS,vX]<;>omega
def arl{α:Type}:∀(L:List (List α)),(xZ L 0).length+((xZ L 1).length+(xZ L 2).length)<=Ol L
 |[]=>by simp[xZ,Ol]
 |[x]=>by simp[xZ,Ol]
 |[x,y]=>by simp[xZ,Ol]
 |x::y::z::l=>by simp[xZ,Ol]
def CB{α:Type}{a b:List α}{N:Nat}(c:Bool)(ha:a.length<=N)(hb:b.length<=N):(bif c then a else b).length<=N:=by cases c<;>assumption
def apt(k op:Int)(n:Nat)(x:aC)(L:List (List Tk)):(CP k op n x L).length<=Ol L+L.length+4:=by
 have h1:=RG L true;have h2:=akP L 0;have h3:=arl L;have h4:(bif Nat.blt 1 n then tok 32::(BD true L++[tok 33]) else xZ L 0:List Tk).length<=Ol L+L.length+2:=CB _ (by simp only[vX,vS,EN];omega) (by omega);have h5:(bif op==99 then[] else[tok op]:List Tk).length<=1:=CB _ (by simp) (by simp);unfold CP;refine CB _ ?_ (CB _ ?_ (CB _ ?_ (CB _ ?_ (CB _ ?_ (CB _ ?_ (CB _ ?_ (CB _ ?_ (CB _ ?_ (CB _ ?_ (CB _ ?_ (CB _ ?_ ?_)))))))))))
 all_goals(simp only[vX,vS,EN];omega)
def Ey(k op:Int)(n:Nat)(p:Ps):∀(ts:List Tn) (j:Nat),(iW k op n p ts j).length=ts.length
 |[],j=>by rw[iW];rfl
 |t::ts,j=>by rw[iW,vX,Ey k op n p ts (j+1),vX]
def rF(k op:Int)(n:Nat)(p:Ps)(j:Nat)(u:Tn):List Tk:=bif nC k j||fits u.kind u.op (dZ k op n j p) then sK u (dZ k op n j p) else tok 32::(sK u .top++[tok 33])
def adZ(k op:Int)(n:Nat)(p:Ps):∀{ts:List Tn} {i j:Nat} {u:Tn},ts[j]? =some u->(iW k op n p ts i)[j]? =some (rF k op n p (i+j) u)
 |[],_,_,_,h=>by simp at h
 |t::ts,i,0,u,h=>by cases h;rw[iW,List.getElem?_cons_zero];rfl
 |t::ts,i,j+1,u,h=>by rw[List.getElem?_cons_succ] at h;rw[iW,List.getElem?_cons_succ,adZ k op n p h,show i+1+j=i+(j+1) by omega]
def Jc{k op:Int}{n:Nat}{p:Ps}{j:Nat}{u:Tn}(h:∀q,(sK u q).length+4<=8 * u.size):(rF k op n p j u).length+2<=8 * u.size:=by
 unfold rF;cases(nC k j||fits u.kind u.op (dZ k op n j p)) with
 |true=>have:=h (dZ k op n j p);rw[bW];omega
 |false=>have:=h .top;simp only[dP,vX,vS,EN];omega
def SB{k op:Int}{n:Nat}{p:Ps}:∀{ts:List Tn} {j:Nat},(∀u,u∈ts->∀q,(sK u q).length+4<=8 * u.size)->Ol (iW k op n p ts j)+2 * ts.length<=8 * sizes ts
 |[],j,_=>by rw[iW,Ol,sizes];simp
 |t::ts,j,h=>by
  have h1:=Jc (k:=k) (op:=op) (n:=n) (p:=p) (j:=j) (h t ZQ);have h2:=SB (k:=k) (op:=op) (n:=n) (p:=p) (ts:=ts) (j:=j+1) λu hu=>h u (XR _ hu)
  unfold rF at h1;rw[iW,Ol,sizes,vX];omega
def nT(t:Tn):∀q,(sK t q).length+4<=8 * t.size:=by refine Tn.ind (P:=λt=>∀q,(sK t q).length+4<=8 * t.size) ?_ t;intro k op x y ks ih q;have h1:=apt k op ks.length x (iW k op ks.length q ks 0);have h2:=SB (k:=k) (op:=op) (n:=ks.length) (p:=q) (ts:=ks) (j:=0) ih;rw[Ey] at h1;rw[sK,Tn.size];omega
def ad1(t:Tn)(q:Ps):(TK t q).length+2<=8 * t.size:=by
 have h1:=nT t q;have h2:=nT t .top;unfold TK;cases fits t.kind t.op q with
 |true=>rw[bW];omega
 |false=>simp only[dP,vX,vS,EN];omega
@[simp] theorem dM(l:List Tk):aA (jR l)=true:=by simp only[aA,jR,List.all_map,List.all_eq_true];intro x _;rfl
def kR(a b:List Tk):jR (a++b)=jR a++jR b:=by simp[jR]
def EM(a toks:List Tk)(sp:au)(f:Bool)(hs:aA sp=true)(hl:toks.length+a.length<=1000000000):M.bU (jR a) (jR toks) sp f=some (jR (toks++a),sp,f):=by simp only[M.bU,M.Am,gY,<-kR,dM,hs,bW];rw[dN (by omega),bW,dN (by omega),bW]
def iota(n:Nat):List Int:=(List.range n).map fun(i:Nat)=>((i:Nat):Int)
def KR(n:Nat):(iota n).length=n:=by simp[iota]
def al1(n:Nat):iota (n+1)=iota n++[(n:Int)]:=by simp[iota,List.range_succ]
def ZL(k op:Int)(x y:aC)(rows:au)(h:rows.length<=1048576):M.jh k op x y rows=some (k,op,x,y,encI (iota rows.length)):=by
 obtain⟨n,hn⟩:∃n,n=rows.length:=⟨_,rfl⟩
 simp only[M.jh,M.Ed];rw[<-hn] at h⊢;have hloop:=kX (b:=M.pJ)
  (t:=if n=0 then .inl ((n:Int),0,0,0,[],[],k,op,x,y) else .inr ((n:Int),(n:Int),0,0,[],[],k,op,x,y,encI (iota n)))
  (λj=>if j=0 then .inl ((n:Int),0,0,0,[],[],k,op,x,y) else .inr ((n:Int),(j:Int),0,0,[],[],k,op,x,y,encI (iota j))) n
  (by
   intro j hj;rw[if_neg (show¬j+1=0 by omega),al1]
   by_cases h0:j=0
   ·subst h0;rw[if_pos rfl];simp only[lJ,M.pJ,M.mg];rw[zdt (by omega),bW];rfl
   ·rw[if_neg h0];simp only[lJ,M.pJ,M.mg,dn,KR,GX];rw[zdt (by omega),bW,dN (by omega),bW,dN (by omega),bW,aG (by omega) (by omega)];simp[encI])
  (by
   by_cases h0:n=0
   ·simp only[if_pos h0];simp only[lJ,M.pJ,M.mg];rw[uh (by omega),dP]
   ·simp only[if_neg h0];simp only[lJ,M.pJ,M.mg];rw[uh (by omega),dP]) 0 (Nat.zero_le _)
 rw[if_pos rfl] at hloop;rw[M.Cb,hloop,ah]
 by_cases h0:n=0
 ·rw[if_pos h0,h0];rfl
 ·rw[if_neg h0];simp only[nX,letE,GH,bW]
def Wr(toks:List Tk)(sp:au)(N:Nat)(out:List Tk)(r:Option (au×au×Bool)):Prop:=
 ∃sp',r=some (jR (toks++out),sp',false)∧aA sp'=true∧sp'.length<=sp.length+N
def PT(u:Tn):Prop:=∀(w:Bool) (f:Nat) (p:Ps) (toks:List Tk) (sp:au),5 * u.size<=f->kZ p=true->aA sp=true->toks.length+16 * u.size<=900000000->sp.length+u.size<=900000000->u.size<=1048576->
 Wr toks sp u.size (sK u p) (M.pX f u.kind u.op u.text u.other (mD w u.kids) p.level p.kV p.qh p.qj p.kE (jR toks) sp false)
def akQ{u:Tn}(h:u.size<=1048576)(w:Bool):(mD w u.kids).length<=1048576:=by have h1:=u.Ju;have h2:=jT u.kids;rw[ny];omega
def uy(k:Int):([[D.int .i64 k,D.str (spell k),D.int .i64 0]]:au)=jR [tok k]:=rfl
def awc{u:Tn}(hP:PT u){w:Bool}{f:Nat}{p:Ps}{toks:List Tk}{sp:au}(hf:5 * u.size+1<=f)(hp:kZ p=true)(hs:aA sp=true)(ht:toks.length+16 * u.size+1<=900000000)(hl:sp.length+u.size<=900000000)(hu:u.size<=1048576):
  Wr toks sp u.size (TK u p) (M.tX f u.kind u.op u.text u.other (mD w u.kids) p.level p.kV p.qh p.qj p.kE (jR toks) sp false):=by
 obtain⟨g,rfl⟩:∃g,f=g+1:=⟨f - 1,by omega⟩
 have hz:=u.size_pos;have hb:=nT u .top;rw[M.SL];simp only[M.pV,ZL u.kind u.op u.text u.other _ (akQ hu w),ah,(ZI u.kind u.op u.text u.other _ p).1,dP,Bool.not_not,TK];cases fits u.kind u.op p with
 |true=>obtain⟨sp',h1,h2,h3⟩:=hP w g p toks sp (by omega) hp hs (by omega) hl hu;simp only[bW,dM,hs,h1,ah,h2];exact⟨sp',rfl,h2,h3⟩
 |false=>obtain⟨sp',h1,h2,h3⟩:=hP w g .top (toks++[tok 32]) sp (by omega) rfl hs (by rw[vS,GX];omega) hl hu;have e1:=(kG 32 (by constructor<;>decide)).1;have e2:=(kG 33 (by constructor<;>decide)).1;have p1:=EM [tok 32] toks sp false hs (by simp;omega);have p2:=EM [tok 33] (toks++[tok 32]++sK u .top) sp' false h2 (by simp only[vS,GX];omega);simp only[Ps.top] at h1 p2;simp only[dP,e1,e2,Nu.1,ah,uy,dM,hs,bW,p1,h1,h2,p2];refine⟨sp', ?_,h2,h3⟩;simp[Ps.top]
def XE(w:Bool)(u:Tn):eu .i64 (u.row w) 0=some u.kind∧eu .i64 (u.row w) 1=some u.op∧cStr (u.row w) 2=some u.text∧cStr (u.row w) 3=some u.other∧LC 5 (u.row w) 4=some (mD w u.kids):=by cases u;exact⟨rfl,rfl,rfl,rfl,rfl⟩
def XF(w:Bool){ks:List Tn}{j:Nat}{u:Tn}(hj:ks[j]? =some u):idx (mD w ks) (j:Int)=some (u.row w):=by rw[dF,Sr];simp[hj]
section
variable {k op:Int} {x y:aC} {ks:List Tn} (ih:∀u,u∈ks->PT u)
include ih
theorem KT{w:Bool}{f:Nat}{p:Ps}{toks:List Tk}{sp:au}{j:Nat}{u:Tn}(hj:ks[j]? =some u)(hf:5 * u.size+2<=f)(hp:kZ p=true)(hlv:lvl k op≠0)(hs:aA sp=true)(ht:toks.length+16 * u.size+1<=900000000)(hl:sp.length+u.size<=900000000)(hu:sizes ks<=1048575):
  Wr toks sp u.size (rF k op ks.length p j u) (M.jP f k op x y (mD w ks) (j:Int) p.level p.kV p.qh p.qj p.kE (jR toks) sp false):=by
 obtain⟨g,rfl⟩:∃g,f=g+1:=⟨f - 1,by omega⟩
 have hkl:=jT ks;have hju:=(Je.1 hj).1;have hus:=nJ (Lu hj);have hg:=XF w hj;obtain⟨c0,c1,c2,c3,c4⟩:=XE w u;have hn:=ZL k op x y (mD w ks) (by rw[ny];omega);rw[ny] at hn;have hkp:=RF k op x y (encI (iota ks.length)) j p (by rw[dn,KR];omega);rw[dn,KR] at hkp;have hq:=sN (n:=ks.length) (j:=j) hp hju hlv;have e1:=ih u (Lu hj);rw[M.UM];simp only[lJ,M.qM,hn,ah,hg,c0,c1,c2,c3,c4,hkp,Ps.yE,YM,dM,hs,bW,rF];cases htg:nC k j with
 |true=>obtain⟨sp',h1,h2,h3⟩:=e1 w g (dZ k op ks.length j p) toks sp (by omega) hq hs (by omega) hl (by omega);simp only[bW,Bool.true_or,h1,ah,dM,h2];exact⟨sp',rfl,h2,h3⟩
 |false=>obtain⟨sp',h1,h2,h3⟩:=awc e1 (w:=w) (f:=g) (p:=dZ k op ks.length j p) (toks:=toks) (sp:=sp) (by omega) hq hs ht hl (by omega);unfold TK at h1;simp only[dP,Bool.false_or,h1,ah,dM,h2,bW];exact⟨sp',rfl,h2,h3⟩
theorem XG{w:Bool}{f:Nat}{p:Ps}{shut:Int}(hf:5 * sizes ks+2<=f)(hp:kZ p=true)(hlv:lvl k op≠0)(hu:sizes ks<=1048575):∀(d j:Nat) (toks:List Tk) (sp:au),j+d=ks.length->aA sp=true->toks.length+16 * sizes (ks.drop j)+2<=900000000->sp.length+sizes (ks.drop j)<=900000000->
  ∃sp',M.jM (M.jP f) shut (ks.length:Int) k op x y (mD w ks) p.level p.kV p.qh p.qj p.kE ((j:Int),false,jR toks,sp)=some ((ks.length:Int),false,jR (toks++BD (Nat.beq j 0) ((iW k op ks.length p ks 0).drop j)),sp')∧aA sp'=true∧sp'.length<=sp.length+sizes (ks.drop j)
 |0,j,toks,sp,hj,hs,ht,hl=>by
  have hjn:j=ks.length:=by omega
  refine⟨sp, ?_,hs,by omega⟩;have hd:(iW k op ks.length p ks 0).drop j=[]:=List.drop_eq_nil_iff.2 (by rw[Ey];omega);rw[hd,BD,List.append_nil,M.jM];apply dD;simp only[M.lW,M.lV];rw[uh (by omega),dP,hjn]
 |d+1,j,toks,sp,hj,hs,ht,hl=>by
  have hlt:j<ks.length:=by omega
  have hkl:=jT ks;obtain⟨u,hu'⟩:∃u,ks[j]? =some u:=⟨ks[j],by simp[hlt]⟩
  have hd1:ks.drop j=u::ks.drop (j+1):=by rw[List.drop_eq_getElem_cons hlt];rw[List.getElem?_eq_getElem hlt] at hu';rw[Option.some.inj hu']
  have hus:=nJ (Lu hu');have hz:=u.size_pos;have hb:=Jc (k:=k) (op:=op) (n:=ks.length) (p:=p) (j:=j) (nT u);have hdl:j<(iW k op ks.length p ks 0).length:=by rw[Ey];exact hlt
  have hkd:(iW k op ks.length p ks 0).drop j=rF k op ks.length p j u::(iW k op ks.length p ks 0).drop (j+1):=by have hg:=adZ k op ks.length p (i:=0) hu';rw[Nat.zero_add,List.getElem?_eq_getElem hdl] at hg;rw[List.drop_eq_getElem_cons hdl,Option.some.inj hg]
  rw[hd1,sizes] at ht hl⊢;rw[hkd];have hw:i64.wrap ((j:Int)+1)=((j+1:Nat):Int):=by rw[aG (by omega) (by omega)];omega
  by_cases h0:j=0
  ·subst h0;obtain⟨sp1,a1,a2,a3⟩:=KT ih (w:=w) (f:=f) (p:=p) (toks:=toks) (sp:=sp) (x:=x) (y:=y) (op:=op) (k:=k) hu' (by omega) hp hlv hs (by omega) (by omega) hu;obtain⟨sp2,b1,b2,b3⟩:=XG hf hp hlv hu d (0+1) (toks++rF k op ks.length p 0 u) sp1 (by omega) a2 (by rw[vS];omega) (by omega);have hstep:M.lW (M.jP f) shut (ks.length:Int) k op x y (mD w ks) p.level p.kV p.qh p.qj p.kE (((0:Nat):Int),false,jR toks,sp)=some (.inl (((0+1:Nat):Int),false,jR (toks++rF k op ks.length p 0 u),sp1)):=by simp only[M.lW,M.lV,dM,hs,bW];rw[zdt (by omega),bW,uh (by omega),dP,a1,ah,hw]
   refine⟨sp2, ?_,b2,by omega⟩;rw[M.jM,eF hstep];rw[M.jM] at b1;have z0:Nat.beq 0 0=true:=rfl;have z1:Nat.beq (0+1) 0=false:=rfl;rw[b1,z0,z1,BD,bW];simp
  ·have e1:=(kG 36 (by constructor<;>decide)).1;have p1:=EM [tok 36] toks sp false hs (by simp;omega);obtain⟨sp1,a1,a2,a3⟩:=KT ih (w:=w) (f:=f) (p:=p) (toks:=toks++[tok 36]) (sp:=sp) (x:=x) (y:=y) (op:=op) (k:=k) hu' (by omega) hp hlv hs (by rw[vS,GX];omega) (by omega) hu;obtain⟨sp2,b1,b2,b3⟩:=XG hf hp hlv hu d (j+1) (toks++[tok 36]++rF k op ks.length p j u) sp1 (by omega) a2 (by rw[vS,vS,GX];omega) (by omega);have hstep:M.lW (M.jP f) shut (ks.length:Int) k op x y (mD w ks) p.level p.kV p.qh p.qj p.kE ((j:Int),false,jR toks,sp)=some (.inl (((j+1:Nat):Int),false,jR (toks++[tok 36]++rF k op ks.length p j u),sp1)):=by simp only[M.lW,M.lV,e1,ah,uy,dM,hs,bW,p1];rw[zdt (by omega),bW,zdt (by omega),bW,a1,ah,hw]
   refine⟨sp2, ?_,b2,by omega⟩;rw[M.jM,eF hstep];rw[M.jM] at b1;rw[b1];have hb0:Nat.beq j 0=false:=by cases j with
    |zero=>exact absurd rfl h0
    |succ j=>rfl
   have hb1:Nat.beq (j+1) 0=false:=rfl;rw[hb0,hb1,BD,dP];simp
theorem ae7{w:Bool}{f:Nat}{p:Ps}{toks:List Tk}{sp:au}{open' shut:Int}(ho:I64 open')(hsh:I64 shut)(hf:5 * sizes ks+3<=f)(hp:kZ p=true)(hlv:lvl k op≠0)(hs:aA sp=true)(ht:toks.length+16 * sizes ks+3<=900000000)(hl:sp.length+sizes ks<=900000000)(hu:sizes ks<=1048575):
  Wr toks sp (sizes ks) (tok open'::(BD true (iW k op ks.length p ks 0)++[tok shut])) (M.pW f k op x y (mD w ks) open' shut p.level p.kV p.qh p.qj p.kE (jR toks) sp false):=by
 obtain⟨g,rfl⟩:∃g,f=g+1:=⟨f - 1,by omega⟩
 have hkl:=jT ks;have e1:=(kG open' ho).1;have e2:=(kG shut hsh).1;have p1:=EM [tok open'] toks sp false hs (by simp;omega);obtain⟨sp1,a1,a2,a3⟩:=XG ih (x:=x) (y:=y) (op:=op) (k:=k) (w:=w) (f:=g) (p:=p) (shut:=shut) (by omega) hp hlv hu ks.length 0 (toks++[tok open']) sp (by omega) hs (by rw[vS,GX,List.drop_zero];omega) (by rw[List.drop_zero];omega);rw[List.drop_zero] at a3;rw[List.drop_zero,rE] at a1;have hlen:(BD true (iW k op ks.length p ks 0)).length<=9 * sizes ks:=by
  have h1:=RG (iW k op ks.length p ks 0) true;have h2:=SB (k:=k) (op:=op) (n:=ks.length) (p:=p) (ts:=ks) (j:=0) λu _=>nT u
  rw[Ey] at h1;omega
 have p2:=EM [tok shut] (toks++[tok open']++BD (Nat.beq 0 0) (iW k op ks.length p ks 0)) sp1 false a2 (by simp only[vS,GX];have:Nat.beq 0 0=true:=rfl;rw[this];omega);rw[M.SI];simp only[M.pU,e1,e2,ah,uy,dM,hs,bW,p1,ny,a1,a2,p2];refine⟨sp1, ?_,a2,a3⟩;simp
end
end Go.Proofs.YtbpldgeajbfgnaaGreatDoor
