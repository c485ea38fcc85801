import Derived.Test.YtbgadfelmhoheaaGreatDoorXTok
import Derived.Test.YtbgadfelmhoheaaGreatDoorXDoc7
set_option linter.defProp false
namespace Go.Proofs.YtbgadfelmhoheaaGreatDoor
set_option linter.unusedVariables false
set_option linter.unusedSimpArgs false
open Go Go.Vm
open Go.IntKind (i64)
mutual
def atx:∀(t:Tn) (b:Nat),wK (t.flat b)+1=5 * t.size
 | .mk k o x y ks,b=>by
  have:=aqA ks b;have e:wK [(⟨k,o,x,y,ends ks b⟩:Nd)]=4+ks.length:=by simp[wK,dQ]
  rw[Tn.flat,aee,e,Tn.size];omega
def aqA:∀(ks:List Tn) (b:Nat),wK (iW ks b)+ks.length=5 * sizes ks
 |[],_=>rfl
 |t::ts,b=>by have h1:=atx t b;have h2:=aqA ts (b+t.size);rw[iW,aee,sizes,lU];omega
end
mutual
def noc:Tn->Tn
 | .mk k op x y ks=> .mk k op x y (QZ ks)
def QZ:List Tn->List Tn
 |[]=>[]
 |t::ts=>(bif t.kind==34 then[] else[noc t])++QZ ts
end
def aiU:∀a b:List Tn,QZ (a++b)=QZ a++QZ b
 |[],b=>rfl
 |t::a,b=>by rw[VE,QZ,QZ,aiU a b,Ad]
def aqB(t:Tn):QZ [t]=bif t.kind==34 then[] else[noc t]:=by rw[QZ,QZ,List.append_nil]
def aiV:∀ks:List Tn,(QZ ks).length<=ks.length
 |[]=>Nat.le_refl _
 |t::ts=>by have:=aiV ts;rw[QZ,pF,lU];cases t.kind==34<;>simp only[aI,aS,lU,qX]<;>omega
def azj(t:Tn):(noc t).kind=t.kind∧(noc t).op=t.op∧(noc t).text=t.text∧(noc t).other=t.other∧(noc t).kids=QZ t.kids:=by cases t;exact⟨rfl,rfl,rfl,rfl,rfl⟩
mutual
def aiW:∀t:Tn,(noc t).size<=t.size
 | .mk k op x y ks=>by have:=aem ks;rw[noc,Tn.size,Tn.size];omega
def aem:∀ks:List Tn,sizes (QZ ks)<=sizes ks
 |[]=>Nat.le_refl _
 |t::ts=>by have h1:=aiW t;have h2:=aem ts;rw[QZ,jP,sizes];cases t.kind==34<;>simp only[aI,aS,sizes]<;>omega
end
mutual
def aty:∀t:Tn,Uu t->Uu (noc t)
 | .mk k op x y ks,h=>by rw[Uu] at h;rw[noc,Uu];exact⟨h.1,aqC ks h.2⟩
def aqC:∀ks:List Tn,Ur ks->Ur (QZ ks)
 |[],_=>trivial
 |t::ts,h=>by
  rw[Ur] at h;have h1:=aty t h.1;have h2:=aqC ts h.2;rw[QZ];cases t.kind==34 with
  |true=>rw[aI,List.nil_append];exact h2
  |false=>rw[aS];exact⟨h1,h2⟩
end
def aCl(t:Tn):(noc t).row false=[.int .i64 t.kind,.int .i64 t.op,.str t.text,.str t.other,.sl false 5 (cZ false (QZ t.kids))]:=by cases t;rfl
def auY(w:Bool)(a b:List Tn):cZ w (a++b)=cZ w a++cZ w b:=by simp[Ru]
def aCm(t:Tn):∀(f:Nat),t.size<=f->t.size<=1048576->M.jG f t.kind t.op t.text t.other (cZ false t.kids)=some (t.kind,t.op,t.text,t.other,cZ false (QZ t.kids)):=by
 refine Tn.ind (P:=λt=>∀(f:Nat),t.size<=f->t.size<=1048576->M.jG f t.kind t.op t.text t.other (cZ false t.kids)=some (t.kind,t.op,t.text,t.other,cZ false (QZ t.kids))) ?_ t;intro k op x y ks ih f hf hz;cases f with
 |zero=>rw[Tn.size] at hf;omega
 |succ f=>
  rw[Tn.size] at hf hz;have hkl:=iZ ks;simp only[Tn.kids,Tn.kind,Tn.op,Tn.text,Tn.other,M.jG,M.Cm];have hloop:M.F9 (M.jG f) (cZ false ks) (((cZ false ks).length:Nat):Int) k op x y (cZ false ks) 0 0 [] [] (0,[])=some ((ks.length:Int),cZ false (QZ ks)):=by
   rw[fB];exact fJ (b:=M.Cj (M.jG f) (cZ false ks) (ks.length:Int) k op x y (cZ false ks) 0 0 [] []) (t:=((ks.length:Int),cZ false (QZ ks))) (λj=>((j:Int),cZ false (QZ (ks.take j)))) ks.length
    (by
     intro j hj;obtain⟨u,hu⟩:∃u,ks[j]? =some u:=⟨ks[j],by simp[hj]⟩
     have hus:=iw (zZ hu);obtain⟨c0,c1,c2,c3,c4⟩:=jO false u;have hix:=Aw false hu;have hr:=ih u (zZ hu) f ak ak;have hw:i64.wrap ((j:Int)+1)=((j+1:Nat):Int):=by rw[aC ak ak];omega
     have hln:=aiV (ks.take j);rw[Ud] at hln;simp only[iY,M.Cj,M.wG,hix,c0,c1,c2,c3,c4,ah,hw,bne];rw[zdt ak,aI,dP hu,aiU,aqB];cases h34:u.kind==34 with
     |true=>simp only[Bool.not_true,aS,aI,List.append_nil]
     |false=>simp only[Bool.not_false,aI,aS,hr,ah,W9,fB,lU,qX];rw[aJ ak,aI,aJ ak,aI,auY,<-aCl];rfl)
    (by simp only[iY,M.Cj,M.wG];rw[nZ ak,aS,List.take_length]) 0 (Nat.zero_le _)
  simp only[hloop,ah,M.zf,M.KR,W9]
def aIj{t:Tn}(h:t.size<=400)(hs:Uu t):Ok ((noc t).flat 0):=by have h1:=aiW t;have h2:=aty t hs;have hw:=atx (noc t) 0;refine⟨by rw[Tn.flat_length];omega,λn hn=> ?_,(agA _ 0).1 h2,ak⟩;obtain⟨h3,h4⟩:=Xk (noc t) 0 n hn;refine⟨ak,λe he=> ?_⟩;have:=h4 e he;exact⟨ak,ak⟩
def aCn{l:List Nd}{o:Bool}(hl:l.length<=1048576)(t:Tn):∀(f b:Nat),Lies l b t->t.size<=f->t.size<=400->
  M.mF f (aT o l) ((b+sizes t.kids:Nat):Int)=some (aT true ((noc t).flat 0)):=by
 refine Tn.ind (P:=λt=>∀(f b:Nat),Lies l b t->t.size<=f->t.size<=400->M.mF f (aT o l) ((b+sizes t.kids:Nat):Int)=some (aT true ((noc t).flat 0))) ?_ t;intro k op x y ks ih f b h hf hz;cases f with
 |zero=>rw[Tn.size] at hf;omega
 |succ f=>
  have hroot:l[b+sizes ks]? =some ⟨k,op,x,y,ends ks b⟩:=h.root;have hlt:=h.lt;rw[Tn.size] at hf hlt hz;have hkl:=iZ ks;have hloop:=fJ (b:=M.Ir (M.mF f) (aT o l) ((b+sizes ks:Nat):Int))
   (t:=((ks.length:Int),(QZ ks).map λt=>[D.sl true 5 (aT true (t.flat 0))])) (λj=>((j:Int),(QZ (ks.take j)).map λt=>[D.sl true 5 (aT true (t.flat 0))])) ks.length
   (by
    intro j hj;obtain⟨u,hu⟩:∃u,ks[j]? =some u:=⟨ks[j],by simp[hj]⟩
    have hus:=zQ hu;have hlu:=Lies.QM h hu;have hr:=ih u (zZ hu) f _ hlu ak ak;have he:=VX (b:=b) hu;have hru:=Lies.root' hlu;have hw:i64.wrap ((j:Int)+1)=((j+1:Nat):Int):=by rw[aC ak ak];omega
    have hln:=aiV (ks.take j);rw[Ud] at hln;simp only[iY,M.Ir,M.BI,aW,kZ,hroot,hru,Jb,ah,GI,Ji,aU,dQ,lG,he,Lu,hr,List.length_map,lU,qX,hw,bne];rw[zdt ak,aI,dP hu,aiU,aqB];cases h34:u.kind==34 with
    |true=>simp only[Bool.not_true,aS,aI,List.append_nil]
    |false=>simp only[Bool.not_false,aI,aS];rw[aJ ak,aI,aJ ak,aI,List.map_append];rfl)
   (by simp only[iY,M.Ir,M.BI,aW,kZ,hroot,Jb,ah,GI,aU,dQ];rw[nZ ak,aS,List.take_length]) 0 (Nat.zero_le _)
  have hh:M.Nl (M.mF f) (aT o l) ((b+sizes ks:Nat):Int) (0,[])=some ((ks.length:Int),(QZ ks).map λt=>[D.sl true 5 (aT true (t.flat 0))]):=hloop;have hmk:∀kr,M.AV k op x y kr (aP ((QZ ks).map λt=>[D.sl true 5 (aT true (t.flat 0))]))=some (aT true ((Tn.mk k op x y (QZ ks)).flat 0)):=by intro kr;rw[ay6];refine aCf _ _ _ _ _ _ ?_;have h1:=aem ks;omega
  simp only[iY,M.mF,M.Ju,Tn.kids,hh,aW,kZ,hroot,Jb,ah,Ji,Me,LV,MB,GI,hmk,aef,aI];rw[noc]
def ajR{l:List Nd}(h:Ok l):(JJ l=false∧M.qF (aT false l)=some []∧M.qJ (aT false l)=some [])∨
  ∃r,Ok r∧JJ l=true∧M.qF (aT false l)=some (aT true r)∧M.qJ (aT false l)=some (aT true r):=by
 have a1:=Vx l false (by have:=h.len;omega) h.k h.sm;have a2:=Vy l false (by have:=h.len;omega) h.k h.sm;simp only[M.qF,M.Iu,M.qJ,M.IU,a1,a2,ah];cases pa:JJ l with
 |false=>exact .inl ⟨rfl,rfl,rfl⟩
 |true=>
  obtain⟨T,rfl,hTs⟩:=ahs (ac2 pa);have hsm:=(agA T 0).2 h.sm;have hks:=T.tZ;have hla:i64.wrap (((aT false (T.flat 0)).length:Int) - 1)=((0+sizes T.kids:Nat):Int):=by rw[dW,T.flat_length,aC ak ak];omega
  have h1:=M.afp (aCn (o:=false) (l:=T.flat 0) (by rw[T.flat_length];omega) T T.size 0 (Lies.whole T) (Nat.le_refl _) hTs);have h2:=ak6 (t:=T) (o:=false) ak;have h3:=M.abz (aCm T T.size (Nat.le_refl _) ak);have h4:=aCe (t:=noc T) (w:=false) (by have:=aiW T;omega);obtain⟨e1,e2,e3,e4,e5⟩:=azj T;rw[e1,e2,e3,e4,e5] at h4;refine .inr ⟨(noc T).flat 0,aIj hTs hsm,rfl, ?_, ?_⟩
  ·simp only[Bool.not_true,aS,hla,h1,ah,aef,aI]
  ·simp only[Bool.not_true,aS,h2,W9,h3,h4,ah,aef,aI]
def isP(p:Pc)(r:Row):Prop:=∃rows g,r=[.int .i64 p.1.kind,.int .i64 p.1.op,.str p.1.text,.sl false 5 rows,.int .i64 g,.int .i64 p.2.1,.bool p.2.2]∧Un p.1.kids rows
def Xr:List Pc->aA->Prop
 |[],rows=>rows=[]
 |p::ps,rows=>∃r rs,rows=r::rs∧isP p r∧Xr ps rs
def V6:∀{ts:List Pc} {rows:aA},Xr ts rows->rows.length=ts.length
 |[],_,h=>by rw[Xr] at h;rw[h];rfl
 |t::ts,_,⟨r,rs,e,_,h2⟩=>by subst e;rw[lU,V6 h2,lU]
def afj:∀{a b:List Pc} {ra rb:aA},Xr a ra->Xr b rb->Xr (a++b) (ra++rb)
 |[],_,_,_,h,h2=>by rw[Xr] at h;subst h;exact h2
 |t::ts,_,_,_,⟨r,rs,e,h1,h2⟩,h3=>by subst e;exact⟨r,_,rfl,h1,afj h2 h3⟩
def aiX:∀{rows:aA},(∀r,r∈rows->qg r=r)->aP rows=rows
 |[],_=>rfl
 |r::rs,h=>by rw[aP,h r ZK,aiX (λx hx=>h x (Yw _ hx))]
def atz:∀{ps:List Pc} {rows:aA},Xr ps rows->∀r,r∈rows->qg r=r
 |[],_,h,r,hr=>by rw[Xr] at h;subst h;cases hr
 |p::ps,_,⟨q,qs,e,⟨rows,g,e1,h1⟩,h2⟩,r,hr=>by
  subst e;rcases List.mem_cons.1 hr with rfl|hr
  ·subst e1;simp only[qg,D.fz,amU _ rows h1]
  ·exact atz h2 r hr
def azk{ps:List Pc}{rows:aA}(h:Xr ps rows):aP rows.reverse=rows.reverse:=
 aiX λr hr=>atz h r (List.mem_reverse.1 hr)
def EW(st:List Pc):List Tn:=st.map (·.1)
def aac(st:List Pc):st.length<=sizes (EW st):=by have:=iZ (EW st);simpa[EW] using this
def aiY(w:Row)(all:aA)(hw:OE 7 w 2=some all.reverse)(hall:all.length<=1000000000):∀(st:List Pc) (pre rows:aA) (c:Nat),Xr st rows->all=pre++rows->sizes (EW st)<=1000000000->c+uO (EW st)<=20000000000000->
  dI M.rJ (w,(c:Int),(rows.length:Int) - 1,[])=some (bif(VB (EW st)).2 then .inl ((c+(VB (EW st)).1:Nat):Int) else .inr (w,((c+(VB (EW st)).1:Nat):Int), -1,[]))
 |[],pre,rows,c,h,ha,hs,hc=>by rw[Xr] at h;subst h;apply bn;rfl
 |(t,ii,ff)::st,pre,rows,c,h,ha,hs,hc=>by
  obtain⟨r,rs,rfl,⟨rows',g',rfl,hk'⟩,hPs⟩:=h;have hrl:=V6 hPs;have aIk:=aac st;have e1:EW ((t,ii,ff)::st)=t::EW st:=rfl;rw[e1,sizes] at hs;rw[e1,uO] at hc;have hb1:=aiD [t];simp only[uO,Nat.add_zero] at hb1;generalize hR:[D.int .i64 t.kind,.int .i64 t.op,.str t.text,.sl false 5 rows',.int .i64 g',.int .i64 ii,.bool ff]=R at ha⊢;have c0:aY .i64 R 0=some t.kind:=by rw[<-hR];rfl
  have c1:aY .i64 R 1=some t.op:=by rw[<-hR];rfl
  have c2:cStr R 2=some t.text:=by rw[<-hR];rfl
  have c3:OE 5 R 3=some rows':=by rw[<-hR];rfl
  have c4:aY .i64 R 4=some g':=by rw[<-hR];rfl
  have hget:all.reverse[rs.length]? =some R:=by rw[ha,List.reverse_append,List.reverse_cons,Ad,List.getElem?_append_right (by simp)];simp
  have hD:Un [t] [[D.int .i64 t.kind,.int .i64 t.op,.str t.text,.sl false 5 rows',.int .i64 g']]:=⟨_,[],rfl,(ac7 _ _).2 ⟨rows',g',rfl,hk'⟩,rfl⟩
  have hin:=auN w (rs.length:Int) t.size [t] _ c _ (by simp[sizes]) ak hD (by simp only[uO];omega) (.inl rfl);rw[List.reverse_singleton] at hin;have e2:(VB [t]).2=(bh t).2:=by cases hq:(bh t).2<;>simp[VB,hq]
  have e3:(VB [t]).1=(bh t).1:=by cases hq:(bh t).2<;>simp[VB,hq]
  rw[e2,e3] at hin;rw[e3] at hb1;have e4:(((R::rs).length:Nat):Int) - 1=(rs.length:Int):=by simp only[lU];omega
  rw[e1,e4,VB];cases hq:(bh t).2 with
  |true=>apply bn;rw[hq,aI] at hin;simp only[iY,M.rJ,M.rH,hw,aW,hget,ah,c0,c1,c2,c3,c4,qX,J3,List.nil_append,M.uN,hin,o8,aI,hq];rw[zdt ak,aI];rfl
  |false=>
   rw[hq,aS] at hin;have hstep:M.rJ (w,(c:Int),(rs.length:Int),[])=some (.inl (w,((c+(bh t).1:Nat):Int),(rs.length:Int) - 1,[])):=by simp only[iY,M.rJ,M.rH,hw,aW,hget,ah,c0,c1,c2,c3,c4,qX,J3,List.nil_append,M.uN,hin,o8,letE];rw[zdt ak,aI,aC ak ak];rfl
   rw[bW hstep,aiY w all hw hall st (pre++[R]) rs (c+(bh t).1) hPs (by rw[ha];simp) ak ak];simp only[aS];cases(VB (EW st)).2<;>simp[Nat.add_assoc]
def auZ(w:Row){st:List Pc}{rows:aA}(h:Xr st rows)(hw:OE 7 w 2=some rows.reverse)(hs:sizes (EW st)<=1000000000)(hc:uO (EW st)<=20000000000000):
  M.oD w=some (((VB (EW st)).1:Nat):Int):=by
 have hrl:=V6 h;have aIk:=aac st;have:=aiY w rows hw ak st [] rows 0 h rfl hs ak;rw[Nat.zero_add,pz] at this;simp only[M.oD,M.CP,hw,ah,List.length_reverse,M.zX];rw[aC ak ak,this];cases(VB (EW st)).2<;>rfl
def a0u{t:Tn}{rows':aA}(g:Int)(hk:Un t.kids rows'){st:List Pc}{rows:aA}(h:Xr st rows)(s:aB)(col w:Int)(hs:t.size+sizes (EW st)<=1000000000)(hc:txs t+uO (EW st)<=10000000000000)
  (h0:0<=col) (h1:col<=40000000000000) (h2:0<=w) (h3:w<=10000):
  M.sQ t.kind t.op t.text rows' g (s.map byteRow) col rows.reverse w=some (aiw w col t st,s.map byteRow,col,rows.reverse,w):=by
 have hfl:=M.ad3 (aCc t t.size rows' g (Nat.le_refl _) hk ak);have hbe:=auZ [D.sl false 1 (s.map byteRow),D.int .i64 col,D.sl false 7 rows.reverse] h rfl ak ak;have azl:=aiD (EW st);simp only[M.sQ,M.Le,hfl,ah,azk h,JR,aI];unfold aiw;cases hx:DK t with
 |none=>rfl
 |some a=>have hal:=ac9 t a hx;have e1:i64.wrap ((a.length:Int)+((VB (EW st)).1:Int))=(a.length:Int)+((VB (EW st)).1:Int):=aC ak ak;have e2:i64.wrap (w - col)=w - col:=aC ak ak;simp only[flR,aI,hbe,ah,e1,e2];rfl
def aCo{ks:List Tn}{rows:aA}(hr:Un ks rows)(k n:Int)(x:aB)(g ii:Int)(ff:Bool)(s:aB)(col:Int)(st:aA)(hk:ks.length<=1000000000)(hl:st.length<=1000000000):
  ∃ps,Xr (ks.map λt=>(t,ii,ff)) ps∧M.jl k n x rows g ii ff (s.map byteRow) col st=some (s.map byteRow,col,st++ps.reverse):=by
 have hrl:=JQ hr;refine⟨rows.map (· ++[.int .i64 ii,.bool ff]), ?_, ?_⟩
 ·clear hk hrl;induction ks generalizing rows with
  |nil=>rw[Un] at hr;subst hr;rfl
  |cons u us ih=>obtain⟨r,rs,rfl,h1,h2⟩:=hr;obtain⟨rows',g',rfl,hk'⟩:=(ac7 u r).1 h1;exact⟨_,_,rfl,⟨rows',g',rfl,hk'⟩,ih h2⟩
 ·have key:∀(j:Nat),j<=ks.length->dI (M.zW ii ff col k n x rows g (s.map byteRow)) ((j:Int) - 1,st++((rows.drop j).map (· ++[D.int .i64 ii,.bool ff])).reverse)=some (-1,st++(rows.map (· ++[D.int .i64 ii,.bool ff])).reverse):=by
   intro j;induction j with
   |zero=>intro _;apply bn;simp only[iY,M.zW,M.uM];rw[nZ ak,aS];rfl
   |succ j ihj=>
    intro hj;obtain⟨u,hu⟩:∃u,ks[j]? =some u:=⟨ks[j],by simp⟩
    obtain⟨r,hrj,hrD⟩:=ac8 hr hu;obtain⟨rows',g',rfl,hk'⟩:=(ac7 u r).1 hrD;have c0:aY .i64 [D.int .i64 u.kind,.int .i64 u.op,.str u.text,.sl false 5 rows',.int .i64 g'] 0=some u.kind:=rfl;have c1:aY .i64 [D.int .i64 u.kind,.int .i64 u.op,.str u.text,.sl false 5 rows',.int .i64 g'] 1=some u.op:=rfl;have c2:cStr [D.int .i64 u.kind,.int .i64 u.op,.str u.text,.sl false 5 rows',.int .i64 g'] 2=some u.text:=rfl;have c3:OE 5 [D.int .i64 u.kind,.int .i64 u.op,.str u.text,.sl false 5 rows',.int .i64 g'] 3=some rows':=rfl;have c4:aY .i64 [D.int .i64 u.kind,.int .i64 u.op,.str u.text,.sl false 5 rows',.int .i64 g'] 4=some g':=rfl;have hlen:(st++((rows.drop (j+1)).map (· ++[D.int .i64 ii,.bool ff])).reverse).length<=2000000000:=by simp;omega
    have hdr:rows.drop j=[D.int .i64 u.kind,.int .i64 u.op,.str u.text,.sl false 5 rows',.int .i64 g']::rows.drop (j+1):=by obtain⟨h1,h2⟩:=Md.1 hrj;rw[List.drop_eq_getElem_cons h1,h2]
    rw[show(((j+1:Nat):Int) - 1)=(j:Int) by omega,<-ihj ak,hdr,Rh,List.reverse_cons,<-Ad];refine bW ?_;simp only[iY,M.zW,M.uM,aW,hrj,ah,c0,c1,c2,c3,c4,J3];rw[zdt ak,aI,aJ ak,aI,aJ ak,aI,aC ak ak];rfl
  have:=key rows.length ak;rw[List.drop_length,List.map_nil,List.reverse_nil,List.append_nil] at this;simp only[M.jl,M.Gn,M.D5];rw[aC ak ak,this];simp only[ah,JR,aI]
def aCp(ii:Int)(s:aB)(col:Int)(st:aA)(h0:0<=ii)(h1:ii<=200000)(hs:s.length<=80000000000000):M.mD ii (s.map byteRow) col st=some ((brk s ii).map byteRow,ii,st):=by
 have hrep:M.strings_Repeat [32] ii=some (List.replicate ii.toNat 32):=by rw[M.strings_Repeat,zdt h0,zdt ak,J3,aJ (show 1<=1000000 by omega)];simp
 have e10:[[D.int .u8 10]]=[byteRow 10]:=rfl;have hb:s.map byteRow++[[D.int .u8 10]]++(List.replicate ii.toNat (32:UInt8)).map byteRow=(brk s ii).map byteRow:=by rw[brk,List.map_append,Rh,e10];simp
 simp only[M.mD,M.Gm,hrep,ah,List.length_map,pF,List.length_replicate,J3];rw[aJ ak,aI,aJ ak,aI,aJ ak,aI,aJ ak,aI,hb,JR,aI]
def azm(st:List Pc):Prop:=∀p,p∈st->dOk p.1=true∧0<=p.2.1∧p.2.1+40 * p.1.size<=200000
def adi:∀{ks:List Tn} {t:Tn},aqi ks=true->t∈ks->dOk t=true
 |[],_,_,h=>by cases h
 |u::us,t,h,ht=>by
  rw[aqi,EU] at h;rcases List.mem_cons.1 ht with rfl|ht
  ·exact h.1
  ·exact adi h.2 ht
def azm.kids{k m:Int}{x y:aB}{ks:List Tn}{i:Int}{f:Bool}{st:List Pc}(h:azm ((.mk k m x y ks,i,f)::st))(j:Int)(g:Bool)(h1:i<=j)(h2:j<=i+40):azm (ks.map (λt=>(t,j,g))++st):=by
 intro p hp;rcases List.mem_append.1 hp with hp|hp
 ·obtain⟨t,ht,rfl⟩:=List.mem_map.1 hp;obtain⟨h3,h4,h5⟩:=h _ ZK;simp only[dOk,Tn.size,EU] at h3 h4 h5;have hsz:=iw ht;refine⟨adi h3.1 ht, ?_, ?_⟩<;>simp only<;>omega
 ·exact h p (Yw _ hp)
def atA{m:Int}{x:aB}{c:Nat}(h:Yb 4 m x c=true):0<=m∧m<=40:=by cases hx:(x==[])<;>simp[Yb,hx] at h;exact h.1
def adk(ks:List Tn)(j:Int)(g:Bool)(st:List Pc):EW (ks.map (λt=>(t,j,g))++st)=ks++EW st:=by simp[EW,List.map_append,Function.comp_def]
def sb{α β:Type}(a:α)(f:α->Option β):(some a).bind f=f a:=by cases h:f a<;>simp[h]
section
variable {k n i g w col:Int} {x:aB} {f:Bool} {rows' rs o:aA}
def a0v(hl:rs.length<=1000000000):M.rM (col,w,o,([D.int .i64 k,.int .i64 n,.str x,.sl false 5 rows',.int .i64 g,.int .i64 i,.bool f]::rs).reverse)=
  (bif k==1 then(bif((o.length+(x.map byteRow).length) * 1).ble 140737488355328 then(bif(o.length+(x.map byteRow).length).ble 140737488355328 then some (.inl (i64.wrap (col+(x.length:Int)),w,o++x.map byteRow,rs.reverse)) else none) else none) else
   bif k==2 then(bif f then(bif((o.length+1) * 1).ble 140737488355328 then(bif(o.length+1).ble 140737488355328 then some (.inl (i64.wrap (col+1),w,o++[[D.int IntKind.u8 32]],rs.reverse)) else none) else none) else
    (bif ay o then((M.mD i o col rs.reverse).bind λr=>some (.inl (r.2.1,w,r.1,r.2.2))) else none)) else
   bif k==3 then(bif ay o then((M.mD i o col rs.reverse).bind λr=>some (.inl (r.2.1,w,r.1,r.2.2))) else none) else
   bif k==4 then(bif ay o then((M.jl k n x rows' g (i64.wrap (i+n)) f o col rs.reverse).bind λr=>some (.inl (r.2.1,w,r.1,r.2.2))) else none) else
   bif k==5 then(bif f then(bif ay o then((M.jl k n x rows' g i true o col rs.reverse).bind λr=>some (.inl (r.2.1,w,r.1,r.2.2))) else none) else
    (bif ay o then((M.sQ k n x rows' g o col rs.reverse w).bind λr=>(bif ay r.2.1 then((M.jl k n x rows' g i r.1 r.2.1 r.2.2.1 r.2.2.2.1).bind λq=>some (.inl (q.2.1,r.2.2.2.2,q.1,q.2.2))) else none)) else none)) else
   (bif ay o then((M.jl k n x rows' g i f o col rs.reverse).bind λr=>some (.inl (r.2.1,w,r.1,r.2.2))) else none)):=by
 generalize hR:[D.int .i64 k,.int .i64 n,.str x,.sl false 5 rows',.int .i64 g,.int .i64 i,.bool f]=R;have c0:aY .i64 R 0=some k:=by rw[<-hR];rfl
 have c1:aY .i64 R 1=some n:=by rw[<-hR];rfl
 have c2:cStr R 2=some x:=by rw[<-hR];rfl
 have c3:cRo 5 R 3=some rows':=by rw[<-hR];rfl
 have c4:aY .i64 R 4=some g:=by rw[<-hR];rfl
 have c5:aY .i64 R 5=some i:=by rw[<-hR];rfl
 have c6:Q5 R 6=some f:=by rw[<-hR];rfl
 have hlen:((R::rs).reverse.length:Int)=(rs.length:Int)+1:=by simp
 have azn:i64.wrap ((rs.length:Int)+1 - 1)=(rs.length:Int):=(aC ak ak).trans ak;have hget:(R::rs).reverse[rs.length]? =some R:=by rw[List.reverse_cons];exact agw rs R
 have htk:(R::rs).reverse.take rs.length=rs.reverse:=by rw[List.reverse_cons];exact List.take_left' (by simp)
 have hd:(decide ((0:Int)<=(rs.length:Int)) && decide ((rs.length:Int)<=(rs.length:Int)+1))=true:=by simp;omega
 have hgt:decide ((rs.length:Int)+1>0)=true:=zdt ak;simp only[M.rM,M.CQ,hlen,azn,hgt,aW,U0,hget,sb,c0,c1,c2,c3,c4,c5,c6,hd,aI,htk]
end
structure ar1(m:Nat)(st:List Pc)(rows:aA)(s:aB)(col:Int):Prop where
 sz:sizes (EW st)<=m
 is:Xr st rows
 inv:azm st
 pos:0<=col
 len:s.length+(uO (EW st)+m * 200001)<=40000000000000
 col:col+(uO (EW st)+m * 200001)<=40000000000000
 tx:uO (EW st)<=10000000000000
def ar1.rest{m:Nat}{k n:Int}{x y:aB}{ks:List Tn}{i:Int}{f:Bool}{st:List Pc}{r:Row}{rs:aA}{s s':aB}{col col':Int}(h:ar1 (m+1) ((.mk k n x y ks,i,f)::st) (r::rs) s col)
  (h0:0<=col') (h1:s'.length<=s.length+(x.length+200001)) (h2:col'<=col+(x.length+200001)):ar1 m st rs s' col':=by
 obtain⟨a1,⟨r',rs',e,_,a2⟩,a3,a4,a5,a6,a7⟩:=h;cases e;simp only[EW,Rh,sizes,Tn.size,uO,txs] at a1 a5 a6 a7;refine⟨?_,a2,λp hp=>a3 p (Yw _ hp),h0, ?_, ?_, ?_⟩<;>simp only[EW]<;>omega
def ar1.kids{m:Nat}{k n:Int}{x y:aB}{ks:List Tn}{i:Int}{f:Bool}{st:List Pc}{r:Row}{rs ps:aA}{s:aB}{col:Int}(h:ar1 (m+1) ((.mk k n x y ks,i,f)::st) (r::rs) s col)
  {j:Int} {g:Bool} (h1:i<=j) (h2:j<=i+40) (hp:Xr (ks.map λt=>(t,j,g)) ps):ar1 m (ks.map (λt=>(t,j,g))++st) (ps++rs) s col:=by
 obtain⟨a1,⟨r',rs',e,_,a2⟩,a3,a4,a5,a6,a7⟩:=h;cases e;simp only[EW,Rh,sizes,Tn.size,uO,txs] at a1 a5 a6 a7;refine⟨?_,afj hp a2,a3.kids j g h1 h2,a4, ?_, ?_, ?_⟩<;>rw[adk]<;>simp only[EW,jP,TV]<;>omega
def aIl(w:Int)(hw0:0<=w)(hw1:w<=10000):∀(m:Nat) (st:List Pc) (rows:aA) (s:aB) (col:Int),m<=4000->ar1 m st rows s col->
  ∃col',dI M.rM (col,w,s.map byteRow,rows.reverse)=some (col',w,(lay w m st s col).map byteRow,[]):=by
 intro m;induction m with
 |zero=>
  intro st rows s col hmb hH;cases st with
  |cons p st=>have:=p.1.size_pos;have:=hH.sz;simp only[EW,Rh,sizes] at this;omega
  |nil=>have hP:=hH.is;rw[Xr] at hP;subst hP;exact⟨col,bn rfl⟩
 |succ m ih=>
  intro st rows s col hmb hH;cases st with
  |nil=>have hP:=hH.is;rw[Xr] at hP;subst hP;exact⟨col,bn rfl⟩
  |cons p st=>
   obtain⟨t,i,f⟩:=p;obtain⟨k,n,x,y,ks⟩:=t;obtain⟨r,rs,rfl,⟨rows',g',rfl,hk'⟩,hPs⟩:=hH.is;obtain⟨hd0,hi0,hi1⟩:=hH.inv _ ZK;simp only[Tn.kind,Tn.op,Tn.text,Tn.kids] at hd0 hi0 hi1 hk' hH⊢;have hsz:=hH.sz;have hln:=hH.len;have hcl:=hH.col;have htx:=hH.tx;have hps:=hH.pos;have hrl:=V6 hPs;have hkl:=JQ hk';have aIk:=aac st;have aIm:=iZ ks;have e1:EW ((Tn.mk k n x y ks,i,f)::st)=Tn.mk k n x y ks::EW st:=rfl;rw[e1,sizes,Tn.size] at hsz;rw[e1,uO,txs] at hln hcl htx;rw[Tn.size] at hi1;have hrev:rs.reverse.length<=1000000000:=by rw[List.length_reverse];omega
   have hb:=a0v (k:=k) (n:=n) (i:=i) (g:=g') (w:=w) (col:=col) (x:=x) (f:=f) (rows':=rows') (rs:=rs) (o:=s.map byteRow) ak;generalize ([D.int .i64 k,.int .i64 n,.str x,.sl false 5 rows',.int .i64 g',.int .i64 i,.bool f]:Row)=R at hb hH⊢;have aEp:=aCp i s col rs.reverse hi0 ak ak;have hbl:(brk s i).length<=s.length+(x.length+200001):=by rw[brk,pF,lU,List.length_replicate];omega
   have hpu:=fun(ii:Int) (ff:Bool)=>aCo hk' k n x g' ii ff s col rs.reverse ak hrev
   simp only[JR,aI,List.length_map] at hb;rw[lay];cases h1:k==1 with
   |true=>rw[h1,aI,aJ ak,aI,aJ ak,aI,aC ak ak,<-List.map_append] at hb;rw[bW hb,aI];exact ih st rs (s++x) _ ak (hH.rest ak (by rw[pF];omega) ak)
   |false=>
   rw[h1,aS] at hb;rw[aS];cases h2:k==2 with
   |true=>
    rw[h2,aI] at hb;cases hf:f with
    |true=>have e32:[[D.int .u8 32]]=[byteRow 32]:=rfl;rw[hf,aI,aJ ak,aI,aJ ak,aI,aC ak ak,e32,<-List.map_singleton,<-List.map_append] at hb;rw[bW hb,Bool.and_self,aI];rw[hf] at hH;exact ih st rs (s++[32]) _ ak (hH.rest ak (by rw[pF,J3];omega) ak)
    |false=>rw[hf,aS,aEp,ah] at hb;rw[bW hb,Bool.and_false,aS,Bool.true_or,aI];rw[hf] at hH;exact ih st rs (brk s i) i ak (hH.rest hi0 hbl ak)
   |false=>
   rw[h2,aS] at hb;rw[Bool.false_and,aS,Bool.false_or];cases h3:k==3 with
   |true=>rw[h3,aI,aEp,ah] at hb;rw[bW hb,aI];exact ih st rs (brk s i) i ak (hH.rest hi0 hbl ak)
   |false=>
   rw[h3,aS] at hb;rw[aS];have go:∀(j:Int) (g:Bool),i<=j->j<=i+40->∀ps,Xr (ks.map λt=>(t,j,g)) ps->M.rM (col,w,s.map byteRow,(R::rs).reverse)=some (.inl (col,w,s.map byteRow,rs.reverse++ps.reverse))->
     ∃col',dI M.rM (col,w,s.map byteRow,(R::rs).reverse)=some (col',w,(lay w m (ks.map (λt=>(t,j,g))++st) s col).map byteRow,[]):=by
    intro j g hj1 hj2 ps hps hstep;rw[bW hstep,<-List.reverse_append];exact ih _ (ps++rs) s col ak (hH.kids hj1 hj2 hps)
   cases h4:k==4 with
   |true=>
    have ek:k=4:=by simpa using h4
    rw[dOk,EU,ek] at hd0;obtain⟨hn0,hn1⟩:=atA hd0.2;obtain⟨ps,hps,hpush⟩:=hpu (i+n) f;rw[h4,aI,aC ak ak,hpush,ah] at hb;rw[aI];exact go (i+n) f ak ak ps hps hb
   |false=>
   rw[h4,aS] at hb;rw[aS];cases h5:k==5 with
   |true=>
    rw[h5,aI] at hb;rw[aI];cases hf:f with
    |true=>obtain⟨ps,hps,hpush⟩:=hpu i true;rw[hf,aI,hpush,ah] at hb;rw[Bool.true_or];exact go i true ak ak ps hps hb
    |false=>have hc1:=a0u (t:=.mk k n x y ks) g' hk' hPs s col w (by rw[Tn.size];omega) (by rw[txs];omega) hps ak hw0 hw1;simp only[Tn.kind,Tn.op,Tn.text] at hc1;rw[Bool.false_or];obtain⟨ps,hps,hpush⟩:=hpu i (aiw w col (.mk k n x y ks) st);rw[hf,aS,hc1,ah] at hb;simp only[JR,aI,hpush,ah] at hb;exact go i (aiw w col (.mk k n x y ks) st) ak ak ps hps hb
   |false=>rw[h5,aS] at hb;rw[aS];obtain⟨ps,hps,hpush⟩:=hpu i f;rw[hpush,ah] at hb;exact go i f ak ak ps hps hb
def rnR(t:Tn)(w:Int):aB×Bool:=flR (render t w)
def aiZ{t:Tn}{o:Bool}(w:Int)(h:t.size<=90000000)(hx:∀n,n∈t.flat 0->n.text.length<=1000000000):M.wB (dw o (t.flat 0)) w=some (rnR t w):=by
 simp only[M.wB,M.ML,ajN (o:=o) h,ah,QK,ayZ (o:=o) h,rnR,render];have azl:Nat.ble t.size 4000=decide (t.size<=4000):=by rw[Bool.eq_iff_iff,decide_eq_true_eq];exact Iff.of_eq Nat.ble_eq
 rw[azl,Bool.and_comm (decide (t.size<=4000))];cases hd:(dOk t) && decide (t.size<=4000) with
 |false=>rfl
 |true=>
  cases hw:decide (0<=w) && decide (w<=10000) with
  |false=>rfl
  |true=>
   simp only[EU,decide_eq_true_eq] at hd hw;have htx:=arU 1000000000 t 0 hx;simp only[Bool.not_true,aS,Bool.and_self,aI,flR];obtain⟨col',hl⟩:=aIl w hw.1 hw.2 t.size [(t,0,false)] [[.int .i64 t.kind,.int .i64 t.op,.str t.text,.sl false 5 (aP (zT (t.flat 0) t.kids 0)),.int .i64 (grp ((t.flat 0).take (sizes t.kids))),.int .i64 0,.bool false]] [] 0 hd.2
    ⟨by simp[EW,sizes],⟨_,[],rfl,⟨_,_,rfl,Zt _ _ _⟩,rfl⟩,λp hp=>by simp only[List.mem_singleton] at hp;subst hp;refine⟨hd.1,Int.le_refl 0, ?_⟩;simp only;omega,Int.le_refl 0,
     by simp only[EW,Rh,List.map_nil,uO,qX];omega,by simp only[EW,Rh,List.map_nil,uO];omega,by simp only[EW,Rh,List.map_nil,uO];omega⟩
   rw[List.reverse_singleton] at hl;have e0:([]:aB).map byteRow=[]:=rfl;rw[e0] at hl;simp only[M.xq,M.I4,M.Gp,hl,ah,JR,aI,bytesOf_map]
def af4(w:Int):M.wB [] w=some ([],false):=by simp only[M.wB,M.ML,ak3.1,ah];rfl
mutual
def ald:∀(t:Tn) (pre post:List Nd) (i:Nat),i<t.size->∃b u,Lies (pre++(t.flat pre.length++post)) b u∧b+sizes u.kids=pre.length+i
 | .mk k o x y ks,pre,post,i,h=>by
  rw[Tn.size] at h
  by_cases hi:i=sizes ks
  ·exact⟨pre.length,.mk k o x y ks,⟨pre,post,rfl,rfl⟩,by rw[hi];rfl⟩
  ·obtain⟨b,u,h1,h2⟩:=ai0 ks pre ([⟨k,o,x,y,ends ks pre.length⟩]++post) i ak;refine⟨b,u, ?_,h2⟩;rw[Tn.flat,Ad];exact h1
def ai0:∀(ks:List Tn) (pre post:List Nd) (i:Nat),i<sizes ks->∃b u,Lies (pre++(iW ks pre.length++post)) b u∧b+sizes u.kids=pre.length+i
 |[],_,_,i,h=>by simp[sizes] at h
 |t::ts,pre,post,i,h=>by
  rw[sizes] at h
  by_cases hi:i<t.size
  ·obtain⟨b,u,h1,h2⟩:=ald t pre (iW ts (pre.length+t.size)++post) i hi;refine⟨b,u, ?_,h2⟩;rw[iW,Ad];exact h1
  ·obtain⟨b,u,h1,h2⟩:=ai0 ts (pre++t.flat pre.length) post (i - t.size) ak;rw[pF,t.flat_length] at h1 h2;refine⟨b,u, ?_,ak⟩;rw[iW,Ad,<-Ad pre];exact h1
end
def aCq{t:Tn}{i:Nat}(h:i<t.size):∃b u,Lies (t.flat 0) b u∧b+sizes u.kids=i:=by obtain⟨b,u,h1,h2⟩:=ald t [] [] i h;refine⟨b,u,by simpa using h1,by simpa using h2⟩
mutual
def ai1:Tn->Bool
 | .mk k _ _ _ ks=>k==3||Mc ks
def Mc:List Tn->Bool
 |[]=>false
 |t::ts=>(ai1 t)||Mc ts
end
def adl{k n:Int}{x:aB}{c:Nat}(h:Yb k n x c=true)(hk:k=1∨k=2∨k=3):c=0:=by rcases hk with rfl|rfl|rfl<;>cases hn:(n==0)<;>cases hx:(x==[])<;>simp[Yb,hn,hx] at h<;>omega
def azo{k n:Int}{x:aB}{c:Nat}(h:Yb k n x c=true)(hk:k=5):c=1:=by subst hk;cases hn:(n==0)<;>cases hx:(x==[])<;>simp[Yb,hn,hx] at h<;>omega
def aIn{k n:Int}{x:aB}{c:Nat}(h:Yb k n x c=true)(h1:(k==1)=false)(h2:(k==2)=false)(h3:(k==3)=false)(h4:(k==4)=false)(h5:(k==5)=false):n=0:=by
 cases hn:(n==0) with
 |true=>simpa using hn
 |false=>simp[Yb,hn,h4] at h
mutual
def aqD:∀t:Tn,dOk t=true->(DK t).isNone=(ai1 t)
 | .mk k n x y ks,h=>by
  rw[dOk,EU] at h;rw[DK,ai1];cases h1:k==1 with
  |true=>
   have hl:=adl h.2 (.inl (by simpa using h1));have:ks=[]:=List.length_eq_zero_iff.1 hl;have e:k=1:=by simpa using h1
   subst this;subst e;rfl
  |false=>
  cases h2:k==2 with
  |true=>
   have hl:=adl h.2 (.inr (.inl (by simpa using h2)));have:ks=[]:=List.length_eq_zero_iff.1 hl;have e:k=2:=by simpa using h2
   subst this;subst e;rfl
  |false=>
  cases h3:k==3 with
  |true=>rfl
  |false=>simp only[aS,Bool.false_or];exact ale ks h.1
def ale:∀ts:List Tn,aqi ts=true->(Ag ts).isNone=Mc ts
 |[],_=>rfl
 |t::ts,h=>by
  rw[aqi,EU] at h;have h1:=aqD t h.1;have h2:=ale ts h.2;rw[Ag,Mc,<-h1,<-h2];cases DK t with
  |none=>rfl
  |some a=>cases Ag ts<;>rfl
end
def Yh(l:List Bool):aA:=l.map λb=>[.bool b]
def aqE(l:List Bool):(Yh l).length=l.length:=by simp[Yh]
def aqF(l:List Bool)(j:Nat):(Yh l)[j]? =(l[j]?).map λb=>[D.bool b]:=by simp[Yh]
def au0(l:List Bool):ay (Yh l)=true:=by simp only[ay,Yh,List.all_map,List.all_eq_true];intro x _;rfl
def azp(l:List Nd)(L:List Bool)(i:Nat):Prop:=L.length=i∧∀b u,Lies l b u->b+sizes u.kids<i->L[b+sizes u.kids]? =some (ai1 u)
def aaP:∀a b:List Tn,Mc (a++b)=(Mc a||Mc b)
 |[],b=>rfl
 |t::a,b=>by rw[VE,Mc,Mc,aaP a b,Bool.or_assoc]
def azq{l:List Nd}{o:Bool}{L:List Bool}{i:Nat}(hI:azp l L i)(hl:l.length<=90000000){b:Nat}{u:Tn}(hu:Lies l b u)(hi:b+sizes u.kids=i)(is:Bool):
  M.KF (dw o l) (i:Int) (Yh L) (is,0)=some (is||Mc u.kids,(u.kids.length:Int)):=by
 obtain⟨k,n,x,y,ks⟩:=u;have hroot:l[b+sizes ks]? =some ⟨k,n,x,y,ends ks b⟩:=hu.root;simp only[Tn.kids] at hi⊢;rw[hi] at hroot;have hlt:=hu.lt;rw[Tn.size] at hlt;have aIm:=iZ ks;have hloop:=fJ (b:=M.F5 (dw o l) (i:Int) (Yh L)) (t:=(is||Mc ks,(ks.length:Int))) (λj=>(is||Mc (ks.take j),(j:Int))) ks.length
  (by
   intro j hj;obtain⟨t,ht⟩:∃t,ks[j]? =some t:=⟨ks[j],by simp⟩
   have he:=VX (b:=b) ht;have hst:=zQ ht;have hts:=t.tZ;have hLt:=hI.2 _ t (Lies.QM hu ht) ak;rw[dP ht,aaP,<-Bool.or_assoc];generalize (is||Mc (ks.take j))=c;simp only[M.F5,M.zC,aW,vg,hroot,Jb,ah,cD3,aU,dQ,lG,he,Lu,U0,aqF,hLt];rw[zdt ak,aI,aC ak ak];cases c with
   |true=>rfl
   |false=>simp only[aS,Mc,Bool.or_false,Bool.false_or];rfl)
  (by simp only[M.F5,M.zC,aW,vg,hroot,Jb,ah,cD3,aU,dQ];rw[nZ ak,aS,List.take_length]) 0 (Nat.zero_le _)
 rw[pz,List.take_zero,Mc,Bool.or_false] at hloop;exact hloop
def azr{t:Tn}{o:Bool}(h:t.size<=90000000):∃L,azp (t.flat 0) L t.size∧M.yG (dw o (t.flat 0))=some (Yh L):=by
 have key:∀(m i:Nat) (L:List Bool),t.size - i=m->i<=t.size->azp (t.flat 0) L i->∃L',azp (t.flat 0) L' t.size∧dI (M.zF (dw o (t.flat 0))) ((i:Int),Yh L)=some ((t.size:Int),Yh L'):=by
  intro m;induction m with
  |zero=>intro i L hm hi hI;have:i=t.size:=ak;subst this;refine⟨L,hI,bn ?_⟩;simp only[iY,M.zF,M.zD,jA,t.flat_length];rw[nZ ak,aS]
  |succ m ih=>
   intro i L hm hi hI;have hlt:i<t.size:=ak;obtain⟨b,u,hu,hbi⟩:=aCq hlt;have hroot:=Lies.root' hu;rw[hbi] at hroot;have hin:=λb u hu hbi=>azq (o:=o) hI (Yd h).1 (b:=b) (u:=u) hu hbi (u.kind==3)
   have hin0:=hin b u hu hbi;have hL:=hI.1;have hstep:M.zF (dw o (t.flat 0)) ((i:Int),Yh L)=some (.inl (((i+1:Nat):Int),Yh (L++[u.kind==3||Mc u.kids]))):=by simp only[iY,M.zF,M.zD,jA,t.flat_length,aW,vg,hroot,Jb,ah,cD0,hin0,aqE,J3];rw[zdt ak,aI,aJ ak,aI,aJ ak,aI,aC ak ak];simp[Yh]
   rw[bW hstep];refine ih (i+1) _ ak hlt ⟨by simp[hL],λb2 u2 hu2 hb2=> ?_⟩
   by_cases hc:b2+sizes u2.kids<i
   ·rw[List.getElem?_append_left ak];exact hI.2 b2 u2 hu2 hc
   ·have hb2:b2+sizes u2.kids=i:=ak;have h2:=hin b2 u2 hu2 hb2;have hr2:=Lies.root' hu2;rw[hb2,hroot] at hr2;simp only[iI,Nd.mk.injEq] at hr2;rw[<-hr2.1,hin0] at h2;simp only[iI,jY] at h2;rw[hb2,List.getElem?_append_right ak,hL,Nat.sub_self,List.getElem?_cons_zero,h2.1,hr2.1];cases u2;rfl
 obtain⟨L,h1,h2⟩:=key t.size 0 [] rfl (Nat.zero_le _) ⟨rfl,λ_ _ _ h=>absurd h (Nat.not_lt_zero _)⟩;have e0:Yh []=[]:=rfl;rw[pz,e0] at h2;refine⟨L,h1, ?_⟩;simp only[M.yG,M.NH,M.KG,h2,ah,au0,aI]
def isI(l:List Nd)(p:Pc)(r:Row):Prop:=∃b,Lies l b p.1∧r=[.int .i64 ((b+sizes p.1.kids:Nat):Int),.int .i64 p.2.1,.bool p.2.2]
def QW(l:List Nd):List Pc->aA->Prop
 |[],rows=>rows=[]
 |p::ps,rows=>∃r rs,rows=r::rs∧isI l p r∧QW l ps rs
def OT{l:List Nd}:∀{ts:List Pc} {rows:aA},QW l ts rows->rows.length=ts.length
 |[],_,h=>by rw[QW] at h;rw[h];rfl
 |t::ts,_,⟨r,rs,e,_,h2⟩=>by subst e;rw[lU,OT h2,lU]
def V7{l:List Nd}:∀{a b:List Pc} {ra rb:aA},QW l a ra->QW l b rb->QW l (a++b) (ra++rb)
 |[],_,_,_,h,h2=>by rw[QW] at h;subst h;exact h2
 |t::ts,_,_,_,⟨r,rs,e,h1,h2⟩,h3=>by subst e;exact⟨r,_,rfl,h1,V7 h2 h3⟩
def alf{l:List Nd}:∀{ps:List Pc} {rows:aA},QW l ps rows->rows.all (λr=>r.all D.flat)=true
 |[],_,h=>by rw[QW] at h;subst h;rfl
 |p::ps,_,⟨r,rs,e,⟨b,_,e1⟩,h2⟩=>by subst e;subst e1;rw[List.all_cons,alf h2];rfl
def abM{l:List Nd}{ps:List Pc}{rows:aA}(h:QW l ps rows):ay rows.reverse=true:=by rw[ay,List.all_reverse];exact alf h
def atB{l:List Nd}{b:Nat}{k n:Int}{x y:aB}{ks:List Tn}(hu:Lies l b (.mk k n x y ks))(n':Int)(x':aB)(k' ii:Int)(ff:Bool){st:List Pc}{rows:aA}(hst:QW l st rows)(hl:l.length<=90000000)(hs:st.length<=1000000000):
  ∃ps,QW l (ks.map λt=>(t,ii,ff)) ps∧M.kP rows.reverse k' n' x' (encI (ends ks b)) ii ff=some (ps++rows).reverse:=by
 have hlt:=hu.lt;rw[Tn.size] at hlt;have aIm:=iZ ks;have hrl:=OT hst;have aIo:∀j t,ks[j]? =some t->isI l (t,ii,ff) [.int .i64 ((b+sizes (ks.take j)+sizes t.kids:Nat):Int),.int .i64 ii,.bool ff]:=λj t ht=>⟨_,Lies.QM hu ht,rfl⟩
 have key:∀(j:Nat),j<=ks.length->∀ps,QW l ((ks.drop j).map λt=>(t,ii,ff)) ps->∃ps',QW l (ks.map λt=>(t,ii,ff)) ps'∧
   dI (M.IE ii ff k' n' x' (encI (ends ks b))) ((j:Int) - 1,(ps++rows).reverse)=some (-1,(ps'++rows).reverse):=by
  intro j;induction j with
  |zero=>intro _ ps hps;refine⟨ps,hps,bn ?_⟩;simp only[iY,M.IE,M.BQ];rw[nZ ak,aS];rfl
  |succ j ihj=>
   intro hj ps hps;obtain⟨t,ht⟩:∃t,ks[j]? =some t:=⟨ks[j],by simp⟩
   have he:=VX (b:=b) ht;have hpl:=OT hps;rw[List.length_map,List.length_drop] at hpl;have hdr:ks.drop j=t::ks.drop (j+1):=by obtain⟨h1,h2⟩:=Md.1 ht;rw[List.drop_eq_getElem_cons h1,h2]
   have hlen:(ps++rows).reverse.length<=2000000000:=by rw[List.length_reverse,pF];omega
   obtain⟨ps',h1,h2⟩:=ihj ak ([.int .i64 ((b+sizes (ks.take j)+sizes t.kids:Nat):Int),.int .i64 ii,.bool ff]::ps) (by rw[hdr];exact⟨_,_,rfl,aIo j t ht,hps⟩);refine⟨ps',h1, ?_⟩;rw[show(((j+1:Nat):Int) - 1)=(j:Int) by omega,<-h2];refine bW ?_;simp only[iY,M.IE,M.BQ,aW,lG,he,Jb,ah,Lu,J3];rw[zdt ak,aI,aJ ak,aI,aJ ak,aI,aC ak ak];simp
 obtain⟨ps,h1,h2⟩:=key ks.length (Nat.le_refl _) [] (by rw[List.drop_length];rfl);rw[List.nil_append] at h2;refine⟨ps,h1, ?_⟩;simp only[M.kP,M.P7,M.NJ,aU,dQ];rw[aC ak ak,h2];simp only[ah,abM (V7 h1 hst),aI]
def cost(p:Pc):Nat×Bool:=bif p.2.2 then(((DK p.1).getD []).length,false) else(bh p.1)
def fbs:List Pc->Nat×Bool
 |[]=>(0,false)
 |p::ps=>bif(cost p).2 then cost p else((cost p).1+(fbs ps).1,(fbs ps).2)
def ai2:∀a b:List Pc,fbs (a++b)=bif(fbs a).2 then fbs a else((fbs a).1+(fbs b).1,(fbs b).2)
 |[],b=>by simp[fbs]
 |t::a,b=>by
  rw[VE,fbs,fbs,ai2 a b];cases h:(cost t).2 with
  |true=>simp[h]
  |false=>simp only[aS];cases h2:(fbs a).2<;>simp[Nat.add_assoc,h2]
def atC(i:Int):∀ts:List Tn,fbs (ts.map λt=>(t,i,false))=VB ts
 |[]=>rfl
 |t::ts=>by rw[Rh,fbs,VB,atC i ts];rfl
def aqG(i:Int):∀(ts:List Tn) (s:aB),Ag ts=some s->fbs (ts.map λt=>(t,i,true))=(s.length,false)
 |[],s,h=>by cases h;rfl
 |t::ts,s,h=>by
  rw[Ag] at h;cases ha:DK t with
  |none=>rw[ha] at h;cases h
  |some a=>
   rw[ha] at h;cases hb:Ag ts with
   |none=>rw[hb] at h;cases h
   |some b=>rw[hb] at h;cases h;rw[Rh,fbs,aqG i ts b hb];simp[cost,ha]
def aqH:∀(st:List Pc),(∀p,p∈st->p.2.2=false)->fbs st=VB (EW st)
 |[],_=>rfl
 |p::st,h=>by
  have e:=h p ZK;have ec:cost p=(bh p.1):=by rw[cost,e];rfl
  have:=aqH st λq hq=>h q (Yw _ hq)
  rw[fbs,this,ec];rfl
def RInv(st:List Pc):Prop:=∀p,p∈st->dOk p.1=true∧(p.2.2=true->∃s,DK p.1=some s)
def ai3:∀{ts:List Tn} {s:aB} {t:Tn},Ag ts=some s->t∈ts->∃a,DK t=some a
 |[],_,_,_,h=>by cases h
 |u::ts,s,t,h,ht=>by
  rw[Ag] at h;cases ha:DK u with
  |none=>rw[ha] at h;cases h
  |some a=>
   rw[ha] at h;cases hb:Ag ts with
   |none=>rw[hb] at h;cases h
   |some b=>
    rcases List.mem_cons.1 ht with rfl|ht
    ·exact⟨a,ha⟩
    ·exact ai3 hb ht
def abN{k n:Int}{x y:aB}{ks:List Tn}(h1:(k==1)=false)(h2:(k==2)=false)(h3:(k==3)=false):DK (.mk k n x y ks)=Ag ks:=by rw[DK,h1,h2,h3];rfl
def RInv.kids{k n:Int}{x y:aB}{ks:List Tn}{i:Int}{f:Bool}{st:List Pc}(h:RInv ((.mk k n x y ks,i,f)::st))(h1:(k==1)=false)(h2:(k==2)=false)(h3:(k==3)=false)(j:Int)(g:Bool)
  (hg:g=true->∃s,DK (.mk k n x y ks)=some s):RInv (ks.map (λt=>(t,j,g))++st):=by
 intro p hp;rcases List.mem_append.1 hp with hp|hp
 ·obtain⟨t,ht,rfl⟩:=List.mem_map.1 hp;obtain⟨h4,h5⟩:=h _ ZK;rw[dOk,EU] at h4;refine⟨adi h4.1 ht,λe=> ?_⟩;obtain⟨s,hs⟩:=hg e;rw[abN h1 h2 h3] at hs;exact ai3 hs ht
 ·exact h p (Yw _ hp)
def azs{l:List Nd}{o:Bool}(hl:l.length<=90000000){b:Nat}{k n:Int}{x y:aB}{ks:List Tn}(hu:Lies l b (.mk k n x y ks))(rest:aA)(room:Int)(at_:Int){ii:Int}{f:Bool}{st:List Pc}{rows:aA}(hst:QW l st rows)(hs:st.length<=1000000000)
  (hr:0<=room) (hx:x.length<=20000000000000) (hr2:room<=40000000000000) (hdn:Yb k n x ks.length=true) (aqI:f=true->(k==3)=false):
  ∃ps,QW l (ks.map λt=>(t,ii,f)) ps∧
  M.gu (dw o l) rest (room,at_,([.int .i64 ((b+sizes ks:Nat):Int),.int .i64 ii,.bool f]::rows).reverse)=
   some (bif k==1 then .inl (room - (x.length:Int),at_,(ps++rows).reverse) else bif k==2 then(bif !f then .inr (.inl ()) else .inl (room - 1,at_,(ps++rows).reverse)) else bif k==3 then .inr (.inl ()) else .inl (room,at_,(ps++rows).reverse)):=by
 obtain⟨ps,hps,hkids⟩:=atB (l:=l) hu n x k ii f hst hl hs;refine⟨ps,hps, ?_⟩;have hroot:l[b+sizes ks]? =some ⟨k,n,x,y,ends ks b⟩:=hu.root;have hrl:=OT hst;generalize hR:[D.int .i64 ((b+sizes ks:Nat):Int),.int .i64 ii,.bool f]=R;have c0:aY .i64 R 0=some ((b+sizes ks:Nat):Int):=by rw[<-hR];rfl
 have c1:aY .i64 R 1=some ii:=by rw[<-hR];rfl
 have c2:Q5 R 2=some f:=by rw[<-hR];rfl
 have hlen:((R::rows).reverse.length:Int)=(rows.length:Int)+1:=by simp
 have azn:i64.wrap ((rows.length:Int)+1 - 1)=(rows.length:Int):=(aC ak ak).trans ak;have hget:(R::rows).reverse[rows.length]? =some R:=by rw[List.reverse_cons];exact agw rows R
 have htk:(R::rows).reverse.take rows.length=rows.reverse:=by rw[List.reverse_cons];exact List.take_left' (by simp)
 have hd:(decide ((0:Int)<=(rows.length:Int)) && decide ((rows.length:Int)<=(rows.length:Int)+1))=true:=by simp;omega
 have hz:(((rows.length:Int)+1)==0)=false:=JX.2 ak;have hge:decide (room>=0)=true:=zdt hr;have hfl:=abM hst;have aEq:(k=1∨k=2∨k=3)->ps=[]:=by intro hk;have hc:=adl hdn hk;have:ks=[]:=List.length_eq_zero_iff.1 hc;subst this;exact hps
 have hwa:i64.wrap (room - (x.length:Int))=room - (x.length:Int):=aC ak ak;have hwb:i64.wrap (room - 1)=room - 1:=aC ak ak;simp only[iY,M.gu,M.nV,hwa,hwb,hge,hlen,hz,azn,aW,U0,hget,sb,c0,c1,c2,hd,aI,aS,vg,hroot,Jb,cD0,cD1,cD2,cD3,htk,hfl,hkids];cases h1:k==1 with
 |true=>rw[aEq (.inl (by simpa using h1))];rfl
 |false=>
 cases h2:k==2 with
 |true=>rw[aEq (.inr (.inl (by simpa using h2)))];cases f<;>rfl
 |false=>cases h3:k==3<;>rfl
def aCr{l:List Nd}{o:Bool}(hl:l.length<=90000000){all:aA}(hall:all.length<=1000000000):∀(m:Nat) (us rs:List Pc) (rows rws pre:aA) (room:Int),sizes (EW us)+sizes (EW rs)<=m->m<=1000000000->QW l us rows->QW l rs rws->all=pre++rws->
  RInv (us++rs)-> -50000000000000<=room->room<=40000000000000->uO (EW us)+uO (EW rs)<=20000000000000->
  (decide (((fbs (us++rs)).1:Int)<=room)=true∧dI (M.gu (dw o l) all.reverse) (room,(rws.length:Int),rows.reverse)=some (.inl ()))∨
  (decide (((fbs (us++rs)).1:Int)<=room)=false∧∃s,dI (M.gu (dw o l) all.reverse) (room,(rws.length:Int),rows.reverse)=some (.inr s)):=by
 intro m;induction m with
 |zero=>
  intro us rs rows rws pre room hm hmb hU hR ha hI hr0 hr1 htx;have hu0:us=[]:=by
   cases us with
   |nil=>rfl
   |cons p us=>have:=p.1.size_pos;simp only[EW,Rh,sizes] at hm;omega
  have bb4:rs=[]:=by
   cases rs with
   |nil=>rfl
   |cons p us=>have:=p.1.size_pos;simp only[EW,Rh,sizes] at hm;omega
  subst hu0;subst bb4;rw[QW] at hU hR;subst hU;subst hR
  by_cases hr:0<=room
  ·refine .inl ⟨zdt (by simpa[fbs] using hr),bn ?_⟩;simp only[iY,M.gu,M.nV,zdt (show room>=0 from hr)];rfl
  ·refine .inr ⟨nZ (by simp[fbs];omega),(room,0,[]),bn ?_⟩;simp only[iY,M.gu,M.nV,nZ (show¬room>=0 by omega)];rfl
 |succ m ih=>
  intro us rs rows rws pre room hm hmb hU hR ha hI hr0 hr1 htx
  by_cases hr:0<=room
  case neg=>refine .inr ⟨nZ ak,(room,(rws.length:Int),rows.reverse),bn ?_⟩;simp only[iY,M.gu,M.nV,nZ (show¬room>=0 by omega)];rfl
  have top:∀(p:Pc) (us rs:List Pc) (rows rws pre:aA) (r:Row),sizes (EW (p::us))+sizes (EW rs)<=m+1->isI l p r->QW l us rows->QW l rs rws->all=pre++rws->RInv (p::us++rs)->uO (EW (p::us))+uO (EW rs)<=20000000000000->
    ∀R,M.gu (dw o l) all.reverse (room,(rws.length:Int),(r::rows).reverse)=R->
    (∀q:(Int×Int×aA)⊕((Unit)⊕(Int×Int×aA)),R=some q->
     (decide (((fbs (p::us++rs)).1:Int)<=room)=true∧q=.inr (.inl ()))∨
     (∃s,q=.inl s∧((decide (((fbs (p::us++rs)).1:Int)<=room)=true∧dI (M.gu (dw o l) all.reverse) s=some (.inl ()))∨
      (decide (((fbs (p::us++rs)).1:Int)<=room)=false∧∃s',dI (M.gu (dw o l) all.reverse) s=some (.inr s')))))∧R≠none:=by
   intro p us rs rows rws pre r hm hp hU hR ha hI htx R hRd;obtain⟨t,ii,f⟩:=p;obtain⟨k,n,x,y,ks⟩:=t;obtain⟨b,hu,rfl⟩:=hp;simp only[Tn.kids] at hu hRd;obtain⟨hd0,hfl⟩:=hI _ ZK;simp only at hd0 hfl;have hd1:=hd0;rw[dOk,EU] at hd1;have e1:EW ((Tn.mk k n x y ks,ii,f)::us)=Tn.mk k n x y ks::EW us:=rfl;rw[e1,sizes,Tn.size] at hm;rw[e1,uO,txs] at htx;have hul:=aac us;have aqI:f=true->(k==3)=false:=by
    intro e;obtain⟨s,hs⟩:=hfl e;cases h3:k==3 with
    |false=>rfl
    |true=>
     have e3:k=3:=by simpa using h3
     subst e3;cases hs
   obtain⟨ps,hps,hone⟩:=azs (o:=o) hl hu all.reverse room (rws.length:Int) (ii:=ii) (f:=f) hU ak hr ak hr1 hd1.2 aqI;rw[hone] at hRd;subst hRd;refine⟨λq hq=> ?_,by simp⟩;simp only[iI] at hq;subst hq;have hIr:RInv (us++rs):=λp hp=>hI p (Yw _ hp)
   rw[VE,fbs];cases h1:k==1 with
   |true=>
    have ek:k=1:=by simpa using h1
    have hk0:ks=[]:=List.length_eq_zero_iff.1 (adl hd1.2 (.inl ek));subst hk0;have hc:cost (Tn.mk k n x y [],ii,f)=(x.length,false):=by subst ek;cases f<;>simp[cost,DK,bh,VB]
    have hps0:ps=[]:=hps;subst hps0;simp only[aI,List.nil_append,hc,aS];refine .inr ⟨_,rfl, ?_⟩;have:=ih us rs rows rws pre (room - (x.length:Int)) ak ak hU hR ha hIr ak ak ak;have hdd:decide (((x.length+(fbs (us++rs)).1:Nat):Int)<=room)=decide (((fbs (us++rs)).1:Int)<=room - (x.length:Int)):=by rw[Bool.eq_iff_iff,decide_eq_true_eq,decide_eq_true_eq];omega
    rw[hdd];exact this
   |false=>
   cases h2:k==2 with
   |true=>
    have ek:k=2:=by simpa using h2
    have hk0:ks=[]:=List.length_eq_zero_iff.1 (adl hd1.2 (.inr (.inl ek)));subst hk0;cases hf:f with
    |false=>
     have hc:cost (Tn.mk k n x y [],ii,false)=(0,true):=by subst ek;simp[cost,bh]
     simp only[hc,aI];exact .inl ⟨zdt ak,rfl⟩
    |true=>
     have hc:cost (Tn.mk k n x y [],ii,true)=(1,false):=by subst ek;simp[cost,DK]
     have hps0:ps=[]:=hps;subst hps0;simp only[aI,aS,List.nil_append,hc,Bool.not_true];refine .inr ⟨_,rfl, ?_⟩;have:=ih us rs rows rws pre (room - 1) ak ak hU hR ha hIr ak ak ak;have hdd:decide (((1+(fbs (us++rs)).1:Nat):Int)<=room)=decide (((fbs (us++rs)).1:Int)<=room - 1):=by rw[Bool.eq_iff_iff,decide_eq_true_eq,decide_eq_true_eq];omega
     rw[hdd];exact this
   |false=>
   cases h3:k==3 with
   |true=>
    have ek:k=3:=by simpa using h3
    have hf:f=false:=by
     cases hf:f with
     |false=>rfl
     |true=>rw[aqI hf] at h3;cases h3
    subst hf;have hc:cost (Tn.mk k n x y ks,ii,false)=(0,true):=by subst ek;simp[cost,bh]
    simp only[hc,aI];exact .inl ⟨zdt ak,rfl⟩
   |false=>
    simp only[aS];refine .inr ⟨_,rfl, ?_⟩;have hIk:=hI.kids h1 h2 h3 ii f hfl;have:=ih (ks.map (λt=>(t,ii,f))++us) rs (ps++rows) rws pre room (by rw[adk,jP];omega) ak (V7 hps hU) hR ha (by rw[Ad];exact hIk) ak ak (by rw[adk,TV];omega);have hcf:fbs (ks.map (λt=>(t,ii,f)))=cost (Tn.mk k n x y ks,ii,f):=by
     cases hf:f with
     |true=>rw[hf] at hfl;obtain⟨s,hs⟩:=hfl rfl;have hs':=hs;rw[abN h1 h2 h3] at hs';rw[aqG ii ks s hs',cost,hs];rfl
     |false=>rw[atC,cost,bh,h1,h2,h3];simp
    rw[Ad,ai2,hcf] at this;exact this
  cases us with
  |cons p us=>
   obtain⟨r,rows',rfl,hp,hU'⟩:=hU;obtain⟨t1,t2⟩:=top p us rs rows' rws pre r hm hp hU' hR ha hI htx _ rfl;cases hb:M.gu (dw o l) all.reverse (room,(rws.length:Int),(r::rows').reverse) with
   |none=>exact absurd hb t2
   |some q=>
    rcases t1 q hb with⟨h1,rfl⟩|⟨s,rfl,h1⟩
    ·exact .inl ⟨h1,bn hb⟩
    ·rw[bW hb];exact h1
  |nil=>
   rw[QW] at hU;subst hU;cases rs with
   |nil=>rw[QW] at hR;subst hR;refine .inl ⟨zdt (by simpa[fbs] using hr),bn ?_⟩;simp only[iY,M.gu,M.nV,zdt (show room>=0 from hr)];rfl
   |cons p rs=>
    obtain⟨r,ajS,rfl,hp,hR'⟩:=hR;have bcU:=aac rs;have hrl:=OT hR';have hm':sizes (EW [p])+sizes (EW rs)<=m+1:=by simp only[EW,Rh,List.map_nil,sizes] at hm⊢;omega
    have bb5:uO (EW [p])+uO (EW rs)<=20000000000000:=by simp only[EW,Rh,List.map_nil,uO] at htx⊢;omega
    obtain⟨t1,t2⟩:=top p [] rs [] ajS (pre++[r]) r hm' hp rfl hR' (by rw[ha];simp) hI bb5 _ rfl;have hsame:M.gu (dw o l) all.reverse (room,(((r::ajS).length:Nat):Int),[].reverse)=M.gu (dw o l) all.reverse (room,(ajS.length:Int),[r].reverse):=by
     obtain⟨b,hu,rfl⟩:=hp;have aEr:all.reverse[ajS.length]? =some [.int .i64 ((b+sizes p.1.kids:Nat):Int),.int .i64 p.2.1,.bool p.2.2]:=by rw[ha,List.reverse_append,List.reverse_cons,Ad,List.getElem?_append_right (by simp)];simp
     generalize hR:[D.int .i64 ((b+sizes p.1.kids:Nat):Int),.int .i64 p.2.1,.bool p.2.2]=R at aEr⊢;have c0:aY .i64 R 0=some ((b+sizes p.1.kids:Nat):Int):=by rw[<-hR];rfl
     have c1:aY .i64 R 1=some p.2.1:=by rw[<-hR];rfl
     have c2:Q5 R 2=some p.2.2:=by rw[<-hR];rfl
     have hge:decide (room>=0)=true:=zdt hr;have hl1:(((R::ajS).length:Nat):Int)=(ajS.length:Int)+1:=by simp
     have hz:(((ajS.length:Int)+1)==0)=false:=JX.2 ak;have hw1:i64.wrap ((ajS.length:Int)+1 - 1)=(ajS.length:Int):=(aC ak ak).trans ak;have hb1:Nat.ble ((0+1) * 24) 140737488355328=true:=aJ ak;have hb2:Nat.ble (0+1) 140737488355328=true:=aJ ak;have hz0:(((0:Nat):Int)==0)=true:=rfl;have hz1:(((1:Nat):Int)==0)=false:=rfl;have hq0:i64.wrap (((1:Nat):Int) - 1)=((0:Nat):Int):=(aC ak ak).trans ak;have hg0:([R]:aA)[0]? =some R:=rfl;simp only[iY,M.gu,M.nV,List.reverse_nil,List.reverse_singleton,hge,aI,aS,hl1,hz,hz0,hz1,hw1,aW,aEr,sb,c0,c1,c2,List.nil_append,qX,J3,hb1,hb2,hR,hq0,hg0,U0]
    cases hb:M.gu (dw o l) all.reverse (room,(ajS.length:Int),[r].reverse) with
    |none=>exact absurd hb t2
    |some q=>
     rcases t1 q hb with⟨h1,rfl⟩|⟨s,rfl,h1⟩
     ·exact .inl ⟨h1,bn (hsame.trans hb)⟩
     ·rw[bW (hsame.trans hb)];exact h1
def azt(ii:Int)(s:aB)(h0:0<=ii)(h1:ii<=200000)(hs:s.length<=80000000000000):M.rY (s.map byteRow) ii=some ((brk s ii).map byteRow):=by
 obtain⟨n,rfl⟩:∃n:Nat,ii=n:=⟨ii.toNat,ak⟩
 have hloop:=fJ (b:=M.F6 (n:Int)) (t:=((n:Int),(s++(10::List.replicate n 32)).map byteRow)) (λi=>((i:Int),(s++(10::List.replicate i 32)).map byteRow)) n
  (by
   intro i hi;have hlen:((s++(10::List.replicate i (32:UInt8))).map byteRow).length=s.length+(i+1):=by simp
   have e32:[[D.int .u8 32]]=[byteRow 32]:=rfl;simp only[M.F6,M.zG,hlen];rw[zdt ak,aI,aJ ak,aI,aJ ak,aI,aC ak ak,e32,<-List.map_singleton,<-List.map_append,Ad,VE,<-List.replicate_succ'];rfl)
  (by simp only[M.F6,M.zG];rw[nZ ak,aS]) 0 (Nat.zero_le _)
 have e10:s.map byteRow++[[D.int .u8 10]]=(s++(10::List.replicate 0 32)).map byteRow:=by simp[byteRow]
 rw[pz] at hloop;simp only[M.rY,M.NI,List.length_map,M.KH,e10,hloop,ah,JR,aI];rw[aJ ak,aI,aJ ak,aI];rfl
section
variable {l:List Nd} {o:Bool} {b:Nat} {k n i w col:Int} {x y:aB} {ks:List Tn} {f:Bool} {rs out:aA} {L:List Bool}
def aIp(hl:rs.length<=1000000000)(hu:Lies l b (.mk k n x y ks))(hf:ay rs.reverse=true)(hL:L[b+sizes ks]? =some (ai1 (.mk k n x y ks)))(u:Tn)(h5:k=5->ks=[u]):M.yY (dw o l) w (Yh L) (col,out,([.int .i64 ((b+sizes ks:Nat):Int),.int .i64 i,.bool f]::rs).reverse)=
  (bif k==1 then(bif((out.length+(x.map byteRow).length) * 1).ble 140737488355328 then(bif(out.length+(x.map byteRow).length).ble 140737488355328 then some (.inl (i64.wrap (col+(x.length:Int)),out++x.map byteRow,rs.reverse)) else none) else none) else
   bif k==2||k==3 then(bif f then(bif((out.length+1) * 1).ble 140737488355328 then(bif(out.length+1).ble 140737488355328 then some (.inl (i64.wrap (col+1),out++[[D.int IntKind.u8 32]],rs.reverse)) else none) else none) else
    (bif ay out then((M.rY out i).bind λr=>some (.inl (i,r,rs.reverse))) else none)) else
   bif k==5 then(bif f then((M.kP rs.reverse k n x (encI (ends ks b)) i true).bind λr=>some (.inl (col,out,r))) else
    (bif !(ai1 (.mk k n x y ks)) then((M.yc (dw o l) rs.reverse ((b+sizes u.kids:Nat):Int) i true (i64.wrap (w - col))).bind λq=>(M.kP rs.reverse k n x (encI (ends ks b)) i q).bind λr=>some (.inl (col,out,r))) else
     ((M.kP rs.reverse k n x (encI (ends ks b)) i false).bind λr=>some (.inl (col,out,r))))) else
   ((M.kP rs.reverse k n x (encI (ends ks b)) (i64.wrap (i+n)) f).bind λr=>some (.inl (col,out,r)))):=by
 have hroot:l[b+sizes ks]? =some ⟨k,n,x,y,ends ks b⟩:=hu.root;generalize hR:[D.int .i64 ((b+sizes ks:Nat):Int),.int .i64 i,.bool f]=R;have c0:aY .i64 R 0=some ((b+sizes ks:Nat):Int):=by rw[<-hR];rfl
 have c1:aY .i64 R 1=some i:=by rw[<-hR];rfl
 have c2:Q5 R 2=some f:=by rw[<-hR];rfl
 have cb:∀z:Bool,Q5 [D.bool z] 0=some z:=λ_=>rfl
 have hlen:((R::rs).reverse.length:Int)=(rs.length:Int)+1:=by simp
 have azn:i64.wrap ((rs.length:Int)+1 - 1)=(rs.length:Int):=(aC ak ak).trans ak;have hget:(R::rs).reverse[rs.length]? =some R:=by rw[List.reverse_cons];exact agw rs R
 have htk:(R::rs).reverse.take rs.length=rs.reverse:=by rw[List.reverse_cons];exact List.take_left' (by simp)
 have hd:(decide ((0:Int)<=(rs.length:Int)) && decide ((rs.length:Int)<=(rs.length:Int)+1))=true:=by simp;omega
 have hgt:decide ((rs.length:Int)+1>0)=true:=zdt ak;simp only[M.yY,M.KI,hlen,azn,hgt,aW,U0,hget,sb,c0,c1,c2,hd,aI,htk,vg,hroot,Jb,cD0,cD1,cD2,cD3,hf,aqF,hL,cb];cases h1:k==1 with
 |true=>rfl
 |false=>
 cases h2:k==2 with
 |true=>rfl
 |false=>
 cases h3:k==3 with
 |true=>rfl
 |false=>
 cases h5':k==5 with
 |false=>rfl
 |true=>
  have hks:=h5 (by simpa using h5');subst hks;have e0:idx (encI (ends [u] b)) 0=some [D.int .i64 ((b+sizes u.kids:Nat):Int)]:=by have:=aW (encI (ends [u] b)) 0;rw[pz] at this;rw[this,lG,VX (ks:=[u]) (j:=0) (t:=u) rfl];rfl
  cases f with
  |true=>rfl
  |false=>
   cases ai1 (.mk k n x y [u]) with
   |true=>rfl
   |false=>simp only[aS,Bool.not_false,aI,e0,ah,Lu,Bool.or_self]
end
def ajT(st:List Pc):Prop:=∃a c,st=a++c∧(∀p,p∈a->p.2.2=true)∧∀p,p∈c->p.2.2=false
def ajT.a0w{t:Tn}{i:Int}{st:List Pc}(h:ajT ((t,i,false)::st)):∀p,p∈st->p.2.2=false:=by
 obtain⟨a,c,e,h1,h2⟩:=h;cases a with
 |nil=>rw[List.nil_append] at e;intro p hp;exact h2 p (by rw[<-e];exact Yw _ hp)
 |cons q a=>rw[VE] at e;cases e;exact absurd (h1 _ ZK) (by simp)
def ajT.tail{p:Pc}{st:List Pc}(h:ajT (p::st)):ajT st:=by
 obtain⟨a,c,e,h1,h2⟩:=h;cases a with
 |nil=>rw[List.nil_append] at e;exact⟨[],st,rfl,(λ_ h=>by cases h),λq hq=>h2 q (by rw[<-e];exact Yw _ hq)⟩
 |cons q a=>rw[VE] at e;cases e;exact⟨a,c,rfl,λq hq=>h1 q (Yw _ hq),h2⟩
def ajT.kids{t:Tn}{i:Int}{f:Bool}{st:List Pc}(h:ajT ((t,i,f)::st))(ks:List Tn)(j:Int)(g:Bool)(hg:f=true->g=true):ajT (ks.map (λt=>(t,j,g))++st):=by
 cases g with
 |true=>
  obtain⟨a,c,e,h1,h2⟩:=h.tail;refine⟨ks.map (λt=>(t,j,true))++a,c,by rw[e,Ad],λp hp=> ?_,h2⟩;rcases List.mem_append.1 hp with hp|hp
  ·obtain⟨t,_,rfl⟩:=List.mem_map.1 hp;rfl
  ·exact h1 p hp
 |false=>
  cases f with
  |true=>exact absurd (hg rfl) (by simp)
  |false=>
   have hn:=h.a0w;refine⟨[],ks.map (λt=>(t,j,false))++st,rfl,(λ_ h=>by cases h),λp hp=> ?_⟩;rcases List.mem_append.1 hp with hp|hp
   ·obtain⟨t,_,rfl⟩:=List.mem_map.1 hp;rfl
   ·exact hn p hp
structure ar2(l:List Nd)(m:Nat)(st:List Pc)(rows:aA)(s:aB)(col:Int):Prop where
 sz:sizes (EW st)<=m
 is:QW l st rows
 inv:azm st
 rin:RInv st
 fin:ajT st
 pos:0<=col
 len:s.length+(uO (EW st)+m * 200001)<=40000000000000
 col:col+(uO (EW st)+m * 200001)<=40000000000000
 tx:uO (EW st)<=10000000000000
def ar2.rest{l:List Nd}{m:Nat}{k n:Int}{x y:aB}{ks:List Tn}{i:Int}{f:Bool}{st:List Pc}{r:Row}{rs:aA}{s s':aB}{col col':Int}(h:ar2 l (m+1) ((.mk k n x y ks,i,f)::st) (r::rs) s col)
  (h0:0<=col') (h1:s'.length<=s.length+(x.length+200001)) (h2:col'<=col+(x.length+200001)):ar2 l m st rs s' col':=by
 obtain⟨a1,⟨r',rs',e,_,a2⟩,a3,b1,b2,a4,a5,a6,a7⟩:=h;cases e;simp only[EW,Rh,sizes,Tn.size,uO,txs] at a1 a5 a6 a7;refine⟨?_,a2,λp hp=>a3 p (Yw _ hp),λp hp=>b1 p (Yw _ hp),b2.tail,h0, ?_, ?_, ?_⟩<;>simp only[EW]<;>omega
def ar2.kids{l:List Nd}{m:Nat}{k n:Int}{x y:aB}{ks:List Tn}{i:Int}{f:Bool}{st:List Pc}{r:Row}{rs ps:aA}{s:aB}{col:Int}(h:ar2 l (m+1) ((.mk k n x y ks,i,f)::st) (r::rs) s col)
  {j:Int} {g:Bool} (h1:i<=j) (h2:j<=i+40) (hp:QW l (ks.map λt=>(t,j,g)) ps) (k1:(k==1)=false) (k2:(k==2)=false) (k3:(k==3)=false) (hg:g=true->∃s,DK (.mk k n x y ks)=some s) (hfg:f=true->g=true):
  ar2 l m (ks.map (λt=>(t,j,g))++st) (ps++rs) s col:=by
 obtain⟨a1,⟨r',rs',e,_,a2⟩,a3,b1,b2,a4,a5,a6,a7⟩:=h;cases e;simp only[EW,Rh,sizes,Tn.size,uO,txs] at a1 a5 a6 a7;refine⟨?_,V7 hp a2,a3.kids j g h1 h2,b1.kids k1 k2 k3 j g hg,b2.kids ks j g hfg,a4, ?_, ?_, ?_⟩<;>rw[adk]<;>simp only[EW,jP,TV]<;>omega
def aCs(T:Tn)(o:Bool)(hT:T.size<=4000)(L:List Bool)(hL:azp (T.flat 0) L T.size)(w:Int)(hw0:0<=w)(hw1:w<=10000):∀(m:Nat) (st:List Pc) (rows:aA) (s:aB) (col:Int),m<=4000->ar2 (T.flat 0) m st rows s col->
  ∃col',dI (M.yY (dw o (T.flat 0)) w (Yh L)) (col,s.map byteRow,rows.reverse)=some (col',(lay w m st s col).map byteRow,[]):=by
 intro m;induction m with
 |zero=>
  intro st rows s col hmb hH;cases st with
  |cons p st=>have:=p.1.size_pos;have:=hH.sz;simp only[EW,Rh,sizes] at this;omega
  |nil=>have hP:=hH.is;rw[QW] at hP;subst hP;exact⟨col,bn rfl⟩
 |succ m ih=>
  intro st rows s col hmb hH;cases st with
  |nil=>have hP:=hH.is;rw[QW] at hP;subst hP;exact⟨col,bn rfl⟩
  |cons p st=>
   obtain⟨t,i,f⟩:=p;obtain⟨k,n,x,y,ks⟩:=t;obtain⟨r,rs,rfl,⟨b,hu,rfl⟩,hPs⟩:=hH.is;obtain⟨hd0,hi0,hi1⟩:=hH.inv _ ZK;obtain⟨_,azu⟩:=hH.rin _ ZK;simp only[Tn.kids] at hd0 hi0 hi1 hu azu hH⊢;have hsz:=hH.sz;have hln:=hH.len;have hcl:=hH.col;have htx:=hH.tx;have hps:=hH.pos;have hrl:=OT hPs;have aIk:=aac st;have aIm:=iZ ks;have hlt:=hu.lt;rw[T.flat_length,Tn.size] at hlt;have e1:EW ((Tn.mk k n x y ks,i,f)::st)=Tn.mk k n x y ks::EW st:=rfl;rw[e1,sizes,Tn.size] at hsz;rw[e1,uO,txs] at hln hcl htx;rw[Tn.size] at hi1;have hd1:=hd0;rw[dOk,EU] at hd1;have hLb:=hL.2 b _ hu (by simp only[Tn.kids];omega);simp only[Tn.kids] at hLb;have a0x:(T.flat 0).length<=90000000:=by rw[T.flat_length];omega
   obtain⟨u,hu5⟩:∃u,k=5->ks=[u]:=by
    cases ks with
    |nil=>exact⟨.mk 0 0 [] [] [],λe=>absurd (azo hd1.2 e) (by simp)⟩
    |cons v vs=>exact⟨v,λe=>by have:=azo hd1.2 e;cases vs with
      |nil=>rfl
      |cons _ _=>simp at this⟩
   have hb:=aIp (o:=o) (i:=i) (w:=w) (col:=col) (f:=f) (rs:=rs) (out:=s.map byteRow) (L:=L) ak hu (abM hPs) hLb u hu5;have hkids:=fun(ii:Int) (ff:Bool)=>atB hu n x k ii ff hPs a0x ak
   generalize ([.int .i64 ((b+sizes ks:Nat):Int),.int .i64 i,.bool f]:Row)=R at hb hH⊢;have hbr:=azt i s hi0 ak ak;have hbl:(brk s i).length<=s.length+(x.length+200001):=by rw[brk,pF,lU,List.length_replicate];omega
   simp only[JR,aI,List.length_map] at hb;rw[lay];cases h1:k==1 with
   |true=>rw[h1,aI,aJ ak,aI,aJ ak,aI,aC ak ak,<-List.map_append] at hb;rw[bW hb,aI];exact ih st rs (s++x) _ ak (hH.rest ak (by rw[pF];omega) ak)
   |false=>
   rw[h1,aS] at hb;rw[aS];cases h23:(k==2||k==3) with
   |true=>
    rw[h23,aI] at hb;cases hf:f with
    |true=>
     have h2:(k==2)=true:=by
      cases h2:k==2 with
      |true=>rfl
      |false=>
       rw[h2,Bool.false_or] at h23;have ek:k=3:=by simpa using h23
       obtain⟨s',hs'⟩:=azu hf;subst ek;cases hs'
     have e32:[[D.int .u8 32]]=[byteRow 32]:=rfl;rw[hf,aI,aJ ak,aI,aJ ak,aI,aC ak ak,e32,<-List.map_singleton,<-List.map_append] at hb;rw[bW hb,h2,Bool.and_self,aI];rw[hf] at hH;exact ih st rs (s++[32]) _ ak (hH.rest ak (by rw[pF,J3];omega) ak)
    |false=>rw[hf,aS,hbr,ah] at hb;rw[bW hb,Bool.and_false,aS,aI];rw[hf] at hH;exact ih st rs (brk s i) i ak (hH.rest hi0 hbl ak)
   |false=>
   rw[h23,aS] at hb;obtain⟨h2,h3⟩:(k==2)=false∧(k==3)=false:=by simpa using h23
   rw[h2,Bool.false_and,aS,aS];have go:∀(j:Int) (g:Bool),i<=j->j<=i+40->(g=true->∃s,DK (.mk k n x y ks)=some s)->(f=true->g=true)->∀ps,QW (T.flat 0) (ks.map λt=>(t,j,g)) ps->M.yY (dw o (T.flat 0)) w (Yh L) (col,s.map byteRow,(R::rs).reverse)=some (.inl (col,s.map byteRow,(ps++rs).reverse))->
     ∃col',dI (M.yY (dw o (T.flat 0)) w (Yh L)) (col,s.map byteRow,(R::rs).reverse)=some (col',(lay w m (ks.map (λt=>(t,j,g))++st) s col).map byteRow,[]):=by
    intro j g hj1 hj2 hg hfg ps hps hstep;rw[bW hstep];exact ih _ (ps++rs) s col ak (hH.kids hj1 hj2 hps h1 h2 h3 hg hfg)
   cases h4:k==4 with
   |true=>
    have ek:k=4:=by simpa using h4
    have h5:(k==5)=false:=by rw[ek];rfl
    rw[ek] at hd1;obtain⟨hn0,hn1⟩:=atA hd1.2;obtain⟨ps,hps,hpush⟩:=hkids (i+n) f;rw[h5,aS,aC ak ak,hpush,ah] at hb;rw[aI];exact go (i+n) f ak ak azu (λe=>e) ps hps hb
   |false=>
   rw[aS];cases h5:k==5 with
   |true=>
    rw[h5,aI] at hb;rw[aI];have ek:k=5:=by simpa using h5
    cases hf:f with
    |true=>obtain⟨ps,hps,hpush⟩:=hkids i true;rw[hf,aI,hpush,ah] at hb;rw[Bool.true_or];exact go i true ak ak (λ_=>azu hf) (λ_=>rfl) ps hps hb
    |false=>
     rw[hf,aS] at hb;rw[Bool.false_or];have hks:=hu5 ek;have aqI:=aqD (.mk k n x y ks) hd0;rw[<-aqI] at hb;cases hx:DK (.mk k n x y ks) with
     |none=>
      rw[hx] at hb;obtain⟨ps,hps,hpush⟩:=hkids i false;simp only[Option.isNone_none,Bool.not_true,aS,hpush,ah] at hb;have aIq:aiw w col (.mk k n x y ks) st=false:=by rw[aiw,hx]
      rw[aIq];exact go i false ak ak (λe=>by cases e) (λe=>by rw[hf] at e;cases e) ps hps hb
     |some a=>
      rw[hx] at hb;have hal:=ac9 _ a hx;rw[txs,Tn.size] at hal;have hn:=ajT.a0w (t:=.mk k n x y ks) (i:=i) (st:=st) (by have:=hH.fin;rw[hf] at this;exact this);have hxk:=hx;rw[abN h1 h2 h3,hks] at hxk;have hfu:∃a',DK u=some a'∧a'.length=a.length:=by
       rw[Ag,Ag] at hxk;cases hq:DK u with
       |none=>rw[hq] at hxk;cases hxk
       |some a'=>rw[hq] at hxk;cases hxk;exact⟨a',rfl,by simp⟩
      obtain⟨a',ha',hla⟩:=hfu;have hsu:sizes ks=u.size:=by rw[hks];simp[sizes]
      have htu:uO ks=txs u:=by rw[hks];simp[uO]
      have hmu:u∈ks:=by rw[hks];exact ZK
      have bb6:QW (T.flat 0) [(u,i,true)] [[.int .i64 ((b+sizes u.kids:Nat):Int),.int .i64 i,.bool true]]:=by have:=Lies.QM hu (j:=0) (t:=u) (by rw[hks];rfl);exact⟨_,[],rfl,⟨b,by simpa[sizes] using this,rfl⟩,rfl⟩
      have azl:=aiD (EW st);have hfit:=aCr (l:=T.flat 0) (o:=o) a0x (all:=rs) ak (sizes (EW [(u,i,true)])+sizes (EW st)) [(u,i,true)] st _ rs [] (w - col) (Nat.le_refl _) (by simp only[EW,Rh,List.map_nil,sizes];simp only[EW] at hsz;omega) bb6 hPs rfl
       (λp hp=>by
        rcases List.mem_append.1 hp with hp|hp
        ·simp only[List.mem_singleton] at hp;subst hp;exact⟨adi hd1.1 hmu,λ_=>⟨a',ha'⟩⟩
        ·exact hH.rin p (Yw _ hp)) ak ak (by simp only[EW,Rh,List.map_nil,uO];simp only[EW] at htx;omega)
      have hfb:(fbs ([(u,i,true)]++st)).1=a.length+(VB (EW st)).1:=by rw[List.singleton_append,fbs,aqH st hn];simp[cost,ha',hla]
      rw[hfb] at hfit;have aIq:aiw w col (.mk k n x y ks) st=decide (((a.length+(VB (EW st)).1:Nat):Int)<=w - col):=by rw[aiw,hx];simp only[Int.natCast_add];rfl
      have hrun:M.yc (dw o (T.flat 0)) rs.reverse ((b+sizes u.kids:Nat):Int) i true (w - col)=some (aiw w col (.mk k n x y ks) st):=by
       rw[aIq];simp only[M.yc,M.P8,List.length_reverse,M.NK];rw[List.reverse_singleton] at hfit;rcases hfit with⟨q1,q2⟩|⟨q1,s',q2⟩
       ·rw[q2,q1];rfl
       ·rw[q2,q1];rfl
      obtain⟨ps,hps,hpush⟩:=hkids i (aiw w col (.mk k n x y ks) st);simp only[Option.isNone_some,Bool.not_false,aI] at hb;rw[aC ak ak,hrun,ah,hpush,ah] at hb;exact go i _ ak ak (λ_=>⟨a,hx⟩) (λe=>by rw[hf] at e;cases e) ps hps hb
   |false=>have hn0:=aIn hd1.2 h1 h2 h3 h4 h5;rw[h5,aS,hn0,Int.add_zero,aC ak ak] at hb;rw[aS];obtain⟨ps,hps,hpush⟩:=hkids i f;rw[hn0] at hpush;rw[hpush,ah] at hb;exact go i f ak ak azu (λe=>e) ps hps hb
def ai4{t:Tn}{o:Bool}(w:Int)(h:t.size<=90000000)(hx:∀n,n∈t.flat 0->n.text.length<=1000000000):M.vY (dw o (t.flat 0)) w=some (rnR t w):=by
 simp only[M.vY,M.MI,ajO (o:=o) h hx,ah,QJ,rnR,render];have azl:Nat.ble t.size 4000=decide (t.size<=4000):=by rw[Bool.eq_iff_iff,decide_eq_true_eq];exact Iff.of_eq Nat.ble_eq
 rw[azl,Bool.and_comm (decide (t.size<=4000))];cases hd:(dOk t) && decide (t.size<=4000) with
 |false=>rfl
 |true=>
  cases hw:decide (0<=w) && decide (w<=10000) with
  |false=>rfl
  |true=>
   simp only[EU,decide_eq_true_eq] at hd hw;have htx:=arU 1000000000 t 0 hx;obtain⟨L,hL,hLr⟩:=azr (o:=o) h;have hp:=t.size_pos;have hs:=t.tZ;simp only[Bool.not_true,aS,Bool.and_self,aI,flR,hLr,ah,jA,t.flat_length];obtain⟨col',hl⟩:=aCs t o hd.2 L hL w hw.1 hw.2 t.size [(t,0,false)] [[.int .i64 ((0+sizes t.kids:Nat):Int),.int .i64 0,.bool false]] [] 0 hd.2
    ⟨by simp[EW,sizes],⟨_,[],rfl,⟨0,Lies.whole t,rfl⟩,rfl⟩,(λp hp=>by simp only[List.mem_singleton] at hp;subst hp;refine⟨hd.1,Int.le_refl 0, ?_⟩;simp only;omega),(λp hp=>by simp only[List.mem_singleton] at hp;subst hp;exact⟨hd.1,λe=>by cases e⟩),
     ⟨[],_,rfl,(λ_ h=>by cases h),(λp hp=>by simp only[List.mem_singleton] at hp;subst hp;rfl)⟩,Int.le_refl 0,
     by simp only[EW,Rh,List.map_nil,uO,qX];omega,by simp only[EW,Rh,List.map_nil,uO];omega,by simp only[EW,Rh,List.map_nil,uO];omega⟩
   rw[List.reverse_singleton] at hl;have e0:([]:aB).map byteRow=[]:=rfl;have ew:i64.wrap ((t.size:Int) - 1)=((0+sizes t.kids:Nat):Int):=(aC ak ak).trans ak;rw[e0] at hl;simp only[ew,M.P9,hl,ah,bytesOf_map]
def af5(w:Int):M.vY [] w=some ([],false):=by simp only[M.vY,M.MI,ak3.2,ah];rfl
mutual
def VG:Tn->Prop
 | .mk _ _ x _ ks=>x.length<=1000000000∧Di ks
def Di:List Tn->Prop
 |[]=>True
 |t::ts=>VG t∧Di ts
end
mutual
def ai5:∀(t:Tn) (b:Nat),VG t->∀n,n∈t.flat b->n.text.length<=1000000000
 | .mk k o x y ks,b,h,n,hn=>by
  rw[VG] at h;rw[Tn.flat] at hn;rcases List.mem_append.1 hn with hn|hn
  ·exact alg ks b h.2 n hn
  ·simp only[List.mem_singleton] at hn;subst hn;exact h.1
def alg:∀(ks:List Tn) (b:Nat),Di ks->∀n,n∈iW ks b->n.text.length<=1000000000
 |[],b,_,n,hn=>by simp[iW] at hn
 |t::ts,b,h,n,hn=>by
  rw[Di] at h;rw[iW] at hn;rcases List.mem_append.1 hn with hn|hn
  ·exact ai5 t b h.1 n hn
  ·exact alg ts _ h.2 n hn
end
def rQ(s:aB):VG (mP s)↔s.length<=1000000000:=by simp[mP,VG,Di]
def aqJ:VG VY:=by simp[VY,VG,Di]
def ai6:VG TU:=by simp[TU,VG,Di]
def ai7(d:Tn):VG (Ym d)↔VG d:=by simp[Ym,VG,Di]
def atD(d:Tn):VG (aqa d)↔VG d:=by simp[aqa,VG,Di]
def yw(l:List Tn):VG (o7 l)↔Di l:=by simp[o7,VG]
def ai8:∀l:List Tn,Di l↔∀t,t∈l->VG t
 |[]=>by simp[Di]
 |t::ts=>by simp[Di,ai8 ts]
def ZG(a b:List Tn):Di (a++b)↔Di a∧Di b:=by simp only[ai8,List.mem_append];exact⟨λh=>⟨λt ht=>h t (.inl ht),λt ht=>h t (.inr ht)⟩,λh t ht=>ht.elim (h.1 t) (h.2 t)⟩
def nD{a b:Tn}(c:Bool)(ha:VG a)(hb:VG b):VG (bif c then a else b):=by cases c<;>assumption
def ai9{a b:List Tn}(c:Bool)(ha:Di a)(hb:Di b):Di (bif c then a else b):=by cases c<;>assumption
def aqK:∀(L:List Tn) (b:Bool),Di L->Di (Um b L)
 |[],b,_=>by simp[Um,Di]
 |x::l,b,h=>by rw[Di] at h;rw[Um,ZG];exact⟨ai9 _ ⟨h.1,trivial⟩ ⟨by simp[rQ],aqJ,h.1,trivial⟩,aqK l false h.2⟩
def alh{L:List Tn}(h:Di L):VG (acW L):=by rw[acW,atD,ai7,yw];exact aqK L true h
def Ub:∀{L:List Tn} (j:Nat),Di L->VG (yZ L j)
 |[],j,_=>by simp[yZ,rQ]
 |x::l,0,h=>h.1
 |x::l,j+1,h=>Ub (L:=l) j h.2
def azv(k op:Int)(n:Nat){x:aB}(g:Bool){L:List Tn}(hx:x.length<=1048576)(h:Di L):VG (Zl k op n x g L):=by
 have hs:=OQ op;have h0:=Ub 0 h;have h1:=Ub 1 h;have h2:=Ub 2 h;have hl:=alh h;unfold Zl;refine nD _ ?_ (nD _ ?_ (nD _ ?_ (nD _ ?_ (nD _ ?_ (nD _ ?_ (nD _ ?_ (nD _ ?_ (nD _ (nD _ ?_ ?_) (nD _ ?_ (nD _ ?_ ?_))))))))))
 all_goals simp only[yw,atD,ai7,Di,rQ,h0,h1,h2,hl,aqJ,true_and,and_true,pF,lU,qX]
 all_goals first
  |omega
  |(cases g<;>simp only[aI,aS,pF,lU,qX]<;>omega)
def ali{a:Tn}(h:VG a):VG (o7 [mP [40],a,mP [41]]):=by rw[yw];exact⟨by simp[rQ],h,by simp[rQ],trivial⟩
def alj(k op:Int)(n:Nat)(p:Ps):∀(ts:List Tn) (j:Nat),(∀u,u∈ts->∀q,VG (qQ u q))->Di (tX k op n p ts j)
 |[],j,_=>by rw[tX];trivial
 |t::ts,j,h=>by rw[tX];exact⟨nD _ (h t ZK _) (ali (h t ZK _)),alj k op n p ts (j+1) λu hu=>h u (Yw _ hu)⟩
def alk(t:Tn):Uu t->∀q,VG (qQ t q):=by refine Tn.ind (P:=λt=>Uu t->∀q,VG (qQ t q)) ?_ t;intro k op x y ks ih hs q;rw[Uu] at hs;rw[qQ];exact azv _ _ _ _ hs.1.1 (alj _ _ _ _ _ _ λu hu=>ih u hu (yt hs.2 hu))
def RJ{t:Tn}(h:Uu t)(q:Ps):VG (C9 t q):=nD _ (alk t h q) (ali (alk t h _))
def ZH:∀{L:List Tn} (j:Nat),Ur L->Uu (zS L j)
 |[],j,_=>by simp[zS,Uu,Ur]
 |x::l,0,h=>h.1
 |x::l,j+1,h=>ZH (L:=l) j h.2
def aja{t:Tn}(h:Uu t):VG (Vz t):=by refine nD _ (by simp[rQ]) ?_;rw[yw];exact⟨by simp[rQ],RJ h _,trivial⟩
def alm(p:Ps){L:List Tn}(h:Ur L):VG (Rf p L):=by refine alh ((ai8 _).2 λt ht=> ?_);obtain⟨u,hu,rfl⟩:=List.mem_map.1 ht;exact RJ (yt h hu) p
def aln:∀{L:List Tn} (n:Nat),Ur L->Ur (L.take n)
 |[],n,_=>by simp[Ur]
 |x::l,0,_=>by simp[Ur]
 |x::l,n+1,h=>⟨h.1,aln n h.2⟩
def ajb:∀{L:List Tn},Di L->Di (Gt L)
 |[],_=>trivial
 |d::l,h=>⟨ai6,h.1,ajb h.2⟩
def azw{L:List Tn}(h:Di L):VG (amH L):=by rw[amH,yw];exact⟨by simp[rQ],(ai7 _).2 ((yw _).2 (ajb h)),ai6,by simp[rQ],trivial⟩
def alo{w:aB}(hw:w.length<=100):∀{ks:List Tn},Ur ks->VG (aaL w ks)
 |[],_=>by rw[aaL,rQ];omega
 |t::_,h=>by rw[aaL,yw];exact⟨by rw[rQ];omega,aja h.1,trivial⟩
def azx(op:Int){y:aB}(hy:y.length<=1048576){ks:List Tn}(h:Ur ks):VG (amI op y ks):=by
 have h1:Ur (bif y==[] then ks else ks.take (ks.length - 1)):=by
  cases(y==[]) with
  |true=>exact h
  |false=>exact aln _ h
 unfold amI;simp only[yw,ZG];refine⟨⟨?_,trivial⟩,ai9 _ ⟨by simp[rQ],alm _ h1,trivial⟩ trivial,ai9 _ trivial ⟨?_,RJ (ZH _ h) _,trivial⟩⟩
 ·cases op==0<;>simp[rQ]
 ·rw[rQ];simp;omega
def azy(k op:Int){x y:aB}{ks L:List Tn}(hx:x.length<=1048576)(hy:y.length<=1048576)(hk:Ur ks)(h:Di L):VG (afY k op x y ks L):=by
 have n0:=ZH 0 hk;have n1:=ZH 1 hk;have n2:=ZH 2 hk;have l0:=Ub 0 h;have l1:=Ub 1 h;have l2:=Ub 2 h;have l3:=Ub 3 h;have t0:VG (Lr (zS ks 0)):=RJ n0 _;have t1:VG (Lr (zS ks 1)):=RJ n1 _;have s1:=aja n1;have s2:=aja n2;unfold afY;refine nD _ t0 (nD _ (azx op hy hk) (nD _ (by simp[rQ]) (nD _ (by simp[rQ]) (nD _ (by simp[rQ]) (nD _ (alo (by simp) hk) (nD _ (alo (by simp) hk) (nD _ ?_ (nD _ ?_ (nD _ ?_ (nD _ ?_ (nD _ ?_ (nD _ ?_ (nD _ (azw h) ?_)))))))))))))
 ·cases ks with
  |nil=>simp only[rQ,pF,lU,qX];omega
  |cons u l=>simp only[yw,Di,rQ,pF,lU,qX,alm .top hk,true_and,and_true];omega
 ·have hd:VG (o7 [mP [105,102,32,40],Lr (zS ks 0),mP [41,32],yZ L 1]):=by simp only[yw,Di,rQ,t0,l1,true_and,and_true,lU,qX];omega
  exact nD _ ((yw _).2 ⟨hd,by simp[rQ],l2,trivial⟩) hd
 ·simp only[yw,Di,rQ,t0,l1,true_and,and_true,lU,qX];omega
 ·simp only[yw,Di,rQ,t1,l0,true_and,and_true,lU,qX];omega
 ·have he:VG (bif(zS ks 0).kind==16 then mP [] else(C9 (zS ks 0)) ⟨1,false,true,false,false⟩):=nD _ (by simp[rQ]) (RJ n0 _);simp only[yw,Di,rQ,he,s1,s2,l3,true_and,and_true,lU,qX];omega
 ·simp only[yw,Di,rQ,l0,true_and,and_true,pF,lU,qX];omega
 ·rw[rQ];omega
def alp:∀{ks:List Tn},(∀u,u∈ks->VG (iU u))->Di (oL ks)
 |[],_=>by rw[oL];trivial
 |t::ts,h=>by rw[oL];exact⟨h t ZK,alp λu hu=>h u (Yw _ hu)⟩
def aad(t:Tn):Uu t->VG (iU t):=by refine Tn.ind (P:=λt=>Uu t->VG (iU t)) ?_ t;intro k op x y ks ih hs;rw[Uu] at hs;rw[iU];exact azy k op hs.1.1 hs.1.2 hs.2 (alp λu hu=>ih u hu (yt hs.2 hu))
def a0y{ks:List Tn}(ih:∀u,u∈ks->DS u){o:Bool}{f:Nat}{l:List Nd}{b:Nat}{op:Int}{x y:aB}{p:Ps}(hc:Cnt 12 op y ks.length)(hp:nJ p=true)(hl:l.length<=1048576)(hat:At l b ks)(hf:5 * sizes ks+2<=f)(hu:sizes ks<=1048575)(gp:Bool):
  M.MH f (aT o l) false 12 op x y (encI (ends ks b)) p.level p.ny p.tN p.tV p.lV=some (dE (Zl 12 op ks.length x gp (tX 12 op ks.length p ks 0))):=by
 obtain⟨g,rfl⟩:∃g,f=g+1:=⟨f - 1,ak⟩
 rw[M.ajF];obtain⟨u,v,rfl⟩:=OA (hc.two ak);have hsz:=sz2 u v;have hI:=agz (hc.bin rfl).1;have hsl:=OQ op;obtain⟨⟨a1,a2,a3⟩,a4⟩:=adh ih (o:=o) (f:=g) (b:=b) (k:=12) (op:=op) (x:=x) (y:=y) (p:=p) (j:=0) (u:=u) ak hc hp hl hat ak hu rfl (ZE 12 ak 0);obtain⟨⟨b1,b2,b3⟩,b4⟩:=adh ih (o:=o) (f:=g) (b:=b) (k:=12) (op:=op) (x:=x) (y:=y) (p:=p) (j:=1) (u:=v) ak hc hp hl hat ak hu rfl (ZE 12 ak 1);rw[pz] at a1 a2;rw[Yf] at b1 b2;rw[am0];generalize (dN 12 op [u,v].length 0 p).DL=q0 at a2 a3;generalize QT 12 op [u,v].length p 0 u=K0 at a3 a4⊢;generalize (dN 12 op [u,v].length 1 p).DL=q1 at b2 b3;generalize QT 12 op [u,v].length p 1 v=K1 at b3 b4⊢
 by_cases h99:op=99
 ·subst h99;have hs:sizes [K0,mP [32],K1]<=90000000:=by simp only[sizes,gY];omega
  simp only[M.vP,a1,a2,a3,b1,b2,b3,Lu,ah,Int.reduceBEq,aI,aS,kC,fz3,uP _ hs,nS];rfl
 ·have e1:(op==99)=false:=by simpa using h99
  have hs:sizes [K0,mP ([32]++spell op),VY,K1]<=90000000:=by simp only[sizes,gY,ZA];omega
  have z1:sizes [o7 [K0,mP ([32]++spell op),VY,K1]]<=90000000:=by simp only[sizes,gY,ZA,pX];omega
  have z2:sizes [Ym (o7 [K0,mP ([32]++spell op),VY,K1])]<=90000000:=by simp only[sizes,gY,ZA,pX,Xq];omega
  by_cases h45:op=45
  ·subst h45;simp(disch:=omega) only[M.vP,a1,a2,a3,b1,b2,b3,Lu,ah,Int.reduceBEq,aI,aS,(nP 45 hI).1,kC,arY,fz4,fz1,uP _ hs,am3 _ z1,azi _ z2,nS,Dh];rfl
  ·have e2:(op==45)=false:=by simpa using h45
   by_cases h44:op=44
   ·subst h44;simp(disch:=omega) only[M.vP,a1,a2,a3,b1,b2,b3,Lu,ah,Int.reduceBEq,aI,aS,(nP 44 hI).1,kC,arY,fz4,fz1,uP _ hs,am3 _ z1,azi _ z2,nS,Dh];rfl
   ·have e3:(op==44)=false:=by simpa using h44
    have hs3:sizes [K0,mP ([32]++spell op++[32]),K1]<=90000000:=by simp only[sizes,gY];omega
    simp(disch:=omega) only[M.vP,a1,a2,a3,b1,b2,b3,Lu,ah,e1,e2,e3,aI,aS,(nP op hI).1,pF,lU,qX,kC,fz3,uP _ hs3,nS,Dh];simp[Zl,e1,e2,e3,yZ]
set_option maxHeartbeats 4000000 in
def ajc(t:Tn):Gw t->Yv t->Uu t->t.size<=1048576->DS t:=by
 refine Tn.ind (P:=λt=>Gw t->Yv t->Uu t->t.size<=1048576->DS t) ?_ t;intro k op x y ks ih hok he hsm hsz;intro o f p l b hl h hf hp;have bbZ:=h;simp only[Yv,Tn.kind] at he;have hc:=RH hok;rw[Uu] at hsm;obtain⟨⟨hx,hy⟩,hss⟩:=hsm;rw[Tn.size] at hsz hf;have hkE:∀u,u∈ks->Gw u∧Yv u∧Uu u:=by intro u hu;obtain⟨i,hi⟩:=List.mem_iff_getElem?.1 hu;obtain⟨h1,h2⟩:=acX hok he hi;exact⟨h2,h1,yt hss hu⟩
 have ih':∀u,u∈ks->DS u:=by intro u hu;obtain⟨h1,h2,h3⟩:=hkE u hu;have:=iw hu;exact ih u hu h1 h2 h3 ak
 have hat:At l b ks:=λj u hj=>Lies.QM h hj
 obtain⟨g,rfl⟩:∃g,f=g+1:=⟨f - 1,ak⟩
 have hr:idx (aT o l) ((b+sizes ks:Nat):Int)=some (TK o ⟨k,op,x,y,ends ks b⟩):=by have hr0:l[b+sizes ks]? =some ⟨k,op,x,y,ends ks b⟩:=Lies.root' h;rw[aW,kZ,hr0];rfl
 have hkl:=iZ ks;have tgt:∀{u:Tn},ks[0]? =some u->cls k op ks.length 0=6->Gw u∧Yv u∧13<=lvl u.kind u.op:=by intro u hu hcls;obtain⟨h1,h2⟩:=acX hok he hu;obtain⟨h3,_⟩:=Oz hok hu;rw[hcls] at h3;exact⟨h2,h1,(amK h3).1⟩
 rw[M.ahG,Tn.kids];have hk:k=1∨k=2∨k=3∨k=4∨k=5∨k=7∨k=8∨k=6∨k=9∨k=10∨k=11∨k=13∨k=15∨k=12∨k=14:=ak;rw[qQ];rcases hk with rfl|rfl|rfl|rfl|rfl|rfl|rfl|rfl|rfl|rfl|rfl|rfl|rfl|rfl|rfl
 ·simp only[iY,M.gX,hr,ah,Ji,Me,LV,MB,GI,M.bY,M.bJ,Int.reduceBEq,Int.reduceBNe,aI,aS,kC];rfl
 ·simp only[iY,M.gX,hr,ah,Ji,Me,LV,MB,GI,M.bY,M.bJ,Int.reduceBEq,Int.reduceBNe,aI,aS,kC];rfl
 ·simp only[iY,M.gX,hr,ah,Ji,Me,LV,MB,GI,M.bY,M.bJ,Int.reduceBEq,Int.reduceBNe,aI,aS,kC];rfl
 ·simp only[iY,M.gX,hr,ah,Ji,Me,LV,MB,GI,M.bY,M.bJ,Int.reduceBEq,Int.reduceBNe,aI,aS,kC];rfl
 ·have a1:=am4 ih' (o:=o) (f:=g) (b:=b) hl hat ak ak 5 op x y hx 91 93;rw[Ua hp (.inl rfl) (λj=>by simp[qP])];simp only[iY,M.gX,hr,ah,Ji,Me,LV,MB,GI,M.bY,M.bJ,Int.reduceBEq,Int.reduceBNe,aI,aS,a1];rfl
 ·have a1:=am4 ih' (o:=o) (f:=g) (b:=b) hl hat ak ak 7 op x y hx 40 41;rw[Ua hp (.inl rfl) (λj=>by simp[qP])];simp only[iY,M.gX,hr,ah,Ji,Me,LV,MB,GI,M.bY,M.bJ,Int.reduceBEq,Int.reduceBNe,aI,aS,a1];rfl
 ·have a1:=am4 ih' (o:=o) (f:=g) (b:=b) hl hat ak ak 8 op x y hx 40 41;rw[Ua hp (.inl rfl) (λj=>by simp[qP])];simp only[iY,M.gX,hr,ah,Ji,Me,LV,MB,GI,M.bY,M.bJ,Int.reduceBEq,Int.reduceBNe,aI,aS,a1];rfl
 ·obtain⟨u,rfl⟩:=zlo.1 (hc.one ak);have hs1:=sz1 u;obtain⟨⟨a1,a2,a3⟩,a4⟩:=adh ih' (o:=o) (f:=g) (b:=b) (k:=6) (op:=op) (x:=x) (y:=y) (p:=p) (j:=0) (u:=u) ak hc hp hl hat ak ak rfl (ZE 6 ak 0);rw[pz] at a1 a2;rw[Wx];generalize (dN 6 op [u].length 0 p).DL=q0 at a2 a3;generalize QT 6 op [u].length p 0 u=K0 at a3 a4⊢;have hs:sizes [mP [36],K0]<=90000000:=by simp only[sizes,gY];omega
  simp only[iY,M.gX,hr,ah,Ji,Me,LV,MB,GI,M.bY,M.bJ,Int.reduceBEq,Int.reduceBNe,aI,aS,a1,a2,a3,Lu,kC,fz2,uP _ hs,nS];rfl
 ·obtain⟨u,rfl⟩:=zlo.1 (hc.one ak);have hs1:=sz1 u;have hI:I64 op:=by rcases hc.stp ak with rfl|rfl<;>constructor<;>decide
  have a1:=lY (ks:=[u]) (b:=b) (j:=0) (u:=u) rfl;obtain⟨t1,t2,t3⟩:=tgt (u:=u) rfl (by simp[cls]);have a3:=aiT (ih' u (by simp)) t1 t2 t3 (o:=o) (f:=g) (p:=dN 9 op [u].length 0 p) hl (hat 0 u rfl) ak (wU hp (by simp) (by simp[lvl]));have a4:=OC u (dN 9 op [u].length 0 p);rw[pz] at a1;rw[Wx,QT,show qP 9 0=true from rfl,Bool.true_or,aI];generalize qQ u (dN 9 op [u].length 0 p)=K0 at a3 a4⊢;have hs:sizes [mP (spell op),K0]<=90000000:=by simp only[sizes,gY];omega
  simp only[iY,M.gX,hr,ah,Ji,Me,LV,MB,GI,M.bY,M.bJ,Int.reduceBEq,Int.reduceBNe,aI,aS,a1,a3,(nP op hI).1,Lu,kC,fz2,uP _ hs,nS];rfl
 ·obtain⟨u,rfl⟩:=zlo.1 (hc.one ak);have hs1:=sz1 u;have hI:I64 op:=by rcases hc.stp ak with rfl|rfl<;>constructor<;>decide
  have a1:=lY (ks:=[u]) (b:=b) (j:=0) (u:=u) rfl;obtain⟨t1,t2,t3⟩:=tgt (u:=u) rfl (by simp[cls]);have a3:=aiT (ih' u (by simp)) t1 t2 t3 (o:=o) (f:=g) (p:=dN 10 op [u].length 0 p) hl (hat 0 u rfl) ak (wU hp (by simp) (by simp[lvl]));have a4:=OC u (dN 10 op [u].length 0 p);rw[pz] at a1;rw[Wx,QT,show qP 10 0=true from rfl,Bool.true_or,aI];generalize qQ u (dN 10 op [u].length 0 p)=K0 at a3 a4⊢;have hs:sizes [K0,mP (spell op)]<=90000000:=by simp only[sizes,gY];omega
  simp only[iY,M.gX,hr,ah,Ji,Me,LV,MB,GI,M.bY,M.bJ,Int.reduceBEq,Int.reduceBNe,aI,aS,a1,a3,(nP op hI).1,Lu,kC,fz2,uP _ hs,nS];rfl
 ·obtain⟨u,rfl⟩:=zlo.1 (hc.one ak);have hs1:=sz1 u;obtain⟨u1,u2,u3⟩:=hkE u (by simp);have hI:I64 op:=by rcases hc.una ak with rfl|rfl|rfl<;>constructor<;>decide
  have ihS:∀v,v∈[u]->PS v:=by intro v hv;rw[List.mem_singleton.1 hv];exact auX u u1 u2 ak
  obtain⟨⟨a1,a2,a3⟩,a4⟩:=adh ih' (o:=o) (f:=g) (b:=b) (k:=11) (op:=op) (x:=x) (y:=y) (p:=p) (j:=0) (u:=u) ak hc hp hl hat ak ak rfl (ZE 11 ak 0);obtain⟨⟨c1,c2,c3⟩,c4⟩:=aaO ihS (o:=o) (f:=5 * sizes [u]+1) (b:=b) (k:=11) (op:=op) (x:=x) (y:=y) (p:=p) (j:=0) (u:=u) ak hc hp hl hat ak ak rfl (ZE 11 ak 0);have c3':=M.ajC c3;rw[pz] at a1 a2;rw[Wx,Uo];have hne:=atq (k:=11) (op:=op) (n:=[u].length) (p:=p) (j:=0) u1 u2;have a0z:=aza (k:=11) (op:=op) (n:=[u].length) (p:=p) (j:=0) u3;clear c3 c2;generalize (dN 11 op [u].length 0 p).DL=q0 at a2 a3 c3';generalize QT 11 op [u].length p 0 u=K0 at a3 a4⊢;generalize vT 11 op [u].length p 0 u=K at hne a0z c3'⊢;cases K with
  |nil=>exact absurd rfl hne
  |cons t0 K=>
   have hsl:=OQ op;have hg:M.ql op (spell op) 0 t0.kind t0.text t0.at_=some (wJ (tok op) t0):=Xn (tok op) t0 (by show(spell op).length<=_;omega) (by have:=a0z t0 ZK;omega);have i0:idx (bZ (t0::K)) 0=some (YU t0):=rfl;have i1:(bZ (t0::K))[0]? =some (YU t0):=rfl;have hs:sizes [mP (spell op),K0]<=90000000:=by simp only[sizes,gY];omega
   have hs2:sizes [mP (spell op++[32]),K0]<=90000000:=by simp only[sizes,gY];omega
   have ha:Zl 11 op [u].length x (akW op [t0::K]) [K0]=o7 [mP (bif wJ (tok op) t0 then spell op++[32] else spell op),K0]:=rfl;rw[ha];simp(disch:=omega) only[iY,M.gX,hr,ah,Ji,Me,LV,MB,GI,M.bY,M.bJ,Int.reduceBEq,Int.reduceBNe,aI,aS,a1,a2,a3,c3',i0,i1,cT0,cT1,cT2,hg,(nP op hI).1,(mX op hI).2,Lu,kC,fz2,uP _ hs,uP _ hs2,nS,Dh];cases wJ (tok op) t0<;>rfl
 ·obtain⟨u,hu⟩:∃u,ks[0]? =some u:=by have:=hc.some_ ak;exact⟨ks[0],by simp⟩
  obtain⟨⟨a1,a2,a3⟩,a4⟩:=adh ih' (o:=o) (f:=g) (b:=b) (k:=13) (op:=op) (x:=x) (y:=y) (p:=p) (j:=0) (u:=u) ak hc hp hl hat ak ak hu (ZE 13 ak 0);have hus:=iw (zZ hu);rw[pz] at a1 a2;have hel:(encI (ends ks b)).length=ks.length:=by rw[aU,dQ]
  cases hm:Nat.blt 1 ks.length with
  |true=>
   have b1:=ar0 ih' (o:=o) (f:=g) (p:=.top) rfl (b:=b) hl hat ak ak;have b2:=OD .top ks;simp only[Ps.top] at b1 b2;have e1:((ks.length:Int)==1)=false:=by rw[Nat.blt_eq] at hm;rw[JX];omega
   have hs:sizes [mP [40],Rf ⟨1,false,false,false,false⟩ ks,mP ([41,32,105,110,32]++x)]<=90000000:=by simp only[sizes,gY];omega
   rw[Ua hp (.inr ⟨rfl,hm,by simp[lvl]⟩) (λj=>by simp[qP])];simp(disch:=omega) only[iY,M.gX,hr,ah,Ji,Me,LV,MB,GI,M.bY,M.bJ,Int.reduceBEq,Int.reduceBNe,aI,aS,hel,e1,kC,DF.2,b1,fz3,uP _ hs,nS,Dh];simp[Zl,hm,aqx,Ps.top]
  |false=>
   have h1:ks.length=1:=by
    have h2:=hc.some_ ak;have h3:¬1<ks.length:=by rw[<-Nat.blt_eq,hm];simp
    omega
   obtain⟨u',rfl⟩:=zlo.1 h1;obtain rfl:u'=u:=by simpa using hu
   rw[Wx];have e1:(([u'].length:Int)==1)=true:=rfl;generalize (dN 13 op [u'].length 0 p).DL=q0 at a2 a3;generalize QT 13 op [u'].length p 0 u'=K0 at a3 a4⊢;have hs:sizes [K0,mP ([32,105,110,32]++x)]<=90000000:=by simp only[sizes,gY];omega
   simp(disch:=omega) only[iY,M.gX,hr,ah,Ji,Me,LV,MB,GI,M.bY,M.bJ,Int.reduceBEq,Int.reduceBNe,aI,aS,hel,e1,a1,a2,a3,Lu,kC,fz2,uP _ hs,nS,Dh];rfl
 ·obtain⟨u,v,rfl⟩:=OA (hc.two ak);have hsv:=sz2 u v;have hI:I64 op:=by rcases hc.asg rfl with rfl|h<;>constructor<;>omega
  have hsl:=OQ op;have a1:=lY (ks:=[u,v]) (b:=b) (j:=0) (u:=u) rfl;obtain⟨t1,t2,t3⟩:=tgt (u:=u) rfl (by simp[cls]);have a3:=aiT (ih' u (by simp)) t1 t2 t3 (o:=o) (f:=g) (p:=dN 15 op [u,v].length 0 p) hl (hat 0 u rfl) ak (wU hp (by simp) (by simp[lvl]));have a4:=OC u (dN 15 op [u,v].length 0 p);obtain⟨⟨b1,b2,b3⟩,b4⟩:=adh ih' (o:=o) (f:=g) (b:=b) (k:=15) (op:=op) (x:=x) (y:=y) (p:=p) (j:=1) (u:=v) ak hc hp hl hat ak ak rfl rfl;rw[pz] at a1;rw[Yf] at b1 b2;rw[am0]
  conv=>rhs;rw[QT,show qP 15 0=true from rfl,Bool.true_or,aI]
  generalize qQ u (dN 15 op [u,v].length 0 p)=K0 at a3 a4⊢;generalize (dN 15 op [u,v].length 1 p).DL=q1 at b2 b3;generalize QT 15 op [u,v].length p 1 v=K1 at b3 b4⊢;have hs3:sizes [K0,mP ([32]++spell op++[32]),K1]<=90000000:=by simp only[sizes,gY];omega
  simp(disch:=omega) only[iY,M.gX,hr,ah,Ji,Me,LV,MB,GI,M.bY,M.bJ,Int.reduceBEq,Int.reduceBNe,aI,aS,a1,a3,b1,b2,b3,(nP op hI).1,Lu,pF,lU,qX,kC,fz3,uP _ hs3,nS,Dh];simp[Zl,yZ]
 ·have a1:=a0y ih' (o:=o) (f:=g) (b:=b) (op:=op) (x:=x) (y:=y) (p:=p) hc hp hl hat ak ak (akW op (jI 12 op ks.length p ks 0));simp only[iY,M.gX,hr,ah,Ji,Me,LV,MB,GI,M.bY,M.bJ,Int.reduceBEq,Int.reduceBNe,aI,aS,a1]
 ·obtain⟨u,v,z,rfl⟩:=Xp (hc.three rfl);have hsz3:=sz3 u v z;obtain⟨⟨a1,a2,a3⟩,a4⟩:=adh ih' (o:=o) (f:=g) (b:=b) (k:=14) (op:=op) (x:=x) (y:=y) (p:=p) (j:=0) (u:=u) ak hc hp hl hat ak ak rfl (ZE 14 ak 0);obtain⟨⟨b1,b2,b3⟩,b4⟩:=adh ih' (o:=o) (f:=g) (b:=b) (k:=14) (op:=op) (x:=x) (y:=y) (p:=p) (j:=1) (u:=v) ak hc hp hl hat ak ak rfl (ZE 14 ak 1);obtain⟨⟨c1,c2,c3⟩,c4⟩:=adh ih' (o:=o) (f:=g) (b:=b) (k:=14) (op:=op) (x:=x) (y:=y) (p:=p) (j:=2) (u:=z) ak hc hp hl hat ak ak rfl (ZE 14 ak 2);rw[pz] at a1 a2;rw[Yf] at b1 b2;rw[auR] at c1 c2;rw[aze];generalize (dN 14 op [u,v,z].length 0 p).DL=q0 at a2 a3;generalize QT 14 op [u,v,z].length p 0 u=K0 at a3 a4⊢;generalize (dN 14 op [u,v,z].length 1 p).DL=q1 at b2 b3;generalize QT 14 op [u,v,z].length p 1 v=K1 at b3 b4⊢;generalize (dN 14 op [u,v,z].length 2 p).DL=q2 at c2 c3;generalize QT 14 op [u,v,z].length p 2 z=K2 at c3 c4⊢;have hs:sizes [K0,mP [32,63,32],K1,mP [32,58,32],K2]<=90000000:=by simp only[sizes,gY];omega
  simp only[iY,M.gX,hr,ah,Ji,Me,LV,MB,GI,M.bY,M.bJ,Int.reduceBEq,Int.reduceBNe,aI,aS,a1,a2,a3,b1,b2,b3,c1,c2,c3,Lu,kC,fz5,uP _ hs,nS];rfl
def ar4:M.Eb=some (Gu TU):=rfl
def a0A(a b c d e f g h:Tn):M.bG [Df false a,Df false b,Df false c,Df false d,Df false e,Df false f,Df false g,Df false h]=some (Gu (o7 [a,b,c,d,e,f,g,h])):=rfl
def afk:∀(L:List Tn) (x:Tn),Gt (L++[x])=Gt L++[TU,x]
 |[],x=>rfl
 |y::L,x=>by rw[VE,Gt,Gt,afk L x];rfl
def ajd:∀(L:List Tn),(Gt L).length=2 * L.length
 |[]=>rfl
 |y::L=>by have:=ajd L;rw[Gt,lU,lU,this,lU];omega
def aje:∀(L:List Tn) (x:Tn),oL (L++[x])=oL L++[iU x]
 |[],x=>rfl
 |y::L,x=>by rw[VE,oL,oL,aje L x];rfl
def ST(u:Tn):Prop:=∀(w:Bool) (f:Nat),4 * u.size<=f->M.wH f u.kind u.op u.text u.other (cZ w u.kids)=some (Gu (iU u))
def BT(u:Tn):Prop:=∀(w:Bool) (f:Nat),4 * u.size<=f+2->M.qN f u.kind u.op u.text u.other (cZ w u.kids)=some (Gu (iU u))
def aCt{k op:Int}{x y:aB}{ks:List Tn}(ih:∀u,u∈ks->ST u){w:Bool}{f:Nat}(hf:4 * sizes ks+1<=f)(hu:sizes ks<=1048575):
  M.qN f k op x y (cZ w ks)=some (Gu (amH (oL ks))):=by
 obtain⟨g,rfl⟩:∃g,f=g+1:=⟨f - 1,ak⟩
 have hkl:=iZ ks;have hloop:=fJ (b:=M.Gi (M.wH g) (cZ w ks) (ks.length:Int) 0 0 [] 0) (t:=((ks.length:Int),nY false (Gt (oL ks)))) (λj=>((j:Int),nY false (Gt (oL (ks.take j))))) ks.length
  (by
   intro j hj;obtain⟨u,hu'⟩:∃u,ks[j]? =some u:=⟨ks[j],by simp[hj]⟩
   have hus:=iw (zZ hu');obtain⟨c0,c1,c2,c3,c4⟩:=jO w u;have h1:=ih u (zZ hu') w g ak;have hl:=ajd (oL (ks.take j));rw[QU,Ud] at hl;have hw:i64.wrap ((j:Int)+1)=((j+1:Nat):Int):=by rw[aC ak ak];omega
   simp only[iY,M.Gi,M.zL,Aw w hu',c0,c1,c2,c3,c4,ah,ar4,h1,LD,LG,LH,LJ,LK,LM,fE,yu,lU,qX,hw];rw[zdt ak,aI,aJ ak,aI,aJ ak,aI,dP hu',aje,afk,Gv];rfl)
  (by simp only[iY,M.Gi,M.zL];rw[nZ ak,aS,List.take_length]) 0 (Nat.zero_le _)
 have xA:M.KY (M.wH g) (cZ w ks) (ks.length:Int) 0 0 [] 0 (0,[])=some ((ks.length:Int),nY false (Gt (oL ks))):=hloop;rw[M.afS];simp only[iY,M.Ar,fB,xA,ah,kN,aqw,ar4,LD,LG,LH,LJ,LK,LM,aiK,fE,auW,bT];rfl
set_option maxHeartbeats 2000000 in
def azz(t:Tn):Gw t->isS t->Uu t->t.size<=1048576->ST t∧(t.kind=33->BT t):=by
 refine Tn.ind (P:=λt=>Gw t->isS t->Uu t->t.size<=1048576->ST t∧(t.kind=33->BT t)) ?_ t;intro k op x y ks ih hok hs hsm hsz;have hc:=RH hok;simp only[isS,Tn.kind] at hs;rw[Uu] at hsm;obtain⟨⟨hx,hy⟩,hss⟩:=hsm;rw[Tn.size] at hsz;have kE:∀{j:Nat} {u:Tn},ks[j]? =some u->cls k op ks.length j=0->Ex' u:=by intro j u hj hcl;obtain⟨h1,h2⟩:=Oz hok hj;rw[hcl] at h1;have:=iw (zZ hj);exact⟨h2,h1,yt hss (zZ hj),ak⟩
 have kE3:∀{j:Nat} {u:Tn},ks[j]? =some u->cls k op ks.length j=3->u.kind=16∨Ex' u:=by
  intro j u hj hcl;obtain⟨h1,h2⟩:=Oz hok hj;rw[hcl] at h1;have:=iw (zZ hj);rcases h1 with h1|h1
  ·exact .inl h1
  ·exact .inr ⟨h2,h1,yt hss (zZ hj),ak⟩
 have kB:∀{j:Nat} {u:Tn},ks[j]? =some u->cls k op ks.length j=1->BT u:=by intro j u hj hcl;obtain⟨h1,h2⟩:=Oz hok hj;rw[hcl] at h1;have h1':u.kind=33:=h1;have:=iw (zZ hj);exact(ih u (zZ hj) h2 (by constructor<;>omega) (yt hss (zZ hj)) ak).2 h1'
 have kS:k=33->∀u,u∈ks->ST u:=by intro e u hu;subst e;obtain⟨j,hj⟩:=List.mem_iff_getElem?.1 hu;obtain⟨h1,h2⟩:=atu hok hj (.inr (by simp[cls]));have:=iw hu;exact(ih u hu h2 h1 (yt hss hu) ak).1
 have hB:k=33->BT (.mk k op x y ks):=by
  intro e w f hf;have h1:=aCt (k:=k) (op:=op) (x:=x) (y:=y) (kS e) (w:=w) (f:=f) (by rw[Tn.size] at hf;omega) ak;have h2:iU (.mk k op x y ks)=amH (oL ks):=by rw[iU,e];rfl
  rw[h2];exact h1
 refine⟨λw f hf=> ?_,hB⟩;rw[Tn.size] at hf;obtain⟨g,rfl⟩:∃g,f=g+1:=⟨f - 1,ak⟩
 have aE:∀(h:∀j,cls k op ks.length j=0),∀u,u∈ks->Ex' u:=by intro h u hu;obtain⟨j,hj⟩:=List.mem_iff_getElem?.1 hu;exact kE hj (h j)
 simp only[Tn.kind,Tn.op,Tn.text,Tn.other,Tn.kids];rw[M.ahX];have hk:k=20∨k=21∨k=22∨k=25∨k=26∨k=23∨k=24∨k=27∨k=28∨k=29∨k=30∨k=31∨k=32∨k=33∨k=34:=ak;rcases hk with rfl|rfl|rfl|rfl|rfl|rfl|rfl|rfl|rfl|rfl|rfl|rfl|rfl|rfl|rfl
 ·obtain⟨u,rfl⟩:=zlo.1 (hc.one ak);obtain⟨c0,c1,c2,c3,c4⟩:=jO w u;have i0:idx (cZ w [u]) 0=some (u.row w):=rfl;have h0:=aiO (kE (j:=0) (u:=u) rfl (by simp[cls])) w;simp only[iY,M.fH,Int.reduceBEq,aI,aS,i0,c0,c1,c2,c3,c4,ah,h0,LD,LG,LH,LJ,LK,LM,bT];rw[iU];rfl
 ·have h0:=aCk (aE (λj=>by simp[cls])) ak op x y (hc.prn rfl).1 (hc.prn rfl).2 hy w;simp only[iY,M.fH,Int.reduceBEq,aI,aS,ah,h0,LD,LG,LH,LJ,LK,LM,bT];rw[iU];rfl
 ·simp only[iY,M.fH,Int.reduceBEq,aI,aS,ah,kN,LD,LG,LH,LJ,LK,LM,bT];rw[iU];rfl
 ·simp only[iY,M.fH,Int.reduceBEq,aI,aS,ah,kN,LD,LG,LH,LJ,LK,LM,bT];rw[iU];rfl
 ·simp only[iY,M.fH,Int.reduceBEq,aI,aS,ah,kN,LD,LG,LH,LJ,LK,LM,bT];rw[iU];rfl
 ·have h0:=azg (aE (λj=>by simp[cls])) [101,120,105,116] 23 op x y w;simp only[iY,M.fH,Int.reduceBEq,aI,aS,ah,h0,LD,LG,LH,LJ,LK,LM,bT];rw[iU];rfl
 ·have h0:=azg (aE (λj=>by simp[cls])) [114,101,116,117,114,110] 24 op x y w;simp only[iY,M.fH,Int.reduceBEq,aI,aS,ah,h0,LD,LG,LH,LJ,LK,LM,bT];rw[iU];rfl
 ·have h0:=aIh (aE (λj=>by simp[cls])) ak w;rw[iU];cases ks with
  |nil=>rw[show cZ w []=[] from rfl];simp(disch:=omega) only[iY,M.fH,Int.reduceBEq,aI,aS,qX,ah,kN,LD,LG,LH,LJ,LK,LM,bT,Dh,show((((0:Nat):Int))==0)=true from rfl];rfl
  |cons u l=>
   have e0:(((cZ w (u::l)).length:Int)==0)=false:=by rw[JX,fB,lU];omega
   simp(disch:=omega) only[iY,M.fH,Int.reduceBEq,aI,aS,e0,pF,lU,qX,ah,h0,kN,LD,LG,LH,LJ,LK,LM,fE,ajQ,bT,Dh];rfl
 ·rw[iU];obtain⟨g',rfl⟩:∃g',g=g'+1:=⟨g - 1,ak⟩
  rcases hc.cnd rfl with h2|h3
  ·obtain⟨u,v,rfl⟩:=OA h2;have hs2:=sz2 u v;have i0:idx (cZ w [u,v]) 0=some (u.row w):=rfl;have i1:idx (cZ w [u,v]) 1=some (v.row w):=rfl;obtain⟨c0,c1,c2,c3,c4⟩:=jO w u;obtain⟨d0,d1,d2,d3,d4⟩:=jO w v;have h0:=aiO (kE (j:=0) (u:=u) rfl (by simp[cls])) w;have h1:=kB (j:=1) (u:=v) rfl (by simp[cls]) w g' ak;have hl:decide (((cZ w [u,v]).length:Int)>2)=false:=rfl;simp only[iY,M.fH,Int.reduceBEq,aI,aS,M.Xe,M.uZ,i0,i1,c0,c1,c2,c3,c4,d0,d1,d2,d3,d4,hl,ah,h0,h1,kN,LD,LG,LH,LJ,LK,LM,fE,auW,bT];rfl
  ·obtain⟨u,v,z,rfl⟩:=Xp h3;have hs3:=sz3 u v z;have i0:idx (cZ w [u,v,z]) 0=some (u.row w):=rfl;have i1:idx (cZ w [u,v,z]) 1=some (v.row w):=rfl;have i2:idx (cZ w [u,v,z]) 2=some (z.row w):=rfl;obtain⟨c0,c1,c2,c3,c4⟩:=jO w u;obtain⟨d0,d1,d2,d3,d4⟩:=jO w v;obtain⟨e0,e1,e2,e3,e4⟩:=jO w z;have h0:=aiO (kE (j:=0) (u:=u) rfl (by simp[cls])) w;have h1:=kB (j:=1) (u:=v) rfl (by simp[cls]) w g' ak;have h2:=kB (j:=2) (u:=z) rfl (by simp[cls]) w g' ak;have hl:decide (((cZ w [u,v,z]).length:Int)>2)=true:=rfl;simp only[iY,M.fH,Int.reduceBEq,aI,aS,M.Xe,M.uZ,i0,i1,i2,c0,c1,c2,c3,c4,d0,d1,d2,d3,d4,e0,e1,e2,e3,e4,hl,ah,h0,h1,h2,kN,LD,LG,LH,LJ,LK,LM,fE,auW,ajQ,bT];rfl
 ·rw[iU];obtain⟨u,v,rfl⟩:=OA (hc.two ak);have hs2:=sz2 u v;have i0:idx (cZ w [u,v]) 0=some (u.row w):=rfl;have i1:idx (cZ w [u,v]) 1=some (v.row w):=rfl;obtain⟨c0,c1,c2,c3,c4⟩:=jO w u;obtain⟨d0,d1,d2,d3,d4⟩:=jO w v;have h0:=aiO (kE (j:=0) (u:=u) rfl (by simp[cls])) w;have h1:=kB (j:=1) (u:=v) rfl (by simp[cls]) w g ak;simp only[iY,M.fH,Int.reduceBEq,aI,aS,i0,i1,c0,c1,c2,c3,c4,d0,d1,d2,d3,d4,ah,h0,h1,kN,LD,LG,LH,LJ,LK,LM,fE,auW,bT];rfl
 ·rw[iU];obtain⟨u,v,rfl⟩:=OA (hc.two ak);have hs2:=sz2 u v;have i0:idx (cZ w [u,v]) 0=some (u.row w):=rfl;have i1:idx (cZ w [u,v]) 1=some (v.row w):=rfl;obtain⟨c0,c1,c2,c3,c4⟩:=jO w u;obtain⟨d0,d1,d2,d3,d4⟩:=jO w v;have h0:=kB (j:=0) (u:=u) rfl (by simp[cls]) w g ak;have h1:=aiO (kE (j:=1) (u:=v) rfl (by simp[cls])) w;simp only[iY,M.fH,Int.reduceBEq,aI,aS,i0,i1,c0,c1,c2,c3,c4,d0,d1,d2,d3,d4,ah,h0,h1,kN,LD,LG,LH,LJ,LK,LM,fE,a0r,bT];rfl
 ·rw[iU];obtain⟨g',rfl⟩:∃g',g=g'+1:=⟨g - 1,ak⟩
  obtain⟨u,v,z,q,rfl⟩:=amX (hc.four rfl);have hs4:sizes [u,v,z,q]=u.size+(v.size+(z.size+q.size)):=by simp[sizes]
  have i0:idx (cZ w [u,v,z,q]) 0=some (u.row w):=rfl;have i1:idx (cZ w [u,v,z,q]) 1=some (v.row w):=rfl;have i2:idx (cZ w [u,v,z,q]) 2=some (z.row w):=rfl;have i3:idx (cZ w [u,v,z,q]) 3=some (q.row w):=rfl;obtain⟨c0,c1,c2,c3,c4⟩:=jO w u;obtain⟨d0,d1,d2,d3,d4⟩:=jO w v;obtain⟨e0,e1,e2,e3,e4⟩:=jO w z;obtain⟨f0,f1,f2,f3,f4⟩:=jO w q;have h1:=aiP (kE3 (j:=1) (u:=v) rfl (by simp[cls])) w;have h2:=aiP (kE3 (j:=2) (u:=z) rfl (by simp[cls])) w;have h3:=kB (j:=3) (u:=q) rfl (by simp[cls]) w g' ak;rcases kE3 (j:=0) (u:=u) rfl (by simp[cls]) with h0|h0
  ·have n0:(u.kind !=16)=false:=by simp[h0]
   have ha:afY 31 op x y [u,v,z,q] (oL [u,v,z,q])=o7 [mP [102,111,114,32,40],mP [],mP [59],Vz v,mP [59],Vz z,mP [41,32],iU q]:=by simp[afY,zS,yZ,oL,h0]
   rw[ha];simp only[iY,M.fH,Int.reduceBEq,aI,aS,M.Zd,M.zJ,i0,i1,i2,i3,c0,c1,c2,c3,c4,d0,d1,d2,d3,d4,e0,e1,e2,e3,e4,f0,f1,f2,f3,f4,n0,ah,h1,h2,h3,kN,LD,LG,LH,LJ,LK,LM,fE,a0A,bT]
  ·have n0:(u.kind !=16)=true:=by have:=h0.e;unfold Yv at this;simp only[bne_iff_ne];omega
   have n1:(u.kind==16)=false:=by simpa using n0
   have ha:afY 31 op x y [u,v,z,q] (oL [u,v,z,q])=o7 [mP [102,111,114,32,40],C9 u ⟨1,false,true,false,false⟩,mP [59],Vz v,mP [59],Vz z,mP [41,32],iU q]:=by simp[afY,zS,yZ,oL,n1]
   have he:=am1 h0 w (p:=⟨1,false,true,false,false⟩) rfl;rw[ha];simp only[iY,M.fH,Int.reduceBEq,aI,aS,M.Zd,M.zJ,i0,i1,i2,i3,c0,c1,c2,c3,c4,d0,d1,d2,d3,d4,e0,e1,e2,e3,e4,f0,f1,f2,f3,f4,n0,he,ah,h1,h2,h3,kN,LD,LG,LH,LJ,LK,LM,fE,a0A,bT]
 ·rw[iU];obtain⟨u,rfl⟩:=zlo.1 (hc.one ak);have hs1:=sz1 u;have i0:idx (cZ w [u]) 0=some (u.row w):=rfl;obtain⟨c0,c1,c2,c3,c4⟩:=jO w u;have h0:=kB (j:=0) (u:=u) rfl (by simp[cls]) w g ak;simp(disch:=omega) only[iY,M.fH,Int.reduceBEq,aI,aS,pF,lU,qX,i0,c0,c1,c2,c3,c4,ah,h0,kN,LD,LG,LH,LJ,LK,LM,fE,ajP,bT,Dh];rfl
 ·have h0:=hB rfl w g (by rw[Tn.size];omega);simp only[Tn.kind,Tn.op,Tn.text,Tn.other,Tn.kids] at h0;simp only[iY,M.fH,Int.reduceBEq,aI,aS,ah,h0,LD,LG,LH,LJ,LK,LM,bT]
 ·simp only[iY,M.fH,Int.reduceBEq,aI,aS,ah,kN,LD,LG,LH,LJ,LK,LM,bT];rw[iU];rfl
end Go.Proofs.YtbgadfelmhoheaaGreatDoor
