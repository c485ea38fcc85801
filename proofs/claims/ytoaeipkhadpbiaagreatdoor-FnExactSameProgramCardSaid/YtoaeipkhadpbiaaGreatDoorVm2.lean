import Derived.Test.YtoaeipkhadpbiaaGreatDoorVm1
import Derived.Great.BuildSlice
import Derived.Laws.StructEq
import Derived.Laws.Strings
import Derived.Laws.BytesString
set_option linter.defProp false
set_option linter.unusedVariables false
set_option linter.unusedSimpArgs false
namespace Go.Vm
open Go
structure Fr(M0:List Nat)(w0 w:World)(G:GS):Prop where
 keep:Keep M0 w0 w
 fr:∀b,excl G.F G.E b->b∈M0\/w0.heap.size<=b
structure Nx(base:Nat)(U:Nat->Prop)(M0:List Nat)(w0 w:World)(m:Mem)(G:GS)(w':World)(m':Mem)(G':GS):Prop where
 ok:KW base U w' m' G'
 E:G'.E=[]
 out:G'.out=[]
 mem:NI G.μ m G'.μ m'
 view:(Gh U w G).le (Gh U w' G')
 fr:Fr M0 w0 w' G'
structure At(base:Nat)(U:Nat->Prop)(M0:List Nat)(w0 w:World)(m:Mem)(G:GS):Prop where
 ok:KW base U w m G
 E:G.E=[]
 out:G.out=[]
 fr:Fr M0 w0 w G
def VE{P:Program}{o:Oper}{a:Act}{w w':World}{K:Act->World->Prop}{Q:Exit->Act->World->Prop}{g:Value}(h:(execOp a.eval o).run P w=.ok (.value g) w')(hn:K (a.put o.dst g) w'):o.wp P a w K Q:=by unfold Oper.wp;rw[h];exact hn
def wp_skip{P:Program}{o:Oper}{a:Act}{w w':World}{K:Act->World->Prop}{Q:Exit->Act->World->Prop}(h:(execOp a.eval o).run P w=.ok .skip w')(hn:K (a.put o.dst undef) w'):o.wp P a w K Q:=by unfold Oper.wp;rw[h];exact hn
section
variable {base:Nat} {U:Nat->Prop} {M0:List Nat} {w0 w w':World} {m m':Mem} {G G':GS} {P:Program}
def At.nx(h:At base U M0 w0 w m G):Nx base U M0 w0 w m G w m G:=⟨h.ok,h.E,h.out,BF _ _,View.le_refl _,h.fr⟩
def Nx.at_(h:Nx base U M0 w0 w m G w' m' G'):At base U M0 w0 w' m' G':=⟨h.ok,h.E,h.out,h.fr⟩
def Nx.trans{w2:World}{m2:Mem}{G2:GS}(h:Nx base U M0 w0 w m G w' m' G')(k:Nx base U M0 w0 w' m' G' w2 m2 G2):Nx base U M0 w0 w m G w2 m2 G2:=
 ⟨k.ok,k.E,k.out,Ad h.mem k.mem,h.view.trans' k.view,k.fr⟩
def Nx.bQ(h:Nx base U M0 w0 w m G w' m' G'){v:V}{g:Value}(q:bQ G.μ m (Gh U w G) v g):bQ G'.μ m' (Gh U w' G') v g:=RH h.mem h.view v g q
def Nx.dX(h:Nx base U M0 w0 w m G w' m' G'){v:List V}{g:List Value}(q:dX G.μ m (Gh U w G) v g):dX G'.μ m' (Gh U w' G') v g:=y8 h.mem h.view v g q
def Fr.less(h:Fr M0 w0 w G)(hx:∀b,excl G'.F G'.E b->excl G.F G.E b):Fr M0 w0 w G':=⟨h.keep,λb hb=>h.fr b (hx b hb)⟩
def At.still(h:At base U M0 w0 w m G)(hg:KW base U w m' G')(hl:GLe m G m' G')(ho:G'.out=[]):
  Nx base U M0 w0 w m G w m' {G' with E:=[]}:=by
 obtain⟨k1,k2⟩:=hg.less [] (by simp) (by simp);have:=hl.trans k2;exact⟨k1,rfl,ho,this.mem,this.view,h.fr.less this.ex⟩
def PY{μ:Nat->Value}{h:View}:∀{a b:List V} {g k:List Value},dX μ m h a g->dX μ m h b k->dX μ m h (a++b) (g++k)
 |[],b,g,k,ha,hb=>by simp only[dX] at ha;subst ha;simpa using hb
 |v::a,b,g,k,ha,hb=>by obtain⟨g0,g',rfl,h1,h2⟩:=xC ha;simp only[zca,dX];exact⟨g0,g'++k,rfl,h1,PY h2 hb⟩
def aea{μ:Nat->Value}{h:View}:∀{a:List V} {g:List Value} (n:Nat),dX μ m h a g->dX μ m h (a.drop n) (g.drop n)
 |a,g,0,ha=>by simpa using ha
 |[],g,n+1,ha=>by simp only[dX] at ha;subst ha;simp[dX]
 |v::a,g,n+1,ha=>by obtain⟨g0,g',rfl,h1,h2⟩:=xC ha;simpa using aea n h2
def aeb{μ:Nat->Value}{h:View}:∀{a:List V} {g:List Value} (n:Nat),dX μ m h a g->dX μ m h (a.take n) (g.take n)
 |a,g,0,ha=>by simp[dX]
 |[],g,n+1,ha=>by simp only[dX] at ha;subst ha;simp[dX]
 |v::a,g,n+1,ha=>by obtain⟨g0,g',rfl,h1,h2⟩:=xC ha;simp only[List.take_succ_cons,dX];exact⟨g0,g'.take n,rfl,h1,aeb n h2⟩
def aja{μ:Nat->Value}{h:View}{a:List V}{g:List Value}(o n:Nat)(q:dX μ m h a g):dX μ m h (part a o n) ((g.drop o).take n):=aeb n (aea o q)
def YC{μ:Nat->Value}{h:View}{a b:List V}{g k:List Value}(o:Nat)(q:dX μ m h a g)(q':dX μ m h b k):dX μ m h (splice a o b) (splice g o k):=by have hl:k.length=b.length:=nG q';unfold splice;rw[hl];exact PY (PY (aeb o q) q') (aea _ q)
def abT{μ:Nat->Value}{h:View}:∀{a:List V} {g:List Value} {i:Nat} {v:V},dX μ m h a g->a[i]? =some v->∃x,g[i]? =some x/\bQ μ m h v x
 |[],g,i,v,ha,hi=>by simp at hi
 |v0::a,g,i,v,ha,hi=>by
  obtain⟨g0,g',rfl,h1,h2⟩:=xC ha;cases i with
  |zero=>simp at hi;subst hi;exact⟨g0,rfl,h1⟩
  |succ i=>simpa using abT h2 (by simpa using hi)
def atl{t:TypeId}{vs:List V}{v:V}(h:U7 P t vs=some v){μ:Nat->Value}{hh:View}{cs:List Value}(hq:dX μ m hh vs cs):∃g,valOf P t cs g:=by
 unfold U7 at h;unfold valOf;cases ha:UA P t with
 |true=>exact⟨_,by simp;rfl⟩
 |false=>
  simp only[ha,aX] at h;split at h
  ·obtain⟨g',gs',e,q1,q2⟩:=xC hq;simp only[dX] at q2;subst q2;exact⟨g',by simpa using e⟩
  ·cases h
def Xm{h:View}{x:D}{g:Value}(q:ro h x g):g.oneCell'=true:=by
 cases x with
 |sl o s rows=>simp only[ro] at q;obtain⟨a,cap,rfl,_⟩:=q;rfl
 |_=>simp only[ro] at q;subst q;rfl
def aBi{row:Row}{j:Nat}{x:D}(h:nth row j=x)(hx:x≠.Zt):row[j]? =some x:=by
 unfold nth at h;cases hr:row[j]? with
 |none=>rw[hr] at h;exact absurd h.symm hx
 |some y=>rw[hr] at h;exact congrArg some h
def auG{s:Nat}{x:D}{rows:List Row}(h:aA5 s x=some rows):∃o,x=.sl o s rows/\(o=false\/rows=[]):=by
 cases x<;>simp[aA5] at h;rename_i o s' rows'
 by_cases e:s'=s
 ·subst e;simp at h;cases o with
  |false=>simp at h;subst h;exact⟨false,rfl,.inl rfl⟩
  |true=>
   cases rows' with
   |nil=>simp at h;subst h;exact⟨true,rfl,.inr rfl⟩
   |cons _ _=>simp at h
 ·rw[EM e] at h;simp at h
def af4{strict:Bool}{row:Row}{μ:Nat->Value}{h:View}(cell:Nat->Option Value)(Rel:D->Value->Prop)(hrow:∀k x,row[k]? =some x->∃g,cell k=some g/\Rel x g)
  (hint:∀k n g,Rel (.int k n) g->g=.int k n) (aDL:∀b g,Rel (.bool b) g->g=.bool b) (hstr:∀s g,Rel (.str s) g->g=.string ⟨⟨s⟩⟩)
  (hsl:∀o s rs g,Rel (.sl o s rs) g->(strict=true->o=false\/rs=[])->ro h (.sl false s rs) g):
  ∀(cts:List CT) (j:Nat) (c:List V->Acc V) (m0:Mem) (l:Log) (r:V×Mem×Log),(RG strict cts row j c).run m0 l=some r->
   ∃vs cs,(c vs).run m0 l=some r/\cs.length=cts.length/\dX μ m h vs cs/\∀i g,cs[i]? =some g->cell (j+i)=some g
 |[],j,c,m0,l,r,hr=>⟨[],[],hr,rfl,by simp[dX],by simp⟩
 |ct::cts,j,c,m0,l,r,hr=>by
  have go:∀(x:D) (y:V),nth row j=x->x≠.Zt->(∀g,Rel x g->bQ μ m h y g)->(RG strict cts row (j+1) λvs=>c (y::vs)).run m0 l=some r->
    ∃vs cs,(c vs).run m0 l=some r/\cs.length=(ct::cts).length/\dX μ m h vs cs/\∀i g,cs[i]? =some g->cell (j+i)=some g:=by
   intro x y hx hxn hs hr;obtain⟨g,hg,hrel⟩:=hrow j x (aBi hx hxn);obtain⟨vs,cs,h1,h2,h3,h4⟩:=af4 cell Rel hrow hint aDL hstr hsl cts (j+1) _ m0 l r hr;refine⟨y::vs,g::cs,h1,by simp[h2],by simp only[dX];exact⟨g,cs,rfl,hs g hrel,h3⟩, ?_⟩;intro i g' hi;cases i with
   |zero=>simp at hi;subst hi;exact hg
   |succ i=>have:=h4 i g' (by simpa using hi);rw[show j+(i+1)=j+1+i from by omega];exact this
  cases ct with
  |int k=>
   simp only[RG,Acc.run,kP] at hr;cases ha:asInt k (nth row j) with
   |none=>simp[ha,Acc.run] at hr
   |some n=>simp only[ha,Acc.run] at hr;exact go _ _ (ai3 ha) (by simp) (λg hg=>by rw[hint _ _ g hg];simp[bQ,ro]) hr
  |bool=>
   simp only[RG,Acc.run,alM] at hr;cases ha:asBool (nth row j) with
   |none=>simp[ha,Acc.run] at hr
   |some n=>simp only[ha,Acc.run] at hr;exact go _ _ (ahc ha) (by simp) (λg hg=>by rw[aDL _ g hg];simp[bQ,ro]) hr
  |str=>
   simp only[RG,Acc.run,cStr] at hr;cases ha:alL (nth row j) with
   |none=>simp[ha,Acc.run] at hr
   |some n=>simp only[ha,Acc.run] at hr;exact go _ _ (ai4 ha) (by simp) (λg hg=>by rw[hstr _ g hg];simp[bQ,ro]) hr
  |other=>simp[RG,Acc.run] at hr
  |sl s=>
   simp only[RG,Acc.run,cRo,cSl] at hr;cases strict with
   |true=>
    simp only[aJ] at hr;cases ha:aA5 s (nth row j) with
    |none=>simp[ha,Acc.run] at hr
    |some n=>simp only[ha,Acc.run] at hr;obtain⟨o,hx,ho⟩:=auG ha;exact go _ _ hx (by simp) (λg hg=>by simp only[bQ];exact hsl _ _ _ g hg (λ_=>ho)) hr
   |false=>
    simp only[aX] at hr;cases ha:awN s (nth row j) with
    |none=>simp[ha,Acc.run] at hr
    |some n=>simp only[ha,Acc.run] at hr;obtain⟨o,hx⟩:=alT ha;exact go _ _ hx (by simp) (λg hg=>by simp only[bQ];exact hsl _ _ _ g hg (λh=>by cases h)) hr
def af5{h:View}{b:Nat}:∀{r:Row} {o k:Nat} {x:D},DK h r b o->r[k]? =some x->∃g,h b (o+k)=some g/\ro h x g
 |[],_,_,_,_,hk=>by simp at hk
 |y::r,o,0,x,q,hk=>by simp only[DK] at q;simp at hk;subst hk;simpa using q.1
 |y::r,o,k+1,x,q,hk=>by
  simp only[DK] at q;have:=af5 q.2 (by simpa using hk)
  rwa [show o+(k+1)=o+1+k from by omega]
def ahh{h:View}:∀{r:Row} {cs:List Value} {k:Nat} {x:D},kV h r cs->r[k]? =some x->∃g,cs[k]? =some g/\ro h x g
 |[],_,_,_,_,hk=>by simp at hk
 |y::r,cs,0,x,⟨v,cs',e,h1,h2⟩,hk=>by simp at hk;subst hk;subst e;exact⟨v,rfl,h1⟩
 |y::r,cs,k+1,x,⟨v,cs',e,h1,h2⟩,hk=>by subst e;simpa using ahh h2 (by simpa using hk)
def alX{H:Heap}{h:View}:∀{r:Row} {cs:List Value} {N:List Nat} {k:Nat} {x:D},mQ H h r cs N->r[k]? =some x->∃g N1,cs[k]? =some g/\ow H h x g N1
 |[],_,_,_,_,_,hk=>by simp at hk
 |y::r,cs,N,0,x,q,hk=>by obtain⟨v,cs',N1,N2,rfl,rfl,h1,h2⟩:=O1 q;simp at hk;subst hk;exact⟨v,N1,rfl,h1⟩
 |y::r,cs,N,k+1,x,q,hk=>by obtain⟨v,cs',N1,N2,rfl,rfl,h1,h2⟩:=O1 q;simpa using alX h2 (by simpa using hk)
def O4{h:View}{s b:Nat}:∀{rs:List Row} {o k:Nat} {r:Row},uJ h s rs b o->rs[k]? =some r->r.length=s/\DK h r b (o+k * s)
 |[],_,_,_,_,hk=>by simp at hk
 |y::rs,o,0,x,q,hk=>by simp only[uJ] at q;simp at hk;subst hk;simpa using⟨q.1,q.2.1⟩
 |y::rs,o,k+1,x,q,hk=>by
  simp only[uJ] at q;have:=O4 q.2.2 (by simpa using hk)
  rwa [show o+(k+1) * s=o+s+k * s from by rw[Nat.add_mul];omega]
def ae6{h:View}{s:Nat}:∀{rs:List Row} {cs:List Value} {k:Nat} {r:Row},lQ h s rs cs->rs[k]? =some r->r.length=s/\kV h r (cs.drop (k * s))
 |[],_,_,_,_,hk=>by simp at hk
 |y::rs,cs,0,x,q,hk=>by simp at hk;subst hk;simpa using⟨q.1,q.2.1⟩
 |y::rs,cs,k+1,x,q,hk=>by
  have:=ae6 q.2.2 (by simpa using hk);rw[List.drop_drop] at this
  rwa [show(k+1) * s=s+k * s from by rw[Nat.add_mul];omega]
def ajb{H:Heap}{h:View}{s:Nat}:∀{rs:List Row} {cs:List Value} {N:List Nat} {k:Nat} {r:Row},jO H h s rs cs N->rs[k]? =some r->r.length=s/\∃N1,mQ H h r (cs.drop (k * s)) N1
 |[],_,_,_,_,_,hk=>by simp at hk
 |y::rs,cs,N,0,x,q,hk=>by simp only[jO] at q;obtain⟨h1,N1,N2,rfl,h2,h3⟩:=q;simp at hk;subst hk;exact⟨h1,N1,by simpa using h2⟩
 |y::rs,cs,N,k+1,x,q,hk=>by
  simp only[jO] at q;obtain⟨h1,N1,N2,rfl,h2,h3⟩:=q;have:=ajb h3 (by simpa using hk);rw[List.drop_drop] at this
  rwa [show(k+1) * s=s+k * s from by rw[Nat.add_mul];omega]
def atm{h:View}{fz fl:Bool}{ver s:Nat}{rows:List Row}{r i:Nat}{row:Row}{N:List Nat}(hq:xB G.μ m (fZ w) h r (.arr fz fl ver s rows) N)(hl:h.le (full w))(hi:rows[i]? =some row):
  ∃b o cap,G.μ r=.slice (some ⟨b,o,none⟩) rows.length cap/\(fz=false->o=0)/\row.length=s/\
   ∃Rel:D->Value->Prop,(∀k x,row[k]? =some x->∃g,full w b (o+i * s+k)=some g/\Rel x g)/\
   (∀k n g,Rel (.int k n) g->g=.int k n)/\(∀b g,Rel (.bool b) g->g=.bool b)/\(∀s g,Rel (.str s) g->g=.string ⟨⟨s⟩⟩)/\
   (∀o s rs g,Rel (.sl o s rs) g->(o=false\/rs=[])->ro h (.sl false s rs) g):=by
 have hne:rows≠[]:=by intro e;subst e;simp at hi
 cases fz with
 |true=>
  obtain⟨h1,_⟩:=hq;simp only[ro] at h1;obtain⟨a,cap,h2,h3,h4⟩:=h1;obtain⟨b,o,rfl,h5⟩:=h4 hne;obtain⟨h6,h7⟩:=O4 h5 hi;refine⟨b,o,cap,h2,by simp,h6,ro h,λk x hk=> ?_, ?_, ?_, ?_, ?_⟩
  ·obtain⟨g,hg1,hg2⟩:=af5 h7 hk;exact⟨g,hl _ _ _ hg1,hg2⟩
  ·intro k n g hg;simpa[ro] using hg
  ·intro b g hg;simpa[ro] using hg
  ·intro s g hg;simpa[ro] using hg
  ·intro o s rs g hg _;exact ad8 hg
 |false=>
  simp only[xB] at hq;rcases hq with⟨rfl,_,_⟩|⟨b,cap,cs,t,N',h1,h2,h3,h4,h5,_⟩
  ·exact absurd rfl hne
  ·have hfull:∀k g,(cs.toList.drop (i * s))[k]? =some g->full w b (0+i * s+k)=some g:=by intro k g hg;rw[List.getElem?_drop] at hg;rw[full_cell h3,Nat.zero_add];exact hg
   cases fl with
   |true=>
    obtain⟨h6,h7⟩:=ae6 h5.1 hi;refine⟨b,0,cap,h1,by simp,h6,ro h,λk x hk=> ?_, ?_, ?_, ?_, ?_⟩
    ·obtain⟨g,hg1,hg2⟩:=ahh h7 hk;exact⟨g,hfull k g hg1,hg2⟩
    ·intro k n g hg;simpa[ro] using hg
    ·intro b g hg;simpa[ro] using hg
    ·intro s g hg;simpa[ro] using hg
    ·intro o s rs g hg _;exact ad8 hg
   |false=>
    obtain⟨h6,N1,h7⟩:=ajb h5 hi;refine⟨b,0,cap,h1,by simp,h6,λx g=>∃N,ow (fZ w) h x g N,λk x hk=> ?_, ?_, ?_, ?_, ?_⟩
    ·obtain⟨g,N2,hg1,hg2⟩:=alX h7 hk;exact⟨g,hfull k g hg1,N2,hg2⟩
    ·rintro k n g ⟨N,hg⟩;simp only[ow] at hg;exact hg.1
    ·rintro b g ⟨N,hg⟩;simp only[ow] at hg;exact hg.1
    ·rintro s g ⟨N,hg⟩;simp only[ow] at hg;exact hg.1
    ·rintro o s rs g ⟨N,hg⟩ ho;cases o with
     |false=>simp only[ow] at hg;exact hg.2
     |true=>
      rcases ho with ho|rfl
      ·cases ho
      ·simp only[ow] at hg;rcases hg with⟨_,rfl,_⟩|⟨b,cap,cs,t,N',e1,e2,_⟩
       ·simp[ro]
       ·simp only[ro];exact⟨_,cap,e1,by simp,λe=>absurd rfl e⟩
def awZ(hA:At base U M0 w0 w m G){t:TypeId}{a:V}{ga:Value}(ha:bQ G.μ m (Gh U w G) a ga){v:V}{l l':Log}(h:(awQ P t a).run m l=some (v,m',l')):
  ∃g,(Instr.loadAt t ga).run P w=.ok g w/\m'=m/\bQ G.μ m (Gh U w G) v g:=by
 simp only[awQ] at h;replace h:=aF h;obtain⟨_,m1,l1,h1,h⟩:=h;obtain⟨hok,rfl,rfl⟩:=jE h1;simp only[PO] at hok;obtain⟨hok,hsz⟩:=hok;have hsz:=MB hsz;cases a with
 |ptr r off=>
  simp only at h;replace h:=aF h;obtain⟨c,m2,l2,h2,h⟩:=h;rw[Gs] at h2;cases h2;cases hc:get r m1 with
  |none=>rw[hc] at h;exact aQ h
  |some c=>
   rw[hc] at h;cases c with
   |box T cs=>
    simp only at h;replace h:=aF h;obtain⟨_,m2,l2,h2,h⟩:=h;obtain⟨hfit,rfl,rfl⟩:=jE h2;obtain⟨hv,rfl,rfl⟩:=nV h;simp only[bQ,hc] at ha;obtain⟨_,b,hμ,rfl⟩:=ha;obtain⟨b',arr,e1,e2,e3,e4⟩:=hA.ok.cell r _ hc (by rw[hA.out];simp);rw[hμ] at e1;cases e1;have hp:=aja off (yF P t) e3;have hlen:arr.size=cs.length:=by simpa using nG e3
    have hfit:=Nat.le_of_ble_eq_true hfit;obtain⟨g,hg⟩:=atl hv hp;refine⟨g,YB hok (by simp;omega) ?_ hg,rfl,VD hv hp hg⟩;intro j x hj;have hj':j<yF P t:=by have:=(UN.1 hj).1;simp at this;omega
    rw[List.getElem?_take,if_pos hj',List.getElem?_drop] at hj;have:=full_cell (w:=w) e2 (off+j);rw[hj] at this;exact this
   |_=>exact aQ h
 |IW row off=>
  simp only at h;simp only[bQ] at ha;obtain⟨b,o,rfl,hrow⟩:=ha;obtain⟨vs,cs,h2,h3,h4,h5⟩:=af4 (m:=m1) (μ:=G.μ) (h:=Gh U w G) (λk=>Gh U w G b (o+k)) (ro (Gh U w G)) (λk x hk=>af5 hrow hk)
   (λk n g hg=>by simpa[ro] using hg) (λb g hg=>by simpa[ro] using hg) (λs g hg=>by simpa[ro] using hg) (λ_ s rs g hg _=>ad8 hg) _ _ _ _ _ _ h
  obtain⟨hv,rfl,rfl⟩:=nV h2;obtain⟨g,hg⟩:=atl hv h4;refine⟨g,YB hok (by rw[h3,hsz]) ?_ hg,rfl,VD hv h4 hg⟩;intro j x hj;have:=h5 j x hj;rw[Nat.add_assoc];exact EX _ _ _ _ _ _ this
 |MC r ver i off=>
  simp only at h;replace h:=aF h;obtain⟨c,m2,l2,h2,h⟩:=h;rw[Gs] at h2;cases h2;cases hc:get r m1 with
  |none=>rw[hc] at h;exact aQ h
  |some c=>
   rw[hc] at h;cases c with
   |arr fz fl wZ s rows=>simp only at h;replace h:=aF h;obtain⟨_,m2,l2,h2,h⟩:=h;obtain⟨hb,rfl,rfl⟩:=jE h2;have hb:=MB hb;subst hb;replace h:=aF h;obtain⟨row,m2,l2,h2,h⟩:=h;obtain⟨hrow,rfl,rfl⟩:=nV h2;simp only[bQ,hc] at ha;obtain⟨b,n,cap,hμ,rfl⟩:=ha.2.2 trivial;have hcell:=hA.ok.cell r _ hc (by rw[hA.out];simp);obtain⟨b',o,cap',e1,e2,e3,Rel,q1,q2,q3,q4,q5⟩:=atm hcell (EX _ _ _) hrow;rw[hμ] at e1;simp only[Value.slice.injEq,oL,Addr.mk.injEq] at e1;obtain⟨⟨rfl,ho,_⟩,_,_⟩:=e1;subst ho;obtain⟨vs,cs,h2,h3,h4,h5⟩:=af4 (m:=_) (μ:=G.μ) (h:=Gh U w G) (λk=>full w b (0+i * s+k)) Rel q1 q2 q3 q4 (λo s rs g hg hs=>q5 o s rs g hg (hs rfl)) _ _ _ _ _ _ h;obtain⟨hv,rfl,rfl⟩:=nV h2;obtain⟨g,hg⟩:=atl hv h4;refine⟨g,YB hok (by rw[h3,hsz]) ?_ hg,rfl,VD hv h4 hg⟩;intro j x hj;have:=h5 j x hj;rw[show i * s+off+j=0+i * s+(off+j) from by omega];exact this
   |_=>exact aQ h
 |_=>exact aQ h
end
end Go.Vm
namespace Go.Vm
open Go
section
variable {base:Nat} {U:Nat->Prop} {M0:List Nat} {w0 w w':World} {m m':Mem} {G G':GS} {P:Program}
def xE{μ:Nat->Value}{h:View}{v:V}{g:Value}(h1:one v=true)(q:bQ μ m h v g):g.oneCell'=true:=by
 cases v with
 |d x=>simp only[bQ] at q;exact Xm q
 |nil s=>simp only[bQ] at q;subst q;rfl
 |own _ _=>simp only[bQ] at q;obtain⟨⟨a,n,c,rfl⟩,_⟩:=q;rfl
 |ptr _ _=>simp only[bQ] at q;obtain⟨⟨b,o,rfl⟩,_⟩:=q;rfl
 |MC _ _ _ _=>simp only[bQ] at q;obtain⟨⟨b,o,rfl⟩,_⟩:=q;rfl
 |IW _ _=>simp only[bQ] at q;obtain⟨b,o,rfl,_⟩:=q;rfl
 |clo _ _ _=>simp only[bQ] at q;obtain⟨a,c,rfl,_⟩:=q;rfl
 |agg _=>simp[one] at h1
 |ZH _=>simp[one] at h1
 |undef=>simp[one] at h1
def cells_one{g:Value}(h:g.oneCell'=true):g.cells=#[g]:=by cases g<;>first|rfl|simp[Value.oneCell'] at h
def alY{μ:Nat->Value}{h:View}:∀{vs:List V} {gs:List Value},vs.all one=true->dX μ m h vs gs->∀x∈gs,x.oneCell'=true
 |[],gs,_,q=>by simp only[dX] at q;subst q;simp
 |v::vs,gs,h1,q=>by
  obtain⟨g,gs',rfl,q1,q2⟩:=xC q;simp only[List.all_cons,PO] at h1;intro x hx;simp only[List.mem_cons] at hx;rcases hx with rfl|hx
  ·exact xE h1.1 q1
  ·exact alY h1.2 q2 x hx
def cells_ok{μ:Nat->Value}{h:View}{v:V}{g:Value}(h1:v.cells.all one=true)(q:bQ μ m h v g):dX μ m h v.cells g.cells.toList/\∀x∈g.cells.toList,x.oneCell'=true:=by
 have single:one v=true->v.cells=[v]->dX μ m h v.cells g.cells.toList/\∀x∈g.cells.toList,x.oneCell'=true:=by intro ho hv;have:=xE ho q;rw[cells_one this,hv];exact⟨by simp only[dX];exact⟨g,[],rfl,q,rfl⟩,by simpa using this⟩
 cases v with
 |agg cs=>simp only[bQ] at q;obtain⟨a,rfl,q⟩:=q;exact⟨q,alY h1 q⟩
 |ZH _=>simp[V.cells,one] at h1
 |undef=>simp[V.cells,one] at h1
 |_=>exact single rfl rfl
def alZ{μ:Nat->Value}{h:View}(c:CT)(g:Value):bQ μ m h (anf c g) g:=by unfold anf;split<;>simp[bQ,ro]
def YD{μ:Nat->Value}{h:View}:∀(cs:List CT) (gs:List Value),dX μ m h (U6 cs gs) gs
 |[],[]=>by simp[U6,dX]
 |_::_,[]=>by simp[U6,dX]
 |[],g::gs=>by simp only[U6,dX];exact⟨g,gs,rfl,by simp[bQ],YD [] gs⟩
 |c::cs,g::gs=>by simp only[U6,dX];exact⟨g,gs,rfl,alZ c g,YD cs gs⟩
def aHC{μ:Nat->Value}{h:View}(t:TypeId)(g:Value):bQ μ m h (cv P t g) g:=by
 unfold cv;split
 ·simp only[bQ];exact⟨_,rfl,YD _ _⟩
 ·split
  ·exact alZ _ _
  ·simp[bQ]
def ae7(μ:Nat->Value)(m:Mem)(h:View)(tm:oz)(a:Act):Prop:=∀t v,get t tm=some v->t<a.tmps.size/\bQ μ m h v (a.tmps.getD t undef)
def ZU{μ:Nat->Value}{h:View}{tm:oz}{a:Act}(hT:ae7 μ m h tm a)(t:TypeId)(x:Operand):bQ μ m h (ev P tm t x) (a.eval x):=by
 cases x with
 |tmp i=>
  simp only[ev,adU];cases hg:get i tm with
  |none=>simp[bQ]
  |some v=>exact(hT i v hg).2
 |const v=>exact aHC t v
 |global g=>simp[ev,bQ]
 |func f=>simp only[ev,bQ];exact⟨#[],#[],rfl,by simp[dX],by simp[dX]⟩
def al0{μ:Nat->Value}{h:View}{tm:oz}{a:Act}(hT:ae7 μ m h tm a):∀(xs:List Operand) (ts:List TypeId),dX μ m h (CO P tm xs ts) (xs.map a.eval)
 |[],_=>by simp[CO,dX]
 |x::xs,ts=>by simp only[CO,dX,zmc];exact⟨_,_,rfl,ZU hT _ x,al0 hT xs _⟩
def VF{μ:Nat->Value}{h:View}{t:TypeId}{z:List V}(hz:WA P t=some z):∃i zv,P.info? t=some i/\i.zero=some zv/\dX μ m h z zv.cells.toList:=by
 unfold WA at hz;cases hi:P.info? t with
 |none=>simp[hi] at hz
 |some i=>
  simp only[hi] at hz;cases hzv:i.zero with
  |none=>simp[hzv] at hz
  |some zv=>simp only[hzv,oL] at hz;subst hz;exact⟨i,zv,rfl,hzv,YD _ _⟩
def KW.rewrite(hg:KW base U w m G)(ho:G.out=[])(hfr:Fr M0 w0 w G){r:Nat}{c c':Cell}{μ':Nat->Value}{N:List Nat}(hc:get r m=some c)(hk:Keep (G.F r) w w')(hN:N.Nodup)
  (hNs:∀b,b∈N->(b∈G.F r\/b∈G.E\/w.heap.size<=b)/\b<w'.heap.size) (hμ:∀k,k≠r->μ' k=G.μ k) (hle:OZ G.μ μ' r c c')
  (hcell:∀h':View,(Gh U w G).le h'->NI G.μ m μ' (put r c' m)->(∀k,k∈G.E->k ∉ N->afY h' (fZ w) [k])->xB μ' (put r c' m) (fZ w') h' r c' N):
  Nx base U M0 w0 w m G w' (put r c' m) ⟨μ',upF G.F r N,[],[]⟩:=by
 have hro:r ∉ G.out:=by rw[ho];simp
 obtain⟨k1,k2⟩:=hg.aDK hc hro;have hk':Keep (G.E++G.F r) w w':=⟨hk.os,hk.tape,hk.output,hk.size,λb hb hn=>hk.block b hb (λh=>hn (by simp[h]))⟩
 obtain⟨q1,q2⟩:=KW.world k1 hk' (E':=N) hN (λb hb=>by
  have:=hNs b hb;refine⟨?_,this.2⟩;rcases this.1 with h|h|h
  ·left;simp[h]
  ·left;simp[h]
  ·exact .inr h)
 have hup:upF (upF G.F r []) r N=upF G.F r N:=by
  funext k
  by_cases e:k=r
  ·subst e;simp
  ·simp[mZ _ e]
 have hml:NI G.μ m μ' (put r c' m):=RN hμ (λc0 h0=>by rw[hc] at h0;cases h0;exact hle);have hset:=KW.set (U:=U) (w:=w') q1 r c' μ' N [] [] (by simpa using hN) (by simp) hml hμ (λk hkr=>by simp[ho,hkr]) (by simp)
  (λhv _=>hcell _ (k2.view.trans' (q2.trans' hv)) hml (λk hkE hkN b hb cs t fr hH o v hv=>by
   simp only[List.mem_singleton] at hb;subst hb;have hbF:∀j,b ∉ G.F j:=λj hj=>hg.djE j b hj hkE
   have hlt:=hg.lt b (.inl hkE);have hsame:fZ w' b=fZ w b:=hk.block b hlt.1 (hbF r);refine Vs (w:=w') (N:=[b]) (λx hx=> ?_) b (by simp) cs t fr (hsame.trans hH) o v hv;simp only[List.mem_singleton] at hx;subst hx;refine⟨hlt.2.2, ?_⟩;rintro(h|⟨j,h⟩)
   ·simp at h
   ·rw[hup] at h
    by_cases e:j=r
    ·subst e;rw[JG] at h;exact hkN h
    ·rw[mZ _ e] at h;exact hbF j h))
 simp only[hup] at hset;obtain⟨s1,s2⟩:=hset;refine⟨s1,rfl,rfl,hml,k2.view.trans' (q2.trans' s2.view), ?_⟩;refine⟨hfr.keep.trans hk (λx hx=>hfr.fr x (.inr ⟨r,hx⟩)), ?_⟩;rintro b (hb|⟨k,hb⟩)
 ·simp at hb
 ·by_cases e:k=r
  ·subst e;simp only[JG] at hb;rcases(hNs b hb).1 with h|h|h
   ·exact hfr.fr b (.inr ⟨_,h⟩)
   ·exact hfr.fr b (.inl h)
   ·exact .inr (Nat.le_trans hfr.keep.size h)
  ·simp only[mZ _ e] at hb;exact hfr.fr b (.inr ⟨k,hb⟩)
def At.rewrite(hA:At base U M0 w0 w m G){r:Nat}{c c':Cell}{μ':Nat->Value}{N:List Nat}(hc:get r m=some c)(hk:Keep (G.F r) w w')(hN:N.Nodup)
  (hNs:∀b,b∈N->(b∈G.F r\/w.heap.size<=b)/\b<w'.heap.size) (hμ:∀k,k≠r->μ' k=G.μ k) (hle:OZ G.μ μ' r c c')
  (hcell:∀h':View,(Gh U w G).le h'->NI G.μ m μ' (put r c' m)->xB μ' (put r c' m) (fZ w') h' r c' N):
  Nx base U M0 w0 w m G w' (put r c' m) ⟨μ',upF G.F r N,[],[]⟩:=
 hA.ok.rewrite hA.out hA.fr hc hk hN (λb hb=>⟨(hNs b hb).1.imp id .inr,(hNs b hb).2⟩) hμ hle (λh' h1 h2 _=>hcell h' h1 h2)
def Nx.after{G1:GS}{m1:Mem}(hl:GLe m G m1 G1)(h:Nx base U M0 w0 w m1 G1 w' m' G'):Nx base U M0 w0 w m G w' m' G':=
 ⟨h.ok,h.E,h.out,Ad hl.mem h.mem,hl.view.trans' h.view,h.fr⟩
def ZV{b:Nat}{cs:Array Value}{M:List Nat}(hb:b∈M):Keep M w (w.setRow b cs):=
 ⟨rfl,rfl,rfl,by simp[World.setRow],λk _ hk=>setRow_other w b k cs (λe=>hk (e ▸ hb))⟩
def aec{o:Obj}{M:List Nat}:Keep M w (w.alloc o):=⟨rfl,rfl,rfl,by simp,λk hk _=>heap_alloc_old w o k hk⟩
def af6{M:List Nat}:Keep M w w.drew:=⟨rfl,rfl,rfl,Nat.le_refl _,λ_ _ _=>rfl⟩
def VG{H:Heap}{h:View}:∀{r:Row} {cs cs':List Value} {N:List Nat},cs.take r.length=cs'.take r.length->mQ H h r cs N->mQ H h r cs' N
 |[],_,_,_,_,q=>by simpa[mQ] using q
 |x::r,cs,cs',N,e,q=>by
  obtain⟨v,cs1,N1,N2,rfl,rfl,h1,h2⟩:=O1 q;cases cs' with
  |nil=>simp at e
  |cons v' aEM=>simp only[Zr,List.take_succ_cons,List.cons.injEq] at e;obtain⟨rfl,e⟩:=e;simp only[mQ];exact⟨v,aEM,N1,N2,rfl,rfl,h1,VG e h2⟩
def MH{H:Heap}{h:View}:∀{a b:Row} {cs:List Value} {N:List Nat},mQ H h (a++b) cs N↔∃N1 N2,N=N1++N2/\mQ H h a cs N1/\mQ H h b (cs.drop a.length) N2
 |[],b,cs,N=>by
  simp only[List.nil_append,mQ,zln,List.drop_zero];constructor
  ·intro q;exact⟨[],N,rfl,rfl,q⟩
  ·rintro⟨N1,N2,rfl,rfl,q⟩;simpa using q
 |x::a,b,cs,N=>by
  simp only[zca,mQ];constructor
  ·rintro⟨v,cs',N1,N2,rfl,rfl,h1,h2⟩;obtain⟨N3,N4,rfl,h3,h4⟩:=MH.1 h2;exact⟨N1++N3,N4,by simp,⟨v,cs',N1,N3,rfl,rfl,h1,h3⟩,by simpa using h4⟩
  ·rintro⟨N1,N2,rfl,⟨v,cs',N3,N4,rfl,rfl,h1,h3⟩,h4⟩;exact⟨v,cs',N3,N4++N2,rfl,by simp,h1,MH.2 ⟨N4,N2,rfl,h3,by simpa using h4⟩⟩
def ajc{H:Heap}{h:View}:∀{r:Row} {cs:List Value} {N:List Nat},mQ H h r cs N->r.length<=cs.length
 |[],_,_,_=>by simp
 |x::r,cs,N,q=>by obtain⟨v,cs',N1,N2,rfl,rfl,_,h2⟩:=O1 q;have:=ajc h2;simp;omega
def S9{α:Type}{l xs:List α}{o:Nat}(h:o+xs.length<=l.length):(splice l o xs).length=l.length:=by simp[splice];omega
def anr{H:Heap}{h:View}{row xs:Row}{cs gs:List Value}{N N1:List Nat}{o:Nat}(q:mQ H h row cs N)(q1:mQ H h xs gs N1)(hl:xs.length=gs.length)(ho:o+xs.length<=row.length):
  ∃N' Dr,mQ H h (splice row o xs) (splice cs o gs) N'/\(N'++Dr).Perm (N++N1):=by
 have hrow:row=row.take o++((row.drop o).take xs.length++row.drop (o+xs.length)):=by rw[<-List.drop_drop,List.take_append_drop,List.take_append_drop]
 have hcl:=ajc q;rw[hrow] at q;obtain⟨Na,Nb,rfl,qa,qb⟩:=MH.1 q;obtain⟨Nc,Nd,rfl,qc,qd⟩:=MH.1 qb;have l1:(row.take o).length=o:=by simp;omega
 have l2:((row.drop o).take xs.length).length=xs.length:=by simp;omega
 rw[l1,List.drop_drop,l2] at qd;refine⟨Na++(N1++Nd),Nc, ?_, ?_⟩
 ·have e:splice row o xs=row.take o++(xs++row.drop (o+xs.length)):=by simp[splice]
  rw[e];refine MH.2 ⟨Na,N1++Nd,rfl, ?_, ?_⟩
  ·refine VG ?_ qa;rw[l1];simp only[splice,XG];rw[List.take_append_of_le_length (by simp;omega)];rw[List.take_take];congr 1;omega
  ·rw[l1];have hd:(splice cs o gs).drop o=gs++cs.drop (o+gs.length):=by
    simp only[splice,XG];rw[List.drop_append_of_le_length (by simp;omega)];have:(cs.take o).drop o=[]:=by simp
    rw[this];rfl
   rw[hd];refine MH.2 ⟨N1,Nd,rfl, ?_, ?_⟩
   ·refine VG ?_ q1;rw[hl];simp
   ·rw[hl];rw[hl] at qd;simpa using qd
 ·simp only[XG];refine List.Perm.append_left Na ?_;have h1:(N1++(Nd++Nc)).Perm ((Nd++Nc)++N1):=List.perm_append_comm;have h2:((Nd++Nc)++N1).Perm ((Nc++Nd)++N1):=List.Perm.append_right N1 List.perm_append_comm;simpa using h1.trans h2
def WI{H:Heap}{h:View}{s:Nat}:∀{rs:List Row} {cs cs':List Value} {N:List Nat},cs.take (rs.length * s)=cs'.take (rs.length * s)->jO H h s rs cs N->jO H h s rs cs' N
 |[],_,_,_,_,q=>by simpa[jO] using q
 |r::rs,cs,cs',N,e,q=>by
  simp only[jO] at q|-;obtain⟨h1,N1,N2,rfl,h2,h3⟩:=q;have hs:(r::rs).length * s=s+rs.length * s:=by simp[Nat.add_mul];omega
  rw[hs] at e;refine⟨h1,N1,N2,rfl,VG ?_ h2,WI ?_ h3⟩
  ·rw[h1];have:=congrArg (List.take s) e;simpa[List.take_take,Nat.min_eq_left] using this
  ·have:=congrArg (List.drop s) e;simpa[List.drop_take] using this
def NZ{H:Heap}{h:View}{s:Nat}:∀{a b:List Row} {cs:List Value} {N:List Nat},jO H h s (a++b) cs N↔∃N1 N2,N=N1++N2/\jO H h s a cs N1/\jO H h s b (cs.drop (a.length * s)) N2
 |[],b,cs,N=>by
  simp only[List.nil_append,jO,zln,Nat.zero_mul,List.drop_zero];constructor
  ·intro q;exact⟨[],N,rfl,rfl,q⟩
  ·rintro⟨N1,N2,rfl,rfl,q⟩;simpa using q
 |x::a,b,cs,N=>by
  have hs:(x::a).length * s=s+a.length * s:=by simp[Nat.add_mul];omega
  simp only[zca,jO,hs];constructor
  ·rintro⟨h0,N1,N2,rfl,h1,h2⟩;obtain⟨N3,N4,rfl,h3,h4⟩:=NZ.1 h2;exact⟨N1++N3,N4,by simp,⟨h0,N1,N3,rfl,h1,h3⟩,by simpa using h4⟩
  ·rintro⟨N1,N2,rfl,⟨h0,N3,N4,rfl,h1,h3⟩,h4⟩;exact⟨h0,N3,N4++N2,by simp,h1,NZ.2 ⟨N4,N2,rfl,h3,by simpa using h4⟩⟩
def PZ{h:View}:∀{r:Row} {cs cs':List Value},cs.take r.length=cs'.take r.length->kV h r cs->kV h r cs'
 |[],_,_,_,_=>trivial
 |x::r,cs,cs',e,⟨v,cs1,e1,h1,h2⟩=>by
  subst e1;cases cs' with
  |nil=>simp at e
  |cons v' aEM=>simp only[Zr,List.take_succ_cons,List.cons.injEq] at e;obtain⟨rfl,e⟩:=e;exact⟨v,aEM,rfl,h1,PZ e h2⟩
def He{h:View}:∀{a b:Row} {cs:List Value},kV h (a++b) cs↔kV h a cs/\kV h b (cs.drop a.length)
 |[],b,cs=>by simp[kV]
 |x::a,b,cs=>by
  simp only[zca,kV];constructor
  ·rintro⟨v,cs',rfl,h1,h2⟩;obtain⟨h3,h4⟩:=He.1 h2;exact⟨⟨v,cs',rfl,h1,h3⟩,by simpa using h4⟩
  ·rintro⟨⟨v,cs',rfl,h1,h3⟩,h4⟩;exact⟨v,cs',rfl,h1,He.2 ⟨h3,by simpa using h4⟩⟩
def aed{h:View}:∀{r:Row} {cs:List Value},kV h r cs->r.length<=cs.length
 |[],_,_=>by simp
 |x::r,cs,⟨v,cs',e,_,h2⟩=>by subst e;have:=aed h2;simp;omega
def ajd{h:View}{row xs:Row}{cs gs:List Value}{o:Nat}(q:kV h row cs)(q1:kV h xs gs)(hl:xs.length=gs.length)(ho:o+xs.length<=row.length):kV h (splice row o xs) (splice cs o gs):=by
 have hrow:row=row.take o++((row.drop o).take xs.length++row.drop (o+xs.length)):=by rw[<-List.drop_drop,List.take_append_drop,List.take_append_drop]
 have hcl:=aed q;rw[hrow] at q;obtain⟨qa,qb⟩:=He.1 q;obtain⟨qc,qd⟩:=He.1 qb;have l1:(row.take o).length=o:=by simp;omega
 have l2:((row.drop o).take xs.length).length=xs.length:=by simp;omega
 rw[l1,List.drop_drop,l2] at qd;have e:splice row o xs=row.take o++(xs++row.drop (o+xs.length)):=by simp[splice]
 rw[e];refine He.2 ⟨?_, ?_⟩
 ·refine PZ ?_ qa;rw[l1];simp only[splice,XG];rw[List.take_append_of_le_length (by simp;omega)];rw[List.take_take];congr 1;omega
 ·rw[l1];have hd:(splice cs o gs).drop o=gs++cs.drop (o+gs.length):=by
   simp only[splice,XG];rw[List.drop_append_of_le_length (by simp;omega)];have:(cs.take o).drop o=[]:=by simp
   rw[this];rfl
  rw[hd];refine He.2 ⟨PZ (by rw[hl];simp) q1, ?_⟩;rw[hl];rw[hl] at qd;simpa using qd
def Tc{h:View}{s:Nat}:∀{rs:List Row} {cs cs':List Value},cs.take (rs.length * s)=cs'.take (rs.length * s)->lQ h s rs cs->lQ h s rs cs'
 |[],_,_,_,_=>trivial
 |r::rs,cs,cs',e,⟨h1,h2,h3⟩=>by
  have hs:(r::rs).length * s=s+rs.length * s:=by simp[Nat.add_mul];omega
  rw[hs] at e;refine⟨h1,PZ ?_ h2,Tc ?_ h3⟩
  ·rw[h1];have:=congrArg (List.take s) e;simpa[List.take_take,Nat.min_eq_left] using this
  ·have:=congrArg (List.drop s) e;simpa[List.drop_take] using this
def Oi{h:View}{s:Nat}:∀{a b:List Row} {cs:List Value},lQ h s (a++b) cs↔lQ h s a cs/\lQ h s b (cs.drop (a.length * s))
 |[],b,cs=>by simp[lQ]
 |x::a,b,cs=>by
  have hs:(x::a).length * s=s+a.length * s:=by simp[Nat.add_mul];omega
  simp only[zca,lQ,hs];rw[Oi,List.drop_drop];constructor
  ·rintro⟨h0,h1,h2,h3⟩;exact⟨⟨h0,h1,h2⟩,h3⟩
  ·rintro⟨⟨h0,h1,h2⟩,h3⟩;exact⟨h0,h1,h2,h3⟩
end
end Go.Vm
namespace Go.Vm
open Go
section
variable {base:Nat} {U:Nat->Prop} {M0:List Nat} {w0 w w':World} {m m':Mem} {G G':GS} {P:Program}
def ahi{α:Type}{l:List α}{i:Nat}{a b:α}(h:l[i]? =some a):l.set i b=l.take i++(b::l.drop (i+1))/\l=l.take i++(a::l.drop (i+1)):=by
 have hi:=(UN.1 h).1;have ha:=(UN.1 h).2;refine⟨?_, ?_⟩
 ·rw[List.set_eq_take_append_cons_drop,if_pos hi]
 ·rw[<-ha,List.getElem_cons_drop,List.take_append_drop]
def arK{H:Heap}{h:View}{s i o:Nat}{rows:List Row}{row xs:Row}{cs gs:List Value}{N N1:List Nat}(q:jO H h s rows cs N)(hi:rows[i]? =some row)(q1:mQ H h xs gs N1)(hl:xs.length=gs.length)(ho:o+xs.length<=s):
  ∃N' Dr,jO H h s (rows.set i (splice row o xs)) (splice cs (i * s+o) gs) N'/\(N'++Dr).Perm (N++N1):=by
 obtain⟨e1,e2⟩:=ahi (b:=splice row o xs) hi;have hil:=(UN.1 hi).1;rw[e2] at q;obtain⟨Na,Nb,rfl,qa,qb⟩:=NZ.1 q;have l1:(rows.take i).length=i:=by simp;omega
 rw[l1] at qb;simp only[jO] at qb;obtain⟨h0,Nc,Nd,rfl,qc,qd⟩:=qb;have hcl:=ajc qc;simp only[List.length_drop] at hcl;obtain⟨N',Dr,qe,hp⟩:=anr (o:=o) qc q1 hl aC;have arL:(splice row o xs).length=s:=by rw[S9 (l:=row) (xs:=xs) (o:=o) aC];exact h0
 have his:i * s<=cs.length:=by
  rcases Nat.eq_zero_or_pos s with e|e
  ·rw[e];simp
  ·omega
 refine⟨Na++(N'++Nd),Dr, ?_, ?_⟩
 ·rw[e1];refine NZ.2 ⟨Na,N'++Nd,rfl, ?_, ?_⟩
  ·refine WI ?_ qa;rw[l1];simp only[splice,XG];rw[List.take_append_of_le_length (by simp;omega),List.take_take];congr 1;omega
  ·rw[l1];have hd:(splice cs (i * s+o) gs).drop (i * s)=splice (cs.drop (i * s)) o gs:=by simp only[splice];rw[XG,List.drop_append_of_le_length (by simp;omega),List.drop_take,List.drop_drop];rw[show i * s+o - i * s=o from by omega,XG,Nat.add_assoc]
   simp only[jO,hd];refine⟨arL,N',Nd,rfl,qe, ?_⟩;have hd2:(splice (cs.drop (i * s)) o gs).drop s=(cs.drop (i * s)).drop s:=by simp only[splice];rw[List.drop_append,List.drop_eq_nil_of_le (by simp;omega)];simp only[List.nil_append,List.drop_drop,DJ,zlt,List.length_drop];congr 1;omega
   rw[hd2];exact qd
 ·simp only[XG];refine List.Perm.append_left Na ?_;have h1:(N'++(Nd++Dr)).Perm (N'++(Dr++Nd)):=List.Perm.append_left N' List.perm_append_comm;have h2:((N'++Dr)++Nd).Perm ((Nc++N1)++Nd):=List.Perm.append_right Nd hp;have h3:(Nc++(N1++Nd)).Perm (Nc++(Nd++N1)):=List.Perm.append_left Nc List.perm_append_comm;have h2':(N'++(Dr++Nd)).Perm (Nc++(N1++Nd)):=by simpa using h2
  exact h1.trans (h2'.trans h3)
def ant{h:View}{s i o:Nat}{rows:List Row}{row xs:Row}{cs gs:List Value}(q:lQ h s rows cs)(hi:rows[i]? =some row)(q1:kV h xs gs)(hl:xs.length=gs.length)(ho:o+xs.length<=s):
  lQ h s (rows.set i (splice row o xs)) (splice cs (i * s+o) gs):=by
 obtain⟨e1,e2⟩:=ahi (b:=splice row o xs) hi;have hil:=(UN.1 hi).1;rw[e2] at q;obtain⟨qa,qb⟩:=Oi.1 q;have l1:(rows.take i).length=i:=by simp;omega
 rw[l1] at qb;obtain⟨h0,qc,qd⟩:=qb;have hcl:=aed qc;simp only[List.length_drop] at hcl;have qe:=ajd (o:=o) qc q1 hl aC;have arL:(splice row o xs).length=s:=by rw[S9 (l:=row) (xs:=xs) (o:=o) aC];exact h0
 have his:i * s<=cs.length:=by
  rcases Nat.eq_zero_or_pos s with e|e
  ·rw[e];simp
  ·omega
 rw[e1];refine Oi.2 ⟨?_, ?_⟩
 ·refine Tc ?_ qa;rw[l1];simp only[splice,XG];rw[List.take_append_of_le_length (by simp;omega),List.take_take];congr 1;omega
 ·rw[l1];have hd:(splice cs (i * s+o) gs).drop (i * s)=splice (cs.drop (i * s)) o gs:=by simp only[splice];rw[XG,List.drop_append_of_le_length (by simp;omega),List.drop_take,List.drop_drop];rw[show i * s+o - i * s=o from by omega,XG,Nat.add_assoc]
  rw[hd];refine⟨arL,qe, ?_⟩;have hd2:(splice (cs.drop (i * s)) o gs).drop s=(cs.drop (i * s)).drop s:=by simp only[splice];rw[List.drop_append,List.drop_eq_nil_of_le (by simp;omega)];simp only[List.nil_append,List.drop_drop,DJ,zlt,List.length_drop];congr 1;omega
  rw[hd2];exact qd
def At.took(hA:At base U M0 w0 w m G){N:List Nat}(ht:Rk base U w m G m' G' N):G'.E=N/\G'.out=[]/\Fr M0 w0 w G':=
 ⟨by rw[ht.E,hA.E];rfl,ht.out.trans hA.out,hA.fr.less ht.le.ex⟩
def auH(hA:At base U M0 w0 w m G){t:TypeId}{a x:V}{ga gx:Value}(ha:bQ G.μ m (Gh U w G) a ga)(hx:bQ G.μ m (Gh U w G) x gx){u:Unit}{l l':Log}(h:(arz P t a x).run m l=some (u,m',l')):
  ∃w' G',(Instr.storeAt t ga gx).run P w=.ok () w'/\Nx base U M0 w0 w m G w' m' G':=by
 simp only[arz] at h;replace h:=aF h;obtain⟨_,m1,l1,h1,h⟩:=h;obtain⟨hok,rfl,rfl⟩:=jE h1;replace h:=aF h;obtain⟨_,m1,l1,h1,h⟩:=h;obtain⟨hlen,rfl,rfl⟩:=jE h1;replace h:=aF h;obtain⟨_,m1,l1,h1,h⟩:=h;obtain⟨hone,rfl,rfl⟩:=jE h1;have hlen:=MB hlen;obtain⟨hxs,hx1⟩:=cells_ok hone hx;have hgl:gx.cells.size=yF P t:=by rw[<-hlen,<-nG hxs,Array.length_toList]
 cases a with
 |ptr r off=>
  simp only at h;replace h:=aF h;obtain⟨c,m2,l2,h2,h⟩:=h;rw[Gs] at h2;cases h2;cases hc:get r m1 with
  |none=>rw[hc] at h;exact aQ h
  |some c=>
   rw[hc] at h;cases c with
   |box T cs=>
    simp only at h;replace h:=aF h;obtain⟨_,m2,l2,h2,h⟩:=h;obtain⟨hfit,rfl,rfl⟩:=jE h2;simp only[bQ,hc] at ha;obtain⟨_,b,hμ,rfl⟩:=ha;obtain⟨b',arr,e1,e2,e3,e4⟩:=hA.ok.cell r _ hc (by rw[hA.out];simp);rw[hμ] at e1;cases e1;have hal:arr.size=cs.length:=by simpa using nG e3
    have hfit:=Nat.le_of_ble_eq_true hfit;have hrun:=ahg (P:=P) hok e2 hgl (off:=off) aC hx1;have hb:b∈G.F r:=by rw[e4];simp
    have hnx:=hA.rewrite (c':=.box T (splice cs off x.cells)) (w':=w.setRow b (splice arr.toList off gx.cells.toList).toArray) (μ':=G.μ) (N:=[b]) hc (ZV hb) (by simp) (λk hk=>by
     simp at hk;subst hk;refine⟨.inl hb, ?_⟩;have:=(hA.ok.lt _ (.inr ⟨r,hb⟩)).1;simpa[World.setRow] using this) (λ_ _=>rfl) ⟨rfl,rfl⟩ (λh' hv hml=>by
     refine⟨b,_,hμ,setRow_heap w b arr _ T (0,0) e2, ?_,rfl⟩;have:=YC off e3 hxs;simpa using y8 hml hv _ _ this)
    simp only[UD,oL,uI] at h;obtain⟨_,rfl,_⟩:=h;exact⟨_,_,hrun,hnx⟩
   |_=>exact aQ h
 |MC r ver i off=>
  simp only at h;replace h:=aF h;obtain⟨xs,m2,l2,h2,h⟩:=h;obtain⟨G1,N1,t1,hrow,hxl⟩:=XL hA.ok hxs hA.out h2;obtain⟨hE1,ho1,aoK⟩:=hA.took t1;replace h:=aF h;obtain⟨c,m3,l3,h3,h⟩:=h;rw[Gs] at h3;cases h3;replace ha:=t1.le.bQ ha;cases hc:get r m2 with
  |none=>rw[hc] at h;exact aQ h
  |some c=>
   rw[hc] at h;cases c with
   |arr fz fl wZ s rows=>
    cases fz with
    |true=>exact aQ h
    |false=>
    simp only at h;replace h:=aF h;obtain⟨_,m4,l4,h4,h⟩:=h;obtain⟨hb,rfl,rfl⟩:=jE h4;have hb:=MB hb;subst hb;replace h:=aF h;obtain⟨_,m4,l4,h4,h⟩:=h;obtain⟨hfit,rfl,rfl⟩:=jE h4;have hfit:=Nat.le_of_ble_eq_true hfit;replace h:=aF h;obtain⟨row,m4,l4,h4,h⟩:=h;obtain⟨hrw,rfl,rfl⟩:=nV h4;simp only[UD,oL,uI] at h;obtain⟨_,rfl,_⟩:=h;simp only[bQ,hc] at ha;obtain⟨b,n,cap,hμ,rfl⟩:=ha.2.2 trivial;have hcell:=t1.ok.cell r _ hc (by rw[ho1];simp);have hne:rows≠[]:=by intro e;subst e;simp at hrw
    have hil:=(UN.1 hrw).1;simp only[xB] at hcell;rcases hcell with⟨e,_,_⟩|⟨b',cap',cs,T,N',k1,k2,k3,k4,k5,k6⟩
    ·exact absurd e hne
    rw[hμ] at k1;simp only[Value.slice.injEq,oL,Addr.mk.injEq] at k1;obtain⟨⟨rfl,_⟩,rfl,rfl⟩:=k1;have hbF:b∈G1.F r:=by rw[k6];simp
    have aw0:xs.length=gx.cells.toList.length:=by rw[hxl,nG hxs]
    have hsz:i * s+off+gx.cells.size<=cs.size:=by rw[k4,hgl];have:(i+1) * s<=cap * s:=Nat.mul_le_mul_right s aC;rw[Nat.add_mul] at this;omega
    have hrun:=ahg (P:=P) hok k3 hgl (off:=i * s+off) hsz hx1;have hh:=setRow_heap w b cs (splice cs.toList (i * s+off) gx.cells.toList).toArray T (0,0) k3;have aHD:off+xs.length<=s:=by rw[aw0,Array.length_toList,hgl];exact hfit
    have aHE:(splice cs.toList (i * s+off) gx.cells.toList).length=cs.size:=by rw[S9 (by simpa using hsz)];simp
    have key:∃N2,N2.Nodup/\(fl=true->N2=[])/\(∀k,k∈N2->k∈G1.F r\/k∈G1.E)/\∀h':View,(Gh U w G1).le h'->(fl=true->afY h' (fZ w) N1)->ad5 (fZ (w.setRow b (splice cs.toList (i * s+off) gx.cells.toList).toArray)) h' fl s (rows.set i (splice row off xs)) (G1.μ r) (b::N2)/\b ∉ N2:=by
     have hoth:∀k,k≠b->fZ (w.setRow b (splice cs.toList (i * s+off) gx.cells.toList).toArray) k=fZ w k:=λk hk=>setRow_other w b k _ hk
     cases fl with
     |true=>
      refine⟨[],by simp,λ_=>rfl,by simp,λh' hv hs=>⟨.inr ⟨b,cap,_,T,[], ?_, ?_,hh, ?_,⟨?_,rfl⟩,rfl⟩,by simp⟩⟩
      ·rw[hμ];simp
      ·simpa using k2
      ·simpa[aHE] using k4
      ·have q1:kV h' xs gx.cells.toList:=ad7 hv xs _ N1 (hs rfl) hrow;simpa using ant (NY hv s rows _ k5.1) hrw q1 aw0 aHD
     |false=>
      obtain⟨N2,Dr,q1,hp⟩:=arK k5 hrw hrow aw0 aHD;have aRQ:(N'++N1).Nodup:=by have h1:=t1.ok.nd r;rw[k6] at h1;have h2:=t1.ok.ndE;rw[hE1] at h2;exact List.nodup_append.2 ⟨(List.nodup_cons.1 h1).2,h2,λx hx y hy e=>t1.ok.djE r x (by rw[k6];simp[hx]) (by rw[hE1,e];exact hy)⟩
      have hnd:=List.nodup_append.1 (hp.nodup_iff.2 aRQ);have hmem:∀k,k∈N2->k∈N'\/k∈N1:=λk hk=>by simpa using hp.mem_iff.1 (List.mem_append_left Dr hk)
      have hbn:b ∉ N2:=by
       intro hb2;rcases hmem b hb2 with h|h
       ·have:=t1.ok.nd r;rw[k6] at this;exact(List.nodup_cons.1 this).1 h
       ·exact t1.ok.djE r b hbF (by rw[hE1];exact h)
      refine⟨N2,hnd.1,(λe=>by cases e),λk hk=> ?_,λh' hv _=>⟨.inr ⟨b,cap,_,T,N2, ?_, ?_,hh, ?_, ?_,rfl⟩,hbn⟩⟩
      ·rcases hmem k hk with h|h
       ·left;rw[k6];simp[h]
       ·right;rw[hE1];exact h
      ·rw[hμ];simp
      ·simpa using k2
      ·simpa[aHE] using k4
      ·have:=KY hv s _ _ N2 (λk hk=>hoth k (λe=>hbn (e ▸ hk))) q1;simpa using this
    obtain⟨N2,hN2,aRR,aRS,YE⟩:=key;refine⟨_,_,hrun,Nx.after t1.le (t1.ok.rewrite ho1 aoK (μ':=G1.μ) (N:=b::N2) hc (ZV hbF) ?_ ?_ (λ_ _=>rfl) ⟨Nat.le_refl _,rfl,λ_=>⟨rfl,rfl⟩⟩ ?_)⟩
    ·exact List.nodup_cons.2 ⟨(YE (full w) (EX _ _ _) (λ_=>alQ)).2,hN2⟩
    ·intro k hk;have hsz':(w.setRow b (splice cs.toList (i * s+off) gx.cells.toList).toArray).heap.size=w.heap.size:=by simp[World.setRow]
     rw[hsz'];simp only[List.mem_cons] at hk;rcases hk with rfl|hk
     ·exact⟨.inl hbF,(t1.ok.lt _ (.inr ⟨r,hbF⟩)).1⟩
     ·rcases aRS k hk with h|h
      ·exact⟨.inl h,(t1.ok.lt _ (.inr ⟨r,h⟩)).1⟩
      ·exact⟨.inr (.inl h),(t1.ok.lt _ (.inl h)).1⟩
    ·intro h' hv hml aBj;refine(YE h' hv (λhfl=> ?_)).1;intro k hk;have hkE:k∈G1.E:=by rw[hE1];exact hk
     refine aBj k hkE ?_ k (by simp);rw[aRR hfl];simp only[List.mem_singleton];intro e;subst e;exact t1.ok.djE r _ hbF hkE
   |_=>exact aQ h
 |_=>exact aQ h
end
end Go.Vm
namespace Go.Vm
open Go
section
variable {base:Nat} {U:Nat->Prop} {M0:List Nat} {w0 w w':World} {m m':Mem} {G G':GS} {P:Program}
def KW.fresh(hg:KW base U w m G)(ho:G.out=[])(hfr:Fr M0 w0 w G){k:Nat}{c':Cell}{gv:Value}{N:List Nat}(hn:get k m=none)(hk:Keep [] w w')(hN:N.Nodup)
  (hNs:∀b,b∈N->(b∈G.E\/w.heap.size<=b)/\b<w'.heap.size)
  (hcell:∀h':View,(Gh U w G).le h'->NI G.μ m (upM G.μ k gv) (put k c' m)->(∀j,j∈G.E->j ∉ N->afY h' (fZ w) [j])->xB (upM G.μ k gv) (put k c' m) (fZ w') h' k c' N):
  Nx base U M0 w0 w m G w' (put k c' m) ⟨upM G.μ k gv,upF G.F k N,[],[]⟩:=by
 have hk':Keep G.E w w':=⟨hk.os,hk.tape,hk.output,hk.size,λb hb _=>hk.block b hb (by simp)⟩
 obtain⟨q1,q2⟩:=KW.world hg hk' (E':=N) hN hNs;have hμ:∀j,j≠k->upM G.μ k gv j=G.μ j:=λj e=>XK gv e
 have hml:NI G.μ m (upM G.μ k gv) (put k c' m):=RN hμ (λc0 h0=>by rw[hn] at h0;cases h0);have hFk:G.F k=[]:=hg.none_ k hn;have hset:=KW.set (U:=U) (w:=w') q1 k c' (upM G.μ k gv) N [] [] (by simpa using hN) (by simp;exact λb hb=> .inr hb) hml hμ (λj hj=>by simp[ho]) (by simp)
  (λhv _=>hcell _ (q2.trans' hv) hml (λj hjE hjN b hb cs t fr hH o v hv=>by
   have hb:=List.mem_singleton.1 hb;rw[<-hb] at hjE hjN;have hlt:=hg.lt b (.inl hjE);have hsame:fZ w' b=fZ w b:=hk.block b hlt.1 (by simp);refine Vs (w:=w') (N:=[b]) (λx hx=> ?_) b (by simp) cs t fr (hsame.trans hH) o v hv;rw[List.mem_singleton.1 hx];refine⟨hlt.2.2, ?_⟩;rintro(h|⟨i,h⟩)
   ·simp at h
   ·by_cases e:i=k
    ·subst e;rw[JG] at h;exact hjN h
    ·rw[mZ _ e] at h;exact hg.djE i b h hjE))
 obtain⟨s1,s2⟩:=hset;refine⟨s1,rfl,rfl,hml,q2.trans' s2.view, ?_⟩;refine⟨hfr.keep.trans hk (by simp), ?_⟩;rintro b (hb|⟨i,hb⟩)
 ·simp at hb
 ·by_cases e:i=k
  ·subst e;simp only[JG] at hb;rcases(hNs b hb).1 with h|h
   ·exact hfr.fr b (.inl h)
   ·exact .inr (Nat.le_trans hfr.keep.size h)
  ·simp only[mZ _ e] at hb;exact hfr.fr b (.inr ⟨i,hb⟩)
def ZW{w1:World}{o:Obj}(h:w1.heap=w.heap):fZ (w1.alloc o) w.heap.size=some o:=by have:=heap_alloc_new w1 o;rw[h] at this;exact this
def al1(hA:At base U M0 w0 w m G){k:Nat}{T:TypeId}{cs:List V}{arr:Array Value}(hs:dX G.μ m (Gh U w G) cs arr.toList){u:Unit}{l l':Log}(h:(new k (.box T cs)).run m l=some (u,m',l')):
  ∃G',Nx base U M0 w0 w m G (w.alloc (.cells arr T)) m' G'/\bQ G'.μ m' (Gh U (w.alloc (.cells arr T)) G') (.ptr k 0) (.pointer (some ⟨w.heap.size,0,none⟩)):=by
 obtain⟨hn,rfl⟩:=ae5 h;refine⟨_,hA.ok.fresh hA.out hA.fr (gv:=.pointer (some ⟨w.heap.size,0,none⟩)) (N:=[w.heap.size]) hn aec (by simp) (λb hb=>by simp at hb;subst hb;simp) (λh' hv hml _=> ?_), ?_⟩
 ·exact⟨w.heap.size,arr,by simp,ZW rfl,y8 hml hv _ _ hs,rfl⟩
 ·simp[bQ,nD,ad6,aA9]
def aje(hg:KW base U w m G)(ho:G.out=[])(hfr:Fr M0 w0 w G){w1:World}(hw1:w1.heap=w.heap)(hk1:Keep [] w w1){k:Nat}{fl:Bool}{s cap:Nat}{rows:List Row}{arr:Array Value}{T:TypeId}(hq:jO (fZ w) (Gh U w G) s rows arr.toList G.E)
  (hcap:rows.length<=cap) (hsz:arr.size=cap * s) {u:Unit} {l l':Log} (h:(new k (.arr false fl 0 s rows)).run m l=some (u,m',l')):
  ∃G',Nx base U M0 w0 w m G (w1.alloc (.cells arr T)) m' G'/\bQ G'.μ m' (Gh U (w1.alloc (.cells arr T)) G') (.own k 0) (.slice (some ⟨w.heap.size,0,none⟩) rows.length cap):=by
 obtain⟨hn,rfl⟩:=ae5 h;have hsize:(w1.alloc (.cells arr T)).heap.size=w.heap.size+1:=by rw[World.size_alloc,hw1]
 have hkeep:Keep [] w (w1.alloc (.cells arr T)):=hk1.trans (aec (M:=[])) (by simp);have hnE:w.heap.size ∉ G.E:=λhE=>by have:=(hg.lt _ (.inl hE)).1;omega
 have hnew:fZ (w1.alloc (.cells arr T)) w.heap.size=some (.cells arr T (0,0)):=ZW hw1;refine⟨_,hg.fresh ho hfr (gv:=.slice (some ⟨w.heap.size,0,none⟩) rows.length cap) (N:=w.heap.size::(match fl with|true=>[]|false=>G.E)) hn hkeep ?_ ?_ ?_, ?_⟩
 ·cases fl with
  |true=>simp
  |false=>exact List.nodup_cons.2 ⟨hnE,hg.ndE⟩
 ·intro b hb;simp only[List.mem_cons] at hb;rcases hb with rfl|hb
  ·exact⟨.inr (Nat.le_refl _),by rw[hsize];omega⟩
  ·cases fl with
   |true=>simp at hb
   |false=>exact⟨.inl hb,by rw[hsize];have:=(hg.lt b (.inl hb)).1;omega⟩
 ·intro h' hv hml aBj;simp only[xB,Vz];refine .inr ⟨w.heap.size,cap,arr,T,_,rfl,hcap,hnew,hsz, ?_,rfl⟩;cases fl with
  |true=>refine⟨Ue hv s rows _ _ (λb hb=> ?_) hq,rfl⟩;refine aBj b hb ?_ b (by simp);simp only[List.mem_singleton];intro e;exact hnE (e ▸ hb)
  |false=>exact KY hv s rows _ _ (λb hb=>hkeep.block b (hg.lt b (.inl hb)).1 (by simp)) hq
 ·simp[bQ,nD,ad6,aA9]
def YF(off:Nat):∀(xs:List Value) (k:Nat) (cells:Array Value),off+k+xs.length<=cells.size->
  ((xs.zipIdx k).foldl (λcs (c,j)=>cs.setIfInBounds (off+j) c) cells).toList=splice cells.toList (off+k) xs
 |[],k,cells,h=>by simp[splice]
 |x::xs,k,cells,h=>by simp only[Zr] at h;simp only[List.zipIdx_cons,List.foldl_cons];rw[YF off xs (k+1) _ (by simp;omega)];have e:=list_seg_step cells.toList (off+k) x xs (by simp;omega);simpa[splice,Array.toList_setIfInBounds,Nat.add_assoc] using e
end
end Go.Vm
namespace Go.Vm
open Go
section
variable {base:Nat} {U:Nat->Prop} {M0:List Nat} {w0 w w':World} {m m':Mem} {G G':GS} {P:Program}
def Po(base:Nat)(U:Nat->Prop)(M0:List Nat)(w0 w:World)(m:Mem)(G:GS)(P:Program)(s:Sem Value)(v:V)(m':Mem):Prop:=
 ∃g w' G',s.run P w=.ok g w'/\Nx base U M0 w0 w m G w' m' G'/\bQ G'.μ m' (Gh U w' G') v g
def Po.same(hA:At base U M0 w0 w m G){s:Sem Value}{g:Value}{v:V}(h:s.run P w=.ok g w)(hv:bQ G.μ m (Gh U w G) v g):Po base U M0 w0 w m G P s v m:=⟨g,w,G,h,hA.nx,hv⟩
def aw1(hA:At base U M0 w0 w m G){T k:Nat}{z:List V}(hz:WA P T=some z){u:Unit}{l l':Log}(h:(new k (.box T z)).run m l=some (u,m',l')):
  Po base U M0 w0 w m G P (Instr.alloc T true (.tuple #[])) (.ptr k 0) m':=by
 obtain⟨i,zv,hi,hzv,hs⟩:=VF (m:=m) (μ:=G.μ) (h:=Gh U w G) hz;obtain⟨G',hnx,YE⟩:=al1 hA hs h;refine⟨_,_,G', ?_,hnx,YE⟩;simp[Instr.alloc,zeroValue,typeInfo,hi,hzv,newVar,newRow]
def aEN(hA:At base U M0 w0 w m G){T k:Nat}{v:V}{g:Value}(hv:bQ G.μ m (Gh U w G) v g)(h1:v.cells.all one=true){u:Unit}{l l':Log}(h:(new k (.box T v.cells)).run m l=some (u,m',l')):
  Po base U M0 w0 w m G P (Instr.box T g) (.ptr k 0) m':=by
 obtain⟨hs,_⟩:=cells_ok h1 hv;obtain⟨G',hnx,YE⟩:=al1 hA hs h;refine⟨_,_,G', ?_,hnx,YE⟩;simp[Instr.box,newVar,newRow]
def ahj:∀(fs:List Field),(fs.all λf=>match P.info? f.type with|some _=>true|none=>false)=true->
  ∃places,fs.mapM (λf=>(P.info? f.type).map λi=>(f.offset,i.size))=some places/\∀(j:Nat) f,fs[j]? =some f->places[j]? =some (f.offset,yF P f.type)
 |[],_=>⟨[],by simp,by simp⟩
 |f::fs,h=>by
  simp only[List.all_cons,PO] at h;obtain⟨places,h1,h2⟩:=ahj fs h.2;cases hi:P.info? f.type with
  |none=>simp[hi] at h
  |some i=>
   refine⟨(f.offset,i.size)::places,by simp[List.mapM_cons,hi,h1], ?_⟩;intro j g hj;cases j with
   |zero=>simp at hj;subst hj;simp[yF,hi]
   |succ j=>simpa using h2 j g (by simpa using hj)
def acv{T:TypeId}{fs:Array Field}(hu:P.underlying T=some (.struct fs)){place:Nat->Option (Nat×Nat)}(hp:∀(j:Nat) f,fs[j]? =some f->place j=some (f.offset,yF P f.type)){tm:oz}{a:Act}
  {μ:Nat->Value} {h:View}:∀(ps:List (Nat×Operand)) {m:Mem} (_:ae7 μ m h tm a) {cs:List V} {cells:Array Value} (_:dX μ m h cs cells.toList) {out:List V} {m':Mem} {l l':Log}
  (_:(BA P T tm ps cs).run m l=some (out,m',l')),m'=m/\∃r,Instr.fill place cells (ps.map λx=>(x.1,a.eval x.2))=some r/\dX μ m h out r.toList
 |[],m,hT,cs,cells,hs,out,m',l,l',hr=>by simp only[BA,run_pure,oL,uI] at hr;obtain⟨rfl,rfl,_⟩:=hr;exact⟨rfl,cells,rfl,hs⟩
 |(f,x)::ps,m,hT,cs,cells,hs,out,m',l,l',hr=>by
  simp only[BA] at hr;replace hr:=aF hr;obtain⟨⟨o,n,t⟩,m1,l1,h1,hr⟩:=hr;obtain⟨hf,rfl,rfl⟩:=nV h1;simp only at hr;obtain⟨hlen,hr⟩:=bck hr;obtain⟨hone,hr⟩:=bck hr;obtain⟨hfit,hr⟩:=bck hr;have hlen:=MB hlen;have hfit:=Nat.le_of_ble_eq_true hfit;obtain⟨hv,hv1⟩:=cells_ok hone (ZU hT t x);have hgl:(a.eval x).cells.size=n:=by rw[<-hlen,<-nG hv,Array.length_toList]
  have hcl:cells.size=cs.length:=by rw[<-nG hs,Array.length_toList]
  have hpl:place f=some (o,n):=by
   unfold Yw at hf;rw[hu] at hf;simp only at hf;cases hfd:fs[f]? with
   |none=>simp[hfd] at hf
   |some fd=>simp only[hfd,oL,uI] at hf;obtain⟨rfl,rfl,rfl⟩:=hf;exact hp f fd hfd
  have hsp:=YF o (a.eval x).cells.toList 0 cells (by simp;omega);have hz:(a.eval x).cells.zipIdx.foldl (λcs (c,j)=>cs.setIfInBounds (o+j) c) cells=(splice cells.toList o (a.eval x).cells.toList).toArray:=by apply Array.ext';rw[<-Array.foldl_toList];simpa using hsp
  obtain⟨hm,r,hr1,hr2⟩:=acv hu hp ps hT (cells:=(splice cells.toList o (a.eval x).cells.toList).toArray) (by simpa using YC o hs hv) hr;refine⟨hm,r, ?_,hr2⟩;simp only[zmc,Instr.fill,hpl];rw[if_neg (by simp[hgl];omega),hz];exact hr1
def auI(hA:At base U M0 w0 w m G){tm:oz}{a:Act}(hT:ae7 G.μ m (Gh U w G) tm a){T:TypeId}{ps:Array (Nat×Operand)}{v:V}{l l':Log}(h:(anj P T tm ps.toList).run m l=some (v,m',l')):
  Po base U M0 w0 w m G P (Instr.build T (ps.map λx=>(x.1,a.eval x.2))) v m':=by
 simp only[anj] at h;replace h:=aF h;obtain⟨_,m1,l1,h1,h⟩:=h;obtain⟨hok,rfl,rfl⟩:=jE h1;replace h:=aF h;obtain⟨z,m1,l1,h1,h⟩:=h;obtain⟨hz,rfl,rfl⟩:=nV h1;replace h:=aF h;obtain⟨cs,m2,l2,h2,h⟩:=h;simp only[run_pure,oL,uI] at h;obtain⟨rfl,rfl,_⟩:=h;obtain⟨i,zv,hi,hzv,hs⟩:=VF (m:=m1) (μ:=G.μ) (h:=Gh U w G) hz;unfold aoE at hok;cases hu:P.underlying T with
 |none=>simp[hu] at hok
 |some d=>
  rw[hu] at hok;cases d with
  |struct fs=>simp only at hok;obtain⟨places,hpl,hpg⟩:=ahj fs.toList hok;obtain⟨hm,r,hr1,hr2⟩:=acv (place:=(places.toArray[·]?)) hu (λj f hj=>by simpa using hpg j f (by simpa using hj)) ps.toList hT hs h2;subst hm;refine Po.same hA (g:=.agg r) ?_ (by simp only[bQ];exact⟨r,rfl,hr2⟩);refine run_build w T _ r ?_;unfold Program.built;simp only[hi,hu,hzv,hpl];simpa[Array.toList_map] using hr1
  |_=>simp at hok
def ZX{e:TypeId}{size:Nat}(hsz:yF P e=size){tm:oz}{a:Act}
  {μ:Nat->Value} {h:View}:∀(ps:List (Nat×Operand)) {m:Mem} (_:ae7 μ m h tm a) {cs:List V} {cells:Array Value} (_:dX μ m h cs cells.toList) {out:List V} {m':Mem} {l l':Log}
  (_:(yG P e tm ps cs).run m l=some (out,m',l')),m'=m/\∃r,Instr.fill (λi=>some (i * size,size)) cells (ps.map λx=>(x.1,a.eval x.2))=some r/\dX μ m h out r.toList
 |[],m,hT,cs,cells,hs,out,m',l,l',hr=>by simp only[yG,run_pure,oL,uI] at hr;obtain⟨rfl,rfl,_⟩:=hr;exact⟨rfl,cells,rfl,hs⟩
 |(i,x)::ps,m,hT,cs,cells,hs,out,m',l,l',hr=>by
  simp only[yG] at hr;obtain⟨hlen,hr⟩:=bck hr;obtain⟨hone,hr⟩:=bck hr;obtain⟨hfit,hr⟩:=bck hr;have hlen:=MB hlen;have hfit:=Nat.le_of_ble_eq_true hfit;rw[hsz] at hlen hfit hr;obtain⟨hv,hv1⟩:=cells_ok hone (ZU hT e x);have hgl:(a.eval x).cells.size=size:=by rw[<-hlen,<-nG hv,Array.length_toList]
  have hcl:cells.size=cs.length:=by rw[<-nG hs,Array.length_toList]
  have hsp:=YF (i * size) (a.eval x).cells.toList 0 cells (by simp;omega);have hz:(a.eval x).cells.zipIdx.foldl (λcs (c,j)=>cs.setIfInBounds (i * size+j) c) cells=(splice cells.toList (i * size) (a.eval x).cells.toList).toArray:=by apply Array.ext';rw[<-Array.foldl_toList];simpa using hsp
  obtain⟨hm,r,hr1,hr2⟩:=ZX hsz ps hT (cells:=(splice cells.toList (i * size) (a.eval x).cells.toList).toArray) (by simpa using YC (i * size) hs hv) hr;refine⟨hm,r, ?_,hr2⟩;simp only[zmc,Instr.fill];rw[if_neg (by simp[hgl];omega),hz];exact hr1
def auJ(hA:At base U M0 w0 w m G){tm:oz}{a:Act}(hT:ae7 G.μ m (Gh U w G) tm a){T:TypeId}{ps:Array (Nat×Operand)}{v:V}{l l':Log}(h:(ank P T tm ps.toList).run m l=some (v,m',l')):
  Po base U M0 w0 w m G P (Instr.build T (ps.map λx=>(x.1,a.eval x.2))) v m':=by
 unfold ank at h;split at h
 ·rename_i n e har;unfold arT at har;cases hu:P.underlying T with
  |none=>simp[hu] at har
  |some d=>rw[hu] at har;cases d<;>simp at har;obtain⟨rfl,rfl⟩:=har;simp only[arE] at h;replace h:=aF h;obtain⟨_,m1,l1,h1,h⟩:=h;obtain⟨hok,rfl,rfl⟩:=jE h1;replace h:=aF h;obtain⟨z,m1,l1,h1,h⟩:=h;obtain⟨hz,rfl,rfl⟩:=nV h1;replace h:=aF h;obtain⟨cs,m2,l2,h2,h⟩:=h;simp only[run_pure,oL,uI] at h;obtain⟨rfl,rfl,_⟩:=h;obtain⟨i,zv,hi,hzv,hs⟩:=VF (m:=m1) (μ:=G.μ) (h:=Gh U w G) hz;obtain⟨d',hd'⟩:=KZ hok;obtain⟨inf,RQ⟩:=G9 hd';obtain⟨hm,r,hr1,hr2⟩:=ZX (RP RQ) ps.toList hT hs h2;subst hm;refine Po.same hA (g:=.agg r) ?_ (by simp only[bQ];exact⟨r,rfl,hr2⟩);refine run_build w T _ r ?_;unfold Program.built;simp only[hi,hu,hzv,RQ];simpa[Array.toList_map] using hr1
 ·exact auI hA hT h
def acw{e:TypeId}{tm:oz}{a:Act}:∀(ps:List (Nat×Operand)) {m:Mem} {G:GS} {k:Nat} (_:KW base U w m G) (_:G.out=[]) (_:ae7 G.μ m (Gh U w G) tm a) {rows:List Row} {m':Mem} {l l':Log}
  (_:(BD P e tm k ps).run m l=some (rows,m',l')),∃G' N,Rk base U w m G m' G' N/\jO (fZ w) (Gh U w G') (yF P e) rows ((ps.map λx=>a.eval x.2).flatMap λv=>v.cells.toList) N/\rows.length=ps.length/\
   (∀v∈ps.map (λx=>a.eval x.2),v.cells.size=yF P e)/\ps.map (λx=>(x.1,a.eval x.2))=((ps.map λx=>a.eval x.2).zipIdx k).map λx=>(x.2,x.1)
 |[],m,G,k,hg,ho,hT,rows,m',l,l',h=>by simp only[BD,run_pure,oL,uI] at h;obtain⟨rfl,rfl,_⟩:=h;exact⟨G,[],Rk.same hg,by simp[jO],rfl,by simp,by simp⟩
 |(i,x)::ps,m,G,k,hg,ho,hT,rows,m',l,l',h=>by
  simp only[BD] at h;replace h:=aF h;obtain⟨_,m1,l1,h1,h⟩:=h;obtain⟨hik,rfl,rfl⟩:=jE h1;have hik:=MB hik;subst hik;replace h:=aF h;obtain⟨_,m1,l1,h1,h⟩:=h;obtain⟨hlen,rfl,rfl⟩:=jE h1;have hlen:=MB hlen;replace h:=aF h;obtain⟨row,m2,l2,h2,h⟩:=h;replace h:=aF h;obtain⟨rows',m3,l3,h3,h⟩:=h;simp only[run_pure,oL,uI] at h;obtain⟨rfl,rfl,_⟩:=h;have hev:=ZU (P:=P) hT e x;have hcells:∃gs,dX G.μ m1 (Gh U w G) (ev P tm e x).cells gs/\(a.eval x).cells.toList=gs:=by
   generalize ev P tm e x=v at hev h2 hlen;cases v with
   |agg cs=>simp only[bQ] at hev;obtain⟨arr,he,hq⟩:=hev;exact⟨arr.toList,hq,by rw[he];rfl⟩
   |d y=>have h1:(a.eval x).oneCell'=true:=xE (v:=.d y) rfl hev;exact⟨[a.eval x],by simp only[V.cells,dX];exact⟨_,[],rfl,hev,rfl⟩,by rw[cells_one h1]⟩
   |nil s=>have h1:(a.eval x).oneCell'=true:=xE (v:=.nil s) rfl hev;exact⟨[a.eval x],by simp only[V.cells,dX];exact⟨_,[],rfl,hev,rfl⟩,by rw[cells_one h1]⟩
   |own r ver=>have h1:(a.eval x).oneCell'=true:=xE (v:=.own r ver) rfl hev;exact⟨[a.eval x],by simp only[V.cells,dX];exact⟨_,[],rfl,hev,rfl⟩,by rw[cells_one h1]⟩
   |ptr r o=>have h1:(a.eval x).oneCell'=true:=xE (v:=.ptr r o) rfl hev;exact⟨[a.eval x],by simp only[V.cells,dX];exact⟨_,[],rfl,hev,rfl⟩,by rw[cells_one h1]⟩
   |MC r v i o=>have h1:(a.eval x).oneCell'=true:=xE (v:=.MC r v i o) rfl hev;exact⟨[a.eval x],by simp only[V.cells,dX];exact⟨_,[],rfl,hev,rfl⟩,by rw[cells_one h1]⟩
   |IW r o=>have h1:(a.eval x).oneCell'=true:=xE (v:=.IW r o) rfl hev;exact⟨[a.eval x],by simp only[V.cells,dX];exact⟨_,[],rfl,hev,rfl⟩,by rw[cells_one h1]⟩
   |clo f p q=>have h1:(a.eval x).oneCell'=true:=xE (v:=.clo f p q) rfl hev;exact⟨[a.eval x],by simp only[V.cells,dX];exact⟨_,[],rfl,hev,rfl⟩,by rw[cells_one h1]⟩
   |ZH vs=>simp only[V.cells,Y7,toD] at h2;replace h2:=aF h2;obtain⟨_,_,_,h4,_⟩:=h2;exact aQ h4
   |undef=>simp only[V.cells,Y7,toD] at h2;replace h2:=aF h2;obtain⟨_,_,_,h4,_⟩:=h2;exact aQ h4
  obtain⟨gs,hgs,hge⟩:=hcells;obtain⟨G1,N1,t1,q1,hrl⟩:=XL hg hgs ho h2;have hT1:ae7 G1.μ m2 (Gh U w G1) tm a:=λt v hv=>⟨(hT t v hv).1,t1.le.bQ (hT t v hv).2⟩
  obtain⟨G2,N2,t2,q2,hl2,hs2,hz2⟩:=acw ps t1.ok (t1.out.trans ho) hT1 h3;have hgl:gs.length=yF P e:=by rw[nG hgs,hlen]
  refine⟨G2,N1++N2,t1.trans t2, ?_,by simp[hl2], ?_, ?_⟩
  ·simp only[jO,zmc,List.flatMap_cons,hge];refine⟨by rw[hrl,hlen],N1,N2,rfl,VG (by rw[hrl,<-nG hgs];simp) (Yy t2.le.view q1), ?_⟩;rw[List.drop_append_of_le_length aC,List.drop_eq_nil_of_le aC];exact q2
  ·intro v hv;simp only[zmc,List.mem_cons] at hv;rcases hv with rfl|hv
   ·rw[<-Array.length_toList,hge,hgl]
   ·exact hs2 v hv
  ·simp only[zmc,List.zipIdx_cons,hz2]
def ajf(hA:At base U M0 w0 w m G){tm:oz}{a:Act}(hT:ae7 G.μ m (Gh U w G) tm a){t:TypeId}{n k:Nat}{ps:Array (Nat×Operand)}{v:V}{l l':Log}(h:(WB P k t n tm ps.toList).run m l=some (v,m',l')):
  Po base U M0 w0 w m G P (Instr.buildSlice t n (ps.map λx=>(x.1,a.eval x.2))) v m':=by
 simp only[WB] at h;replace h:=aF h;obtain⟨e,m1,l1,h1,h⟩:=h;obtain⟨he,rfl,rfl⟩:=nV h1;replace h:=aF h;obtain⟨_,m1,l1,h1,h⟩:=h;obtain⟨hs1,rfl,rfl⟩:=jE h1;replace h:=aF h;obtain⟨_,m1,l1,h1,h⟩:=h;obtain⟨hn,rfl,rfl⟩:=jE h1;replace h:=aF h;obtain⟨_,m1,l1,h1,h⟩:=h;obtain⟨hb,rfl,rfl⟩:=jE h1;replace h:=aF h;obtain⟨z,m1,l1,h1,h⟩:=h;obtain⟨hz,rfl,rfl⟩:=nV h1;obtain⟨inf,zv,hi,hzv,_⟩:=VF (m:=m1) (μ:=G.μ) (h:=Gh U w G) hz;replace h:=aF h;obtain⟨rows,m2,l2,h2,h⟩:=h;replace h:=aF h;obtain⟨_,m3,l3,h3,h⟩:=h;simp only[run_pure,oL,uI] at h;obtain⟨rfl,rfl,_⟩:=h;have hs1:=Nat.le_of_ble_eq_true hs1;have hn:=MB hn;have hb:=Nat.le_of_ble_eq_true hb;have hu:=ZT he;obtain⟨G1,N1,t1,q1,hrl,hsz,aRT⟩:=acw (e:=e) ps.toList hA.ok hA.out hT h2;obtain⟨hE1,ho1,aoK⟩:=hA.took t1;have hsz':yF P e=inf.size:=RP hi;have hrn:rows.length=n:=by rw[hrl,hn]
 by_cases hn0:n=0
 ·subst hn0;have hps:ps.toList=[]:=List.eq_nil_of_length_eq_zero hn;have hrows:rows=[]:=List.eq_nil_of_length_eq_zero hrn;subst hrows;have hpa:ps=#[]:=by cases ps;simp_all
  subst hpa;simp only[jO] at q1;obtain⟨G2,hnx,YE⟩:=aje (w1:=w) (cap:=0) (arr:=#[]) (T:=e) t1.ok ho1 aoK rfl (Keep.refl _ _) (k:=k) (fl:=KX P e) (s:=yF P e) (rows:=[]) (by rw[hE1,q1];simp[jO]) (by simp) (by simp) h3;refine⟨_,_,G2, ?_,Nx.after t1.le hnx,YE⟩;simp[Instr.buildSlice,run_underlying hu,sizeOf,typeInfo,hi,Instr.fill,newRow,Array.range_zero']
 ·have hpos:¬n * inf.size=0:=by rw[<-hsz'];intro e0;rcases Nat.mul_eq_zero.1 e0 with e1|e1<;>omega
  have hsmall:¬n * inf.size>2 ^ 24:=by rw[<-hsz'];omega
  have aw2:=Go.Great.fill_whole (s:=yF P e) aC (ps.toList.map λx=>a.eval x.2) ((Array.range (n * inf.size)).map (zv.cells[· % zv.cells.size]!)) hsz (by simp[<-hsz'];rw[<-hn];simp);rw[<-aRT] at aw2;have hrun:=run_buildSlice w t e n (ps.map λx=>(x.1,a.eval x.2)) _ inf zv hu hi hzv hsmall hpos (by rw[<-hsz'];rw[<-hsz'] at aw2;simpa[Array.toList_map] using aw2);have hcl:((ps.toList.map λx=>a.eval x.2).flatMap λv=>v.cells.toList).length=n * yF P e:=by
   have:∀(l:List Value),(∀v∈l,v.cells.size=yF P e)->(l.flatMap λv=>v.cells.toList).length=l.length * yF P e:=by
    intro l;induction l with
    |nil=>simp
    |cons v l ih=>intro hv;simp only[List.flatMap_cons,DJ,Zr,Nat.add_mul,Array.length_toList];rw[ih (λu hu=>hv u (by simp[hu])),hv v (by simp)];omega
   rw[this _ hsz];simp[<-hn]
  obtain⟨G2,hnx,YE⟩:=aje (w1:=w) (cap:=n) (arr:=((ps.toList.map λx=>a.eval x.2).flatMap λv=>v.cells.toList).toArray) (T:=e) t1.ok ho1 aoK rfl (Keep.refl _ _) (k:=k) (fl:=KX P e) (s:=yF P e) (rows:=rows) (by rw[hE1];simpa using q1) aC (by simp[hcl]) h3;rw[hrn] at YE;exact⟨_,_,G2,hrun,Nx.after t1.le hnx,YE⟩
end
end Go.Vm
namespace Go.Vm
open Go
section
variable {base:Nat} {U:Nat->Prop} {M0:List Nat} {w0 w w':World} {m m':Mem} {G G':GS} {P:Program}
def ahk{h:View}{b:Nat}:∀(r:Row) (o:Nat),DK h r b o->∃cs:List Value,cs.length=r.length/\(∀j v,cs[j]? =some v->h b (o+j)=some v)/\kV h r cs
 |[],_,_=>⟨[],rfl,by simp,trivial⟩
 |x::r,o,q=>by
  simp only[DK] at q;obtain⟨⟨v,h1,h2⟩,h3⟩:=q;obtain⟨cs,e1,e2,e3⟩:=ahk r (o+1) h3;refine⟨v::cs,by simp[e1], ?_,⟨v,cs,rfl,h2,e3⟩⟩;intro j u hj;cases j with
  |zero=>simp at hj;subst hj;exact h1
  |succ j=>
   have:=e2 j u (by simpa using hj)
   rwa [show o+(j+1)=o+1+j from by omega]
def ae8{h:View}{s b:Nat}:∀(rs:List Row) (o:Nat),uJ h s rs b o->∃cs:List Value,cs.length=rs.length * s/\(∀j v,cs[j]? =some v->h b (o+j)=some v)/\lQ h s rs cs
 |[],_,_=>⟨[],by simp,by simp,trivial⟩
 |r::rs,o,q=>by
  simp only[uJ] at q;obtain⟨h1,h2,h3⟩:=q;obtain⟨cs1,a1,a2,a3⟩:=ahk r o h2;obtain⟨cs2,b1,b2,b3⟩:=ae8 rs (o+s) h3;have hl:cs1.length=s:=by rw[a1,h1]
  refine⟨cs1++cs2,by simp[hl,b1,Nat.add_mul];omega, ?_,h1, ?_, ?_⟩
  ·intro j u hj
   by_cases hlt:j<s
   ·rw[List.getElem?_append_left aC] at hj;exact a2 j u hj
   ·rw[List.getElem?_append_right aC,hl] at hj;have:=b2 (j - s) u hj
    rwa [show o+j=o+s+(j - s) from by omega]
  ·refine PZ ?_ a3;rw[List.take_append_of_le_length aC]
  ·rw[List.drop_append_of_le_length aC,List.drop_eq_nil_of_le aC];exact b3
def ahl{h:View}:∀{r:Row} {cs:List Value},kV h r cs->∀u∈cs.take r.length,u.oneCell'=true
 |[],_,_=>by simp
 |x::r,cs,⟨v,cs',e,h1,h2⟩=>by
  subst e;intro u hu;simp only[Zr,List.take_succ_cons,List.mem_cons] at hu;rcases hu with rfl|hu
  ·exact Xm h1
  ·exact ahl h2 u hu
def YG{h:View}{s:Nat}:∀{rs:List Row} {cs:List Value},lQ h s rs cs->∀u∈cs.take (rs.length * s),u.oneCell'=true
 |[],_,_=>by simp
 |r::rs,cs,⟨h1,h2,h3⟩=>by
  intro u hu;have hs:(r::rs).length * s=s+rs.length * s:=by simp[Nat.add_mul];omega
  rw[hs,List.take_add] at hu;simp only[List.mem_append] at hu;rcases hu with hu|hu
  ·exact ahl h2 u (by rw[h1];exact hu)
  ·exact YG h3 u hu
def ak7{H:Heap}{h:View}{x:D}{g:Value}{N:List Nat}(q:ow H h x g N):g.oneCell'=true:=by
 cases x with
 |sl o s rows=>
  cases o with
  |false=>simp only[ow] at q;exact Xm q.2
  |true=>simp only[ow] at q;rcases q with⟨_,rfl,_⟩|⟨b,cap,cs,t,N',rfl,_⟩<;>rfl
 |_=>simp only[ow] at q;rw[q.1];rfl
def al2{H:Heap}{h:View}:∀{r:Row} {cs:List Value} {N:List Nat},mQ H h r cs N->∀u∈cs.take r.length,u.oneCell'=true
 |[],_,_,_=>by simp
 |x::r,cs,N,q=>by
  obtain⟨v,cs',N1,N2,rfl,rfl,h1,h2⟩:=O1 q;intro u hu;simp only[Zr,List.take_succ_cons,List.mem_cons] at hu;rcases hu with rfl|hu
  ·exact ak7 h1
  ·exact al2 h2 u hu
def ajg{H:Heap}{h:View}{s:Nat}:∀{rs:List Row} {cs:List Value} {N:List Nat},jO H h s rs cs N->∀u∈cs.take (rs.length * s),u.oneCell'=true
 |[],_,_,_=>by simp
 |r::rs,cs,N,q=>by
  simp only[jO] at q;obtain⟨h1,N1,N2,rfl,h2,h3⟩:=q;intro u hu;have hs:(r::rs).length * s=s+rs.length * s:=by simp[Nat.add_mul];omega
  rw[hs,List.take_add] at hu;simp only[List.mem_append] at hu;rcases hu with hu|hu
  ·exact al2 h2 u (by rw[h1];exact hu)
  ·exact ajg h3 u hu
def NJ(H:Heap)(h:View)(fl:Bool)(s:Nat)(rows:List Row)(cs:List Value)(N:List Nat):Prop:=match fl with
 |true=>lQ h s rows cs/\N=[]
 |false=>jO H h s rows cs N
def RU{H:Heap}{h:View}{fl:Bool}{s:Nat}{rows:List Row}{cs cs':List Value}{N:List Nat}(e:cs.take (rows.length * s)=cs'.take (rows.length * s))(q:NJ H h fl s rows cs N):NJ H h fl s rows cs' N:=by
 cases fl with
 |true=>exact⟨Tc e q.1,q.2⟩
 |false=>exact WI e q
def ae9{H:Heap}{h:View}{fl:Bool}{s:Nat}{a b:List Row}{cs:List Value}{N N':List Nat}(q:NJ H h fl s a cs N)(q':NJ H h fl s b (cs.drop (a.length * s)) N'):NJ H h fl s (a++b) cs (N++N'):=by
 cases fl with
 |true=>exact⟨Oi.2 ⟨q.1,q'.1⟩,by rw[q.2,q'.2];rfl⟩
 |false=>exact NZ.2 ⟨N,N',rfl,q,q'⟩
def O5{H H':Heap}{h h':View}(hl:h.le h'){fl:Bool}{s:Nat}{rows:List Row}{cs:List Value}{N:List Nat}(hb:∀b,b∈N->H' b=H b)(q:NJ H h fl s rows cs N):NJ H' h' fl s rows cs N:=by
 cases fl with
 |true=>exact⟨NY hl s rows _ q.1,q.2⟩
 |false=>exact KY hl s rows _ N hb q
mutual
def aw3{H:Heap}{h:View}:∀(x:D) (v:Value),ro h x.fz v->ow H h x.fz v []
 | .int _ _,_,q=>by simpa[D.fz,ow,ro] using q
 | .bool _,_,q=>by simpa[D.fz,ow,ro] using q
 | .str _,_,q=>by simpa[D.fz,ow,ro] using q
 | .Zt,_,q=>by simpa[D.fz,ow,ro] using q
 | .sl _ s rows,v,q=>by simp only[D.fz,ow,true_and] at q|-;exact q
end
def ahm{H:Heap}{h:View}:∀(r:Row) (cs:List Value),kV h (EK r) cs->mQ H h (EK r) cs []
 |[],_,_=>by simp[EK,mQ]
 |x::r,cs,q=>by simp only[EK,kV] at q;obtain⟨v,cs',e,h1,h2⟩:=q;simp only[EK,mQ];exact⟨v,cs',[],[],e,rfl,aw3 x v h1,ahm r cs' h2⟩
def afa{H:Heap}{h:View}{s:Nat}:∀(rs:List Row) (cs:List Value),lQ h s (au rs) cs->jO H h s (au rs) cs []
 |[],_,_=>by simp[au,jO]
 |r::rs,cs,q=>by simp only[au,lQ] at q;obtain⟨h1,h2,h3⟩:=q;simp only[au,jO];exact⟨h1,[],[],rfl,ahm r cs h2,afa rs _ h3⟩
def ajh{h:View}:∀{r:Row} {cs:List Value},kV h r cs->kV h (EK r) cs
 |[],_,_=>by simp[EK,kV]
 |x::r,cs,⟨v,cs',e,h1,h2⟩=>by simp only[EK,kV];exact⟨v,cs',e,awV x v h1,ajh h2⟩
def ahn{h:View}{s:Nat}:∀{rs:List Row} {cs:List Value},lQ h s rs cs->lQ h s (au rs) cs
 |[],_,_=>by simp[au,lQ]
 |r::rs,cs,⟨h1,h2,h3⟩=>by simp only[au,lQ];exact⟨by rw[Yx];exact h1,ajh h2,ahn h3⟩
structure Tail(P:Program)(base:Nat)(U:Nat->Prop)(w:World)(m:Mem)(G:GS)(size:Nat)(fl:Bool)(gy:Value)(ys:List Row)(m':Mem):Prop where
 ex:∃G' news,KW base U w m' G'/\GLe m G m' G'/\G'.out=G.out/\G'.μ=G.μ/\Src P size w gy ys.length news/\NJ (fZ w) (Gh U w G') fl size ys news G'.E/\∀r c,get r m=some c->get r m'=some c\/get r m'=some .dead
def aBk(hA:At base U M0 w0 w m G){e:TypeId}{y:V}{gy:Value}(hy:bQ G.μ m (Gh U w G) y gy)(hsz:1<=yF P e){ys:List Row}{l l':Log}(h:(tail P e y).run m l=some (ys,m',l')):
  Tail P base U w m G (yF P e) (KX P e) gy ys m':=by
 have plain:∀(ys:List Row) (news:List Value),Src P (yF P e) w gy ys.length news->(KX P e=true->lQ (Gh U w G) (yF P e) ys news)->(KX P e=false->jO (fZ w) (Gh U w G) (yF P e) ys news [])->
   Tail P base U w m G (yF P e) (KX P e) gy ys m:=by
  intro ys news h1 h2 h3;refine⟨G,news,hA.ok,GLe.refl _ _,rfl,rfl,h1, ?_,λr c h=> .inl h⟩;rw[hA.E];cases hf:KX P e with
  |true=>exact⟨h2 hf,rfl⟩
  |false=>exact h3 hf
 have seen:∀(rows:List Row) (o:Bool),ro (Gh U w G) (.sl o (yF P e) rows) gy->Tail P base U w m G (yF P e) (KX P e) gy (vw (KX P e) rows) m:=by
  intro rows o hq;simp only[ro] at hq;obtain⟨a,cap,rfl,hcap,hne⟩:=hq;have hvl:(vw (KX P e) rows).length=rows.length:=by unfold vw;cases KX P e<;>simp[Xl]
  by_cases hr:rows=[]
  ·subst hr;have hv:vw (KX P e) []=[]:=by unfold vw;cases KX P e<;>simp[au]
   rw[hv];exact plain [] [] (Src.slice (by simp) (by simp) (by simp)) (λ_=>trivial) (λ_=>by simp[jO])
  ·obtain⟨b,o',rfl,hrows⟩:=hne hr;obtain⟨cs,c1,c2,c3⟩:=ae8 rows o' hrows;refine plain _ cs ?_ (λhf=> ?_) (λhf=> ?_)
   ·rw[hvl];refine Src.slice c1 (λu hu=> ?_) (λ_=>⟨b,o',rfl,λj v hj=>EX _ _ _ _ _ _ (c2 j v hj)⟩);exact YG c3 u (by rw[<-c1,List.take_length];exact hu)
   ·rw[hf];exact c3
   ·rw[hf];simp only[vw,aX];exact afa rows cs (ahn c3)
 cases y with
 |d x=>
  cases x with
  |str s=>exact aQ h
  |sl o s rows=>simp only[Vm.tail] at h;replace h:=aF h;obtain⟨_,m1,l1,h1,h⟩:=h;obtain⟨hs,rfl,rfl⟩:=jE h1;simp only[run_pure,oL,uI] at h;obtain⟨rfl,rfl,_⟩:=h;have hs:=MB hs;subst hs;simp only[bQ] at hy;exact seen rows o hy
  |_=>exact aQ h
 |nil s=>simp only[Vm.tail,run_pure,oL,uI] at h;obtain⟨rfl,rfl,_⟩:=h;simp only[bQ] at hy;subst hy;exact plain [] [] (Src.slice (by simp) (by simp) (by simp)) (λ_=>trivial) (λ_=>by simp[jO])
 |own r ver=>
  simp only[Vm.tail] at h;replace h:=aF h;obtain⟨c,m1,l1,h1,h⟩:=h;rw[Gs] at h1;cases h1;cases hc:get r m with
  |none=>rw[hc] at h;exact aQ h
  |some c=>
   rw[hc] at h;cases c with
   |arr fz fl wZ s rows=>
    simp only at h;replace h:=aF h;obtain⟨_,m1,l1,h1,h⟩:=h;obtain⟨hb,rfl,rfl⟩:=jE h1;have hb:=MB hb;subst hb;replace h:=aF h;obtain⟨_,m1,l1,h1,h⟩:=h;obtain⟨hs,rfl,rfl⟩:=jE h1;have hs:=MB hs;subst hs;simp only[bQ,hc] at hy;have hy:=hy.2.2 trivial;subst hy;have hro:r ∉ G.out:=by rw[hA.out];simp
    have hcell:=hA.ok.cell r _ hc hro;cases hf:KX P e with
    |true=>
     rw[hf] at h;simp only at h;replace h:=aF h;obtain⟨_,m1,l1,h1,h⟩:=h;obtain⟨hff,rfl,rfl⟩:=jE h1;simp only[run_pure,oL,uI] at h;obtain⟨rfl,rfl,_⟩:=h;cases fz with
     |true=>have:=seen rows true hcell.1;rw[hf] at this;simpa[vw] using this
     |false=>
      have hfl:fl=true:=by simpa using hff
      subst hfl;rw[hf] at plain;simp only[xB] at hcell;rcases hcell with⟨rfl,hμ,_⟩|⟨b,cap,cs,T,N',h1,h2,h3,h4,h5,_⟩
      ·rw[hμ] at plain|-;exact plain [] [] (Src.slice (by simp) (by simp) (by simp)) (λ_=>trivial) (λe=>by cases e)
      ·rw[h1] at plain|-;have hle:rows.length * yF P e<=cs.toList.length:=by
        have hcl:cs.toList.length=cap * yF P e:=by simpa using h4
        rw[hcl];exact Nat.mul_le_mul_right _ h2
       refine plain rows (cs.toList.take (rows.length * yF P e)) (Src.slice (by rw[zlt];omega) (λu hu=>YG h5.1 u hu) (λ_=>⟨b,0,rfl,λj v hj=> ?_⟩)) (λ_=>Tc (by rw[List.take_take,Nat.min_self]) h5.1) (λe=>by cases e);rw[List.getElem?_take] at hj;split at hj
       ·have:=full_cell (w:=w) h3 (0+j);rw[Nat.zero_add] at this|-;rw[hj] at this;exact this
       ·cases hj
    |false=>
     rw[hf] at h;simp only at h;replace h:=aF h;obtain⟨_,m1,l1,h1,h⟩:=h;obtain⟨hff,rfl,rfl⟩:=jE h1;have hfl:fl=false:=by simpa using hff
     subst hfl;cases fz with
     |true=>simp only[run_pure,oL,uI] at h;obtain⟨rfl,rfl,_⟩:=h;have:=seen rows true hcell.1;rw[hf] at this;simpa[vw] using this
     |false=>
      simp only at h;replace h:=aF h;obtain⟨_,m1,l1,h1,h⟩:=h;rw[UD] at h1;cases h1;simp only[run_pure,oL,uI] at h;obtain⟨rfl,rfl,_⟩:=h;obtain⟨k1,k2,k3⟩:=hA.ok.kill hc hro;have hold:∀j c,get j m1=some c->get j (put r .dead m1)=some c\/get j (put r .dead m1)=some .dead:=by
       intro j c hj
       by_cases e:j=r
       ·subst e;right;exact nD _ _ _
       ·left;rw[qF e];exact hj
      rcases k3 with⟨rfl,hμ,hF⟩|⟨b,cap,cs,T,N',h1,h2,h3,h4,h5,hF⟩
      ·refine⟨_,[],k1,k2,rfl,rfl, ?_, ?_,hold⟩
       ·rw[hμ];exact Src.slice (by simp) (by simp) (by simp)
       ·rw[hA.E,hF];simp[NJ,jO]
      ·have hnd:(b::N').Nodup:=by rw[<-hF];exact hA.ok.nd r
       obtain⟨q1,q2⟩:=k1.less N' (List.nodup_cons.1 hnd).2 (λx hx=>by rw[hA.E,hF];simp[hx]);have hle:rows.length * yF P e<=cs.toList.length:=by
        have hcl:cs.toList.length=cap * yF P e:=by simpa using h4
        rw[hcl];exact Nat.mul_le_mul_right _ h2
       refine⟨_,cs.toList.take (rows.length * yF P e),q1,k2.trans q2,rfl,rfl, ?_, ?_,hold⟩
       ·rw[h1];refine Src.slice (by rw[zlt];omega) (λu hu=>ajg h5 u hu) (λ_=>⟨b,0,rfl,λj v hj=> ?_⟩);rw[List.getElem?_take] at hj;split at hj
        ·have:=full_cell (w:=w) h3 (0+j);rw[Nat.zero_add] at this|-;rw[hj] at this;exact this
        ·cases hj
       ·exact WI (by rw[List.take_take,Nat.min_self]) (aoH (k2.view.trans' q2.view) h5)
   |_=>exact aQ h
 |_=>exact aQ h
end
end Go.Vm
namespace Go.Vm
open Go
section
variable {base:Nat} {U:Nat->Prop} {M0:List Nat} {w0 w w':World} {m m':Mem} {G G' G1:GS} {P:Program}
def P5{b:Bool}{l:Log}{x:Unit}{l':Log}(h:(ck b).run m l=some (x,m',l')):b=true/\m=m'/\l=l':=by obtain⟨h1,h2,h3⟩:=jE h;exact⟨h1,h2.symm,h3.symm⟩
def afb{a:Nat}(h:Nat.ble a alO=true):a<=140737488355328:=Nat.le_of_ble_eq_true h
def al3{M M':List Nat}(h:Keep M w w')(hs:∀b,b∈M->b∈M'):Keep M' w w':=⟨h.os,h.tape,h.output,h.size,λb hb hn=>h.block b hb (λhx=>hn (hs b hx))⟩
def aee{w1:World}{o:Obj}(h:Keep [] w w1):Keep [] w (w1.alloc o):=h.trans (aec (M:=[])) (by simp)
def aoL(hg:KW base U w m G)(ho:G.out=[])(hfr:Fr M0 w0 w G){w1:World}(hw1:w1.heap=w.heap)(hk1:Keep [] w w1){k:Nat}{fl:Bool}{s cap:Nat}{rows:List Row}{arr:Array Value}{T:TypeId}(hq:NJ (fZ w) (Gh U w G) fl s rows arr.toList G.E)
  (hcap:rows.length<=cap) (hsz:arr.size=cap * s) {u:Unit} {l l':Log} (h:(new k (.arr false fl 0 s rows)).run m l=some (u,m',l')):
  ∃G',Nx base U M0 w0 w m G (w1.alloc (.cells arr T)) m' G'/\bQ G'.μ m' (Gh U (w1.alloc (.cells arr T)) G') (.own k 0) (.slice (some ⟨w.heap.size,0,none⟩) rows.length cap):=by
 obtain⟨hn,rfl⟩:=ae5 h;have hsize:(w1.alloc (.cells arr T)).heap.size=w.heap.size+1:=by rw[World.size_alloc,hw1]
 have hkeep:Keep [] w (w1.alloc (.cells arr T)):=aee hk1;have hnE:w.heap.size ∉ G.E:=λhE=>by have:=(hg.lt _ (.inl hE)).1;omega
 refine⟨_,hg.fresh ho hfr (gv:=.slice (some ⟨w.heap.size,0,none⟩) rows.length cap) (N:=w.heap.size::G.E) hn hkeep (List.nodup_cons.2 ⟨hnE,hg.ndE⟩) ?_ ?_, ?_⟩
 ·intro b hb;simp only[List.mem_cons] at hb;rcases hb with rfl|hb
  ·exact⟨.inr (Nat.le_refl _),by rw[hsize];omega⟩
  ·exact⟨.inl hb,by rw[hsize];have:=(hg.lt b (.inl hb)).1;omega⟩
 ·intro h' hv hml aBj;simp only[xB,Vz];refine .inr ⟨w.heap.size,cap,arr,T,G.E,rfl,hcap,ZW hw1,hsz, ?_,rfl⟩;have:=O5 (H':=fZ (w1.alloc (.cells arr T))) hv (λb hb=>hkeep.block b (hg.lt b (.inl hb)).1 (by simp)) hq;cases fl with
  |true=>exact this
  |false=>exact this
 ·simp[bQ,nD,ad6]
def aef{z:Value}{n s:Nat}(h:z.cells.size=s):(Builtin.zeroCells z.cells n).size=n * s:=by simp[Builtin.zeroCells,h]
def arM(hA:At base U M0 w0 w m G){dst:Nat}{t ty ry:TypeId}{x y:V}{gx gy:Value}(hx:bQ G.μ m (Gh U w G) x gx)(hy:bQ G.μ m (Gh U w G) y gy){v:V}{l l':Log}(h:(anh P dst t ty x y).run m l=some (v,m',l')):
  Po base U M0 w0 w m G P (Builtin.append_ #[t,ty] ry #[gx,gy]) v m':=by
 simp only[anh] at h;replace h:=aF h;obtain⟨e,m1,l1,h1,h⟩:=h;obtain⟨he,rfl,rfl⟩:=nV h1;replace h:=aF h;obtain⟨_,m1,l1,h1,h⟩:=h;obtain⟨hs1,rfl,rfl⟩:=jE h1;replace h:=aF h;obtain⟨_,m1,l1,h1,h⟩:=h;obtain⟨hty,rfl,rfl⟩:=jE h1;replace h:=aF h;obtain⟨z,m1,l1,h1,h⟩:=h;obtain⟨hz,rfl,rfl⟩:=nV h1;replace h:=aF h;obtain⟨_,m1,l1,h1,h⟩:=h;obtain⟨hzs,rfl,rfl⟩:=jE h1;replace h:=aF h;obtain⟨ys,m2,l2,h2,h⟩:=h;have hs1:=Nat.le_of_ble_eq_true hs1;have hu:=ZT he;have hty':(∃e',P.underlying ty=some (.slice e'))\/P.underlying ty=some .string:=by
  cases hq:P.underlying ty with
  |none=>simp[hq] at hty
  |some d=>rw[hq] at hty;cases d<;>simp at hty<;>simp
 obtain⟨G1,news,t1,t2,t3,t4,hsrc,hrows,hold⟩:=(aBk hA hy hs1 h2).ex;have aoK:Fr M0 w0 w G1:=hA.fr.less t2.ex;have ho1:G1.out=[]:=t3.trans hA.out;obtain⟨inf,zv,hi,hzv,aHF⟩:=VF (m:=m1) (μ:=G.μ) (h:=Gh U w G) hz;have hzs:zv.cells.size=yF P e:=by rw[<-MB hzs,<-nG aHF,Array.length_toList]
 have hsz:yF P e=inf.size:=RP hi;have hby:ang P e=inf.bytes:=by simp[ang,hi]
 rw[hsz] at hsrc;cases x with
 |nil s0=>
  simp only at h;replace h:=aF h;obtain⟨_,m3,l3,h3,h⟩:=h;obtain⟨hb1,rfl,rfl⟩:=jE h3;replace h:=aF h;obtain⟨_,m3,l3,h3,h⟩:=h;obtain⟨hb2,rfl,rfl⟩:=jE h3;replace h:=aF h;obtain⟨_,m3,l3,h3,h⟩:=h;simp only[run_pure,oL,uI] at h;obtain⟨rfl,rfl,_⟩:=h;simp only[bQ] at hx;subst hx;have hb1:=afb hb1;have hb2:=afb hb2;rw[hby] at hb1
  by_cases hy0:ys=[]
  ·subst hy0;obtain⟨hn,rfl⟩:=ae5 h3;refine⟨_,w,_,Y9 hu hty' hi hsrc,Nx.after t2 (t1.fresh ho1 aoK (gv:=.slice none 0 0) (N:=[]) hn (Keep.refl _ _) (by simp) (by simp) (λh' hv hml _=> ?_)), ?_⟩
   ·simp only[xB,Vz];exact .inl ⟨rfl,rfl,rfl⟩
   ·simp[bQ,nD,ad6]
  ·have hm:ys.length≠0:=by simpa using hy0
   obtain⟨cap,hcap,hrun⟩:=Y8 (w:=w) (ty:=ry) hu hty' hi hzv hsrc hm hb2 hb1;obtain⟨G2,hnx,YE⟩:=aoL (w1:=w.drew) (cap:=cap) (arr:=news.toArray++Builtin.zeroCells zv.cells (cap - ys.length)) (T:=e) t1 ho1 aoK rfl af6 (k:=dst) (fl:=KX P e) (s:=yF P e) (rows:=ys)
    (RU (by
     have hnl:news.length=ys.length * yF P e:=by rw[hsz];exact hsrc.n
     simp only[Array.toList_append];rw[List.take_append_of_le_length aC]) hrows) hcap (by
     rw[Array.size_append,aef hzs,hsz];have hnl:news.toArray.size=ys.length * inf.size:=by simpa using hsrc.n
     rw[hnl,<-Nat.add_mul];congr 1;omega) h3
   exact⟨_,_,G2,hrun,Nx.after t2 hnx,YE⟩
 |own r ver=>
  simp only at h;replace h:=aF h;obtain⟨c,m3,l3,h3,h⟩:=h;rw[Gs] at h3;cases h3;replace hx:=t2.bQ hx;cases hc:get r m2 with
  |none=>rw[hc] at h;exact aQ h
  |some c=>
  rw[hc] at h;cases c with
  |box _ _=>exact aQ h
  |dead=>exact aQ h
  |arr fz fl wZ s rows=>
  cases fz with
  |true=>exact aQ h
  |false=>
  simp only at h;replace h:=aF h;obtain⟨_,m4,l4,h4,h⟩:=h;obtain⟨hb,rfl,rfl⟩:=P5 h4;have hb:=MB hb;subst hb;replace h:=aF h;obtain⟨_,m4,l4,h4,h⟩:=h;obtain⟨hs,rfl,rfl⟩:=P5 h4;have hs:=MB hs;subst hs;replace h:=aF h;obtain⟨_,m4,l4,h4,h⟩:=h;obtain⟨hfl,rfl,rfl⟩:=P5 h4;have hfl:fl=KX P e:=by cases fl<;>cases hq:KX P e<;>simp_all
  rw[<-hfl] at hrows;replace h:=aF h;obtain⟨_,m4,l4,h4,h⟩:=h;obtain⟨hb1,rfl,rfl⟩:=P5 h4;have hb1:=afb hb1;rw[hby] at hb1;replace h:=aF h;obtain⟨_,m4,l4,h4,h⟩:=h;obtain⟨hb2,rfl,rfl⟩:=P5 h4;have hb2:=afb hb2;replace h:=aF h;obtain⟨_,m4,l4,h4,h⟩:=h;rw[UD] at h4;cases h4;simp only[run_pure,oL,uI] at h;obtain⟨rfl,rfl,_⟩:=h;simp only[bQ,hc] at hx;have hx:=hx.2.2 trivial;subst hx;have hcell:=t1.cell r _ hc (by rw[ho1];simp);have hnl:news.length=ys.length * yF P e:=by rw[hsz];exact hsrc.n
  have aEO:¬ver=ver+1:=aC;have hEd:∀b,b∈G1.F r->b ∉ G1.E:=λb=>t1.djE r b
  have fin:∀(w':World) (g:Value) (N:List Nat),Keep (G1.F r) w w'->N.Nodup->(∀b,b∈N->(b∈G1.F r\/b∈G1.E\/w.heap.size<=b)/\b<w'.heap.size)->
    (∀h':View,(Gh U w G1).le h'->ad5 (fZ w') h' fl (yF P e) (rows++ys) g N)->(Builtin.append_ #[t,ty] ry #[G1.μ r,gy]).run P w=.ok g w'->ad6 g->
    Po base U M0 w0 w m1 G P (Builtin.append_ #[t,ty] ry #[G1.μ r,gy]) (.own r (ver+1)) (put r (.arr false fl (ver+1) (yF P e) (rows++ys)) m2):=by
   intro w' g N hk hN hNs YE hrun hone;refine⟨g,w',_,hrun,Nx.after t2 (t1.rewrite ho1 aoK (μ':=upM G1.μ r g) (N:=N) hc hk hN hNs (λk hk=>XK g hk) ⟨aC,rfl,λe=>absurd e aEO⟩ (λh' hv hml _=> ?_)), ?_⟩
   ·simp only[xB,Vz];exact YE h' hv
   ·simp[bQ,nD,hone]
  simp only[xB] at hcell;rcases hcell with⟨rfl,hμ,hF⟩|⟨b,cap,cs,T,N',k1,k2,k3,k4,k5,k6⟩
  ·
   by_cases hy0:ys=[]
   ·subst hy0;refine fin w (.slice none 0 0) [] (Keep.refl _ _) (by simp) (by simp) (λh' hv=> .inl ⟨rfl,rfl,rfl⟩) ?_ ⟨_,_,_,rfl⟩;rw[hμ];exact Y9 hu hty' hi hsrc
   ·have hm:ys.length≠0:=by simpa using hy0
    obtain⟨cap,hcap,hrun⟩:=Y8 (w:=w) (ty:=ry) hu hty' hi hzv hsrc hm (by simpa using hb2) (by simpa using hb1);have hkeep:Keep [] w (w.drew.alloc (.cells (news.toArray++Builtin.zeroCells zv.cells (cap - ys.length)) e)):=aee af6;have hsize:(w.drew.alloc (.cells (news.toArray++Builtin.zeroCells zv.cells (cap - ys.length)) e)).heap.size=w.heap.size+1:=by rw[World.size_alloc];rfl
    have hnE:w.heap.size ∉ G1.E:=λhE=>by have:=(t1.lt _ (.inl hE)).1;omega
    refine fin _ _ (w.heap.size::G1.E) (al3 hkeep (by simp)) (List.nodup_cons.2 ⟨hnE,t1.ndE⟩) ?_ ?_ (by rw[hμ];exact hrun) ⟨_,_,_,rfl⟩
    ·intro k hk;simp only[List.mem_cons] at hk;rcases hk with rfl|hk
     ·exact⟨.inr (.inr (Nat.le_refl _)),by rw[hsize];omega⟩
     ·exact⟨.inr (.inl hk),by rw[hsize];have:=(t1.lt k (.inl hk)).1;omega⟩
    ·intro h' hv;refine .inr ⟨w.heap.size,cap,_,e,G1.E,rfl,by simpa using hcap,ZW rfl, ?_, ?_,rfl⟩
     ·rw[Array.size_append,aef hzs,hsz];have hnl:news.toArray.size=ys.length * inf.size:=by simpa using hsrc.n
      rw[hnl,<-Nat.add_mul];congr 1;omega
     ·have h1:=O5 hv (λb hb=>hkeep.block b (t1.lt b (.inl hb)).1 (by simp)) hrows;have h2:=RU (cs':=(news.toArray++Builtin.zeroCells zv.cells (cap - ys.length)).toList) (by simp only[Array.toList_append];rw[List.take_append_of_le_length aC]) h1;rw[List.nil_append];cases fl with
      |true=>exact h2
      |false=>exact h2
  ·have hbF:b∈G1.F r:=by rw[k6];simp
   have aEP:=t1.nd r;rw[k6] at aEP;have arN:∀k,k∈N'->k∈G1.F r:=λk hk=>by rw[k6];simp[hk]
   have aDM:(N'++G1.E).Nodup:=List.nodup_append.2 ⟨(List.nodup_cons.1 aEP).2,t1.ndE,λa ha c hc e=>hEd a (arN a ha) (e ▸ hc)⟩;have hcl:cs.toList.length=cap * yF P e:=by simpa using k4
   have hrl:rows.length * yF P e<=cs.toList.length:=by rw[hcl];exact Nat.mul_le_mul_right _ k2
   have k5':NJ (fZ w) (Gh U w G1) fl (yF P e) rows cs.toList N':=by
    cases fl with
    |true=>exact k5
    |false=>exact k5
   by_cases hroom:rows.length+ys.length<=cap
   ·
    have hrun:=run_append_fits (ty:=ry) hu hty' hi hsrc k3 hroom (by rw[k4,hsz]);rw[<-hsz] at hrun;have hh:=setRow_heap w b cs (splice cs.toList (rows.length * yF P e) news).toArray T (0,0) k3;have hfit:rows.length * yF P e+news.length<=cs.toList.length:=by rw[hnl,hcl,<-Nat.add_mul];exact Nat.mul_le_mul_right _ hroom
    have hoth:∀k,k≠b->fZ (w.setRow b (splice cs.toList (rows.length * yF P e) news).toArray) k=fZ w k:=λk hk=>setRow_other w b k _ hk
    have hsz2:(w.setRow b (splice cs.toList (rows.length * yF P e) news).toArray).heap.size=w.heap.size:=by simp[World.setRow]
    have hbN:b ∉ N'++G1.E:=by
     intro hx;simp only[List.mem_append] at hx;rcases hx with hx|hx
     ·exact(List.nodup_cons.1 aEP).1 hx
     ·exact hEd b hbF hx
    refine fin _ (.slice (some ⟨b,0,none⟩) (rows.length+ys.length) cap) (b::(N'++G1.E)) (ZV hbF) (List.nodup_cons.2 ⟨hbN,aDM⟩) ?_ ?_ (by rw[k1];exact hrun) ⟨_,_,_,rfl⟩
    ·intro k hk;rw[hsz2];simp only[List.mem_cons,List.mem_append] at hk;rcases hk with rfl|hk|hk
     ·exact⟨.inl hbF,(t1.lt _ (.inr ⟨r,hbF⟩)).1⟩
     ·exact⟨.inl (arN k hk),(t1.lt _ (.inr ⟨r,arN k hk⟩)).1⟩
     ·exact⟨.inr (.inl hk),(t1.lt _ (.inl hk)).1⟩
    ·intro h' hv;refine .inr ⟨b,cap,_,T,N'++G1.E,by simp,by simpa using hroom,hh, ?_, ?_,rfl⟩
     ·have:=S9 (l:=cs.toList) (xs:=news) (o:=rows.length * yF P e) hfit;simp only[List.size_toArray];rw[this,hcl]
     ·have h1:=O5 (H':=fZ (w.setRow b (splice cs.toList (rows.length * yF P e) news).toArray)) hv (λk hk=>hoth k (λe=>hbN (by rw[<-e];simp[hk]))) k5';have h2:=O5 (H':=fZ (w.setRow b (splice cs.toList (rows.length * yF P e) news).toArray)) hv (λk hk=>hoth k (λe=>hbN (by rw[<-e];simp[hk]))) hrows;have h3:=ae9 (RU (cs':=splice cs.toList (rows.length * yF P e) news) (by
       simp only[splice,XG];rw[List.take_append_of_le_length (by simp;omega),List.take_take,Nat.min_self]) h1) (RU (cs':=(splice cs.toList (rows.length * yF P e) news).drop (rows.length * yF P e)) (by
       simp only[splice,XG];rw[List.drop_append_of_le_length (by simp;omega)];have:(cs.toList.take (rows.length * yF P e)).drop (rows.length * yF P e)=[]:=by simp
       rw[this,List.nil_append,List.take_append_of_le_length aC]) h2)
      cases fl with
      |true=>simpa[NJ] using h3
      |false=>simpa[NJ] using h3
   ·
    have hlt:cap<rows.length+ys.length:=aC;obtain⟨cap',hcap',hrun⟩:=ahQ (ty:=ry) (olds:=cs.toList.take (rows.length * yF P e)) hu hty' hi hzv hsrc (by rw[zlt,<-hsz];omega) (λj u hj=>by
     rw[List.getElem?_take] at hj;split at hj
     ·have:=full_cell (w:=w) k3 (0+j);rw[Nat.zero_add] at this|-;rw[hj] at this;exact this
     ·cases hj) hlt hb2 hb1
    have hkeep:Keep [] w (w.drew.alloc (.cells ((cs.toList.take (rows.length * yF P e)++news).toArray++Builtin.zeroCells zv.cells (cap' - (rows.length+ys.length))) e)):=aee af6;have hsize:(w.drew.alloc (.cells ((cs.toList.take (rows.length * yF P e)++news).toArray++Builtin.zeroCells zv.cells (cap' - (rows.length+ys.length))) e)).heap.size=w.heap.size+1:=by rw[World.size_alloc];rfl
    have aRU:w.heap.size ∉ N'++G1.E:=λhE=>by
     simp only[List.mem_append] at hE;rcases hE with hE|hE
     ·have:=(t1.lt _ (.inr ⟨r,arN _ hE⟩)).1;omega
     ·have:=(t1.lt _ (.inl hE)).1;omega
    refine fin _ (.slice (some ⟨w.heap.size,0,none⟩) (rows.length+ys.length) cap') (w.heap.size::(N'++G1.E)) (al3 hkeep (by simp)) (List.nodup_cons.2 ⟨aRU,aDM⟩) ?_ ?_ (by rw[k1];exact hrun) ⟨_,_,_,rfl⟩
    ·intro k hk;rw[hsize];simp only[List.mem_cons,List.mem_append] at hk;rcases hk with rfl|hk|hk
     ·exact⟨.inr (.inr (Nat.le_refl _)),aC⟩
     ·exact⟨.inl (arN k hk),by have:=(t1.lt _ (.inr ⟨r,arN k hk⟩)).1;omega⟩
     ·exact⟨.inr (.inl hk),by have:=(t1.lt _ (.inl hk)).1;omega⟩
    ·intro h' hv;refine .inr ⟨w.heap.size,cap',_,e,N'++G1.E,by simp,by simpa using hcap',ZW rfl, ?_, ?_,rfl⟩
     ·rw[Array.size_append,aef hzs];simp only[List.size_toArray,DJ,zlt,hnl];rw[Nat.min_eq_left hrl,<-Nat.add_mul,<-Nat.add_mul];congr 1;omega
     ·have h1:=O5 hv (λb hb=>hkeep.block b (t1.lt b (.inr ⟨r,arN b hb⟩)).1 (by simp)) k5';have h2:=O5 hv (λb hb=>hkeep.block b (t1.lt b (.inl hb)).1 (by simp)) hrows;have l1:(cs.toList.take (rows.length * yF P e)).length=rows.length * yF P e:=by rw[zlt];omega
      have h3:=ae9 (RU (cs':=((cs.toList.take (rows.length * yF P e)++news).toArray++Builtin.zeroCells zv.cells (cap' - (rows.length+ys.length))).toList) (by
       simp only[Array.toList_append,XG];rw[List.take_append_of_le_length aC,List.take_take,Nat.min_self]) h1) (RU (cs':=(((cs.toList.take (rows.length * yF P e)++news).toArray++Builtin.zeroCells zv.cells (cap' - (rows.length+ys.length))).toList).drop (rows.length * yF P e)) (by
       simp only[Array.toList_append,XG];rw[List.drop_append_of_le_length aC,List.drop_eq_nil_of_le aC,List.nil_append,List.take_append_of_le_length aC]) h2)
      cases fl with
      |true=>exact h3
      |false=>exact h3
 |d _=>exact aQ h
 |ptr _ _=>exact aQ h
 |MC _ _ _ _=>exact aQ h
 |IW _ _=>exact aQ h
 |clo _ _ _=>exact aQ h
 |agg _=>exact aQ h
 |ZH _=>exact aQ h
 |undef=>exact aQ h
end
end Go.Vm
namespace Go.Vm
open Go
section
variable {base:Nat} {U:Nat->Prop} {M0:List Nat} {w0 w w':World} {m m':Mem} {G G':GS} {P:Program}
def ak8(hA:At base U M0 w0 w m G){T f:Nat}{a:V}{ga:Value}(ha:bQ G.μ m (Gh U w G) a ga){v:V}{l l':Log}(h:(adW P T a f).run m l=some (v,m',l')):
  Po base U M0 w0 w m G P (Instr.fieldAt T ga f) v m':=by
 simp only[adW] at h;replace h:=aF h;obtain⟨⟨o,n,t⟩,m1,l1,h1,h⟩:=h;obtain⟨hf,rfl,rfl⟩:=nV h1;simp only at h;obtain⟨hn,h⟩:=bck h;have hn:=Nat.le_of_ble_eq_true hn;cases a with
 |ptr r off=>
  obtain⟨rfl,rfl,_⟩:=rpu h;simp only[bQ] at ha;obtain⟨⟨b,o',rfl⟩,ha⟩:=ha;refine Po.same hA (ZR hf hn) ?_;simp only[bQ];refine⟨⟨_,_,rfl⟩, ?_⟩;split at ha
  ·obtain⟨b1,hμ,e⟩:=ha;simp only[Value.pointer.injEq,oL,Addr.mk.injEq] at e;obtain⟨rfl,rfl,_⟩:=e;exact⟨_,hμ,rfl⟩
  ·trivial
  ·exact ha
 |IW row off=>obtain⟨rfl,rfl,_⟩:=rpu h;simp only[bQ] at ha;obtain⟨b,o',rfl,hrow⟩:=ha;refine Po.same hA (ZR hf hn) ?_;simp only[bQ];exact⟨b,o',by rw[Nat.add_assoc],hrow⟩
 |MC r ver i off=>
  obtain⟨rfl,rfl,_⟩:=rpu h;simp only[bQ] at ha;obtain⟨⟨b,o',rfl⟩,ha⟩:=ha;refine Po.same hA (ZR hf hn) ?_;simp only[bQ];refine⟨⟨_,_,rfl⟩, ?_⟩;split at ha
  ·refine⟨ha.1,λe=> ?_⟩;obtain⟨b1,n1,cap,hμ,e1⟩:=ha.2 e;simp only[Value.pointer.injEq,oL,Addr.mk.injEq] at e1;obtain⟨rfl,rfl,_⟩:=e1;exact⟨_,n1,cap,hμ,by rw[Nat.add_assoc]⟩
  ·trivial
  ·exact ha
 |_=>exact aQ h
def auK(hA:At base U M0 w0 w m G){T f:Nat}{a:V}{ga:Value}(ha:bQ G.μ m (Gh U w G) a ga){v:V}{l l':Log}(h:(arA P T a f).run m l=some (v,m',l')):
  Po base U M0 w0 w m G P (Instr.field T ga f) v m':=by
 simp only[arA] at h;replace h:=aF h;obtain⟨⟨o,n,t⟩,m1,l1,h1,h⟩:=h;obtain⟨hf,rfl,rfl⟩:=nV h1;simp only at h;cases a with
 |agg cs=>
  simp only at h;obtain⟨hfit,h⟩:=bck h;obtain⟨hok,h⟩:=bck h;obtain⟨hv,rfl,rfl⟩:=nV h;simp only[bQ] at ha;obtain⟨arr,rfl,hs⟩:=ha;have hfit:=Nat.le_of_ble_eq_true hfit;have hp:=aja o n hs;have hal:arr.size=cs.length:=by simpa using nG hs
  obtain⟨g,hg⟩:=atl hv hp;refine Po.same hA (g:=g) ?_ (VD hv hp hg);unfold Yw at hf;cases hu:P.underlying T with
  |none=>simp[hu] at hf
  |some d=>
   rw[hu] at hf;cases d with
   |struct fs=>
    simp only at hf;cases hfd:fs[f]? with
    |none=>simp[hfd] at hf
    |some fd=>
     simp only[hfd,oL,uI] at hf;obtain⟨rfl,rfl,rfl⟩:=hf;obtain⟨d',hd'⟩:=KZ hok;obtain⟨i,hi⟩:=G9 hd';unfold Instr.field;simp only[Sem.run_bind,run_underlying hu,Result.andThen_ok,hfd];unfold Go.part;simp only[Sem.run_bind,asAgg,Sem.run_pure,Result.andThen_ok,XQ hd'];unfold valOf at hg;cases hag:UA P fd.type with
     |true=>
      simp only[hag,if_true] at hg;subst hg;rw[RP hi];have hex:arr.extract fd.offset (fd.offset+i.size)=(List.take i.size (List.drop fd.offset arr.toList)).toArray:=by apply Array.ext';simp[Array.toList_extract,List.extract_eq_take_drop]
      simp[sizeOf,typeInfo,hi,hex]
     |false=>
      simp only[hag,Bool.false_eq_true,if_false] at hg;have h0:arr[fd.offset]? =some g:=by
       have:(List.take (yF P fd.type) (List.drop fd.offset arr.toList))[0]? =some g:=by rw[hg];rfl
       rw[List.getElem?_take] at this;split at this
       ·rw[List.getElem?_drop,Nat.add_zero] at this;simpa using this
       ·cases this
      simp[h0]
   |_=>simp at hf
 |_=>exact aQ h
def aji{α:Type}{l:List α}{i:Int}{x:α}(h:idx l i=some x):0<=i/\i.toNat<l.length/\l[i.toNat]? =some x:=by
 unfold idx at h
 by_cases h0:0<=i
 ·simp only[h0,decide_true,aJ] at h;exact⟨h0,(UN.1 h).1,h⟩
 ·simp[h0] at h
def ak9(hA:At base U M0 w0 w m G){t:TypeId}{x i:V}{gx gi:Value}(hx:bQ G.μ m (Gh U w G) x gx)(hi:bQ G.μ m (Gh U w G) i gi){v:V}{l l':Log}(h:(adX P t x i).run m l=some (v,m',l')):
  Po base U M0 w0 w m G P (Instr.indexAt t gx gi) v m':=by
 simp only[adX] at h;replace h:=aF h;obtain⟨e,m1,l1,h1,h⟩:=h;obtain⟨he,rfl,rfl⟩:=nV h1;cases i with
 |d xi=>
  cases xi with
  |int k n=>
   simp only at h;simp only[bQ,ro] at hi;subst hi;have seen:∀(rows:List Row) (o:Bool),ro (Gh U w G) (.sl o (yF P e) rows) gx->∀row,idx rows n=some row->1<=yF P e\/True->(∃inf,P.info? e=some inf)->Po base U M0 w0 w m1 G P (Instr.indexAt t gx (.int k n)) (.IW row 0) m1:=by intro rows o hq row hrow _ RQ;obtain⟨inf,RQ⟩:=RQ;obtain⟨h0,hlt,hget⟩:=aji hrow;simp only[ro] at hq;obtain⟨a,cap,rfl,hcap,hne⟩:=hq;obtain⟨b,o',rfl,hrows⟩:=hne (by intro e;subst e;simp at hlt);obtain⟨hl,hr⟩:=O4 hrows hget;refine Po.same hA (run_indexAt he RQ h0 aC) ?_;simp only[bQ];rw[<-RP RQ];exact⟨b,o'+n.toNat * yF P e,rfl,hr⟩
   cases x with
   |d y=>
    cases y with
    |sl o s rows=>simp only at h;replace h:=aF h;obtain⟨_,m2,l2,h2,h⟩:=h;obtain⟨hs,rfl,rfl⟩:=jE h2;replace h:=aF h;obtain⟨_,m2,l2,h2,h⟩:=h;obtain⟨hok,rfl,rfl⟩:=jE h2;replace h:=aF h;obtain⟨row,m2,l2,h2,h⟩:=h;obtain⟨hrow,rfl,rfl⟩:=nV h2;simp only[run_pure,oL,uI] at h;obtain⟨rfl,rfl,_⟩:=h;have hs:=MB hs;subst hs;simp only[bQ] at hx;obtain⟨d',hd'⟩:=KZ hok;exact seen rows o hx row hrow (.inr trivial) (G9 hd')
    |_=>exact aQ h
   |own r ver=>
    simp only at h;replace h:=aF h;obtain⟨c,m2,l2,h2,h⟩:=h;rw[Gs] at h2;cases h2;cases hc:get r m1 with
    |none=>rw[hc] at h;exact aQ h
    |some c=>
     rw[hc] at h;cases c with
     |arr fz fl wZ s rows=>
      simp only at h;replace h:=aF h;obtain⟨_,m2,l2,h2,h⟩:=h;obtain⟨hb,rfl,rfl⟩:=P5 h2;have hb:=MB hb;subst hb;replace h:=aF h;obtain⟨_,m2,l2,h2,h⟩:=h;obtain⟨hs,rfl,rfl⟩:=P5 h2;have hs:=MB hs;subst hs;replace h:=aF h;obtain⟨_,m2,l2,h2,h⟩:=h;obtain⟨hok,rfl,rfl⟩:=P5 h2;obtain⟨d',hd'⟩:=KZ hok;obtain⟨inf,RQ⟩:=G9 hd';simp only[bQ,hc] at hx;have hx:=hx.2.2 trivial;subst hx;have hcell:=hA.ok.cell r _ hc (by rw[hA.out];simp);cases fz with
      |true=>simp only at h;replace h:=aF h;obtain⟨row,m2,l2,h2,h⟩:=h;obtain⟨hrow,rfl,rfl⟩:=nV h2;simp only[run_pure,oL,uI] at h;obtain⟨rfl,rfl,_⟩:=h;exact seen (vw fl rows) false (aiW hcell.1) row hrow (.inr trivial) ⟨inf,RQ⟩
      |false=>simp only at h;replace h:=aF h;obtain⟨row,m2,l2,h2,h⟩:=h;obtain⟨hrow,rfl,rfl⟩:=nV h2;simp only[run_pure,oL,uI] at h;obtain⟨rfl,rfl,_⟩:=h;obtain⟨h0,hlt,hget⟩:=aji hrow;obtain⟨b,o,cap,hμ,ho,hl,_⟩:=atm hcell (EX _ _ _) hget;have ho:=ho rfl;subst ho;rw[hμ];refine Po.same hA (run_indexAt he RQ h0 aC) ?_;simp only[bQ,hc,hμ];exact⟨⟨_,_,rfl⟩,Nat.le_refl _,λ_=>⟨b,_,_,rfl,by rw[RP RQ];simp⟩⟩
     |_=>exact aQ h
   |_=>exact aQ h
  |_=>exact aQ h
 |_=>exact aQ h
def aoM{t e:TypeId}{n:Nat}(h:arT P t=some (n,e)):P.underlying t=some (.array n e):=by
 unfold arT at h;cases hu:P.underlying t with
 |none=>simp[hu] at h
 |some d=>rw[hu] at h;cases d<;>simp at h;obtain⟨rfl,rfl⟩:=h;rfl
def afc{t e:TypeId}{k:IntKind}{i:Int}{b o n:Nat}(hu:P.underlying t=some (.array n e)){inf:TypeInfo}(hi:P.info? e=some inf)(h0:0<=i)(hn:i<n):
  (Instr.indexAt t (.pointer (some ⟨b,o,none⟩)) (.int k i)).run P w=.ok (.pointer (some ⟨b,o+i.toNat * inf.size,none⟩)) w:=by
 have hc:0<=i/\i<(n:Int):=⟨h0,hn⟩
 unfold Instr.indexAt;simp[asIntOf,run_underlying hu,hc,sizeOf,typeInfo,hi,YA,Instr.sureAddr]
def ala(hA:At base U M0 w0 w m G){t:TypeId}{x i:V}{gx gi:Value}(hx:bQ G.μ m (Gh U w G) x gx)(hi:bQ G.μ m (Gh U w G) i gi){v:V}{l l':Log}(h:(adY P t x i).run m l=some (v,m',l')):
  Po base U M0 w0 w m G P (Instr.indexAt t gx gi) v m':=by
 unfold adY at h;cases ha:arT P t with
 |none=>rw[ha] at h;exact ak9 hA hx hi h
 |some q=>
  obtain⟨n,e⟩:=q;rw[ha] at h;have hu:=aoM ha;cases i<;>try exact aQ h
  rename_i y;cases y<;>try exact aQ h
  rename_i k j;simp only[bQ,ro] at hi;subst hi;simp only[aoD] at h;replace h:=aF h;obtain⟨_,m1,l1,h1,h⟩:=h;obtain⟨hok,rfl,rfl⟩:=jE h1;replace h:=aF h;obtain⟨_,m1,l1,h1,h⟩:=h;obtain⟨hj,rfl,rfl⟩:=jE h1;simp only[PO,decide_eq_true_eq] at hj;obtain⟨d',hd'⟩:=KZ hok;obtain⟨inf,RQ⟩:=G9 hd';have hsz:=RP RQ;cases x<;>try exact aQ h
  ·rename_i r off;simp only[run_pure,oL,uI] at h;obtain⟨rfl,rfl,_⟩:=h;simp only[bQ] at hx;obtain⟨⟨b,o,rfl⟩,hx⟩:=hx;refine Po.same hA (afc hu RQ hj.1 hj.2) ?_;simp only[bQ];refine⟨⟨b,_,rfl⟩, ?_⟩;cases hc:get r m1 with
   |none=>rw[hc] at hx;exact hx.elim
   |some c=>
    rw[hc] at hx;cases c with
    |box T cs=>obtain⟨b',h1,h2⟩:=hx;simp only[Value.pointer.injEq,oL,Addr.mk.injEq] at h2;obtain⟨rfl,rfl,_⟩:=h2;exact⟨b,h1,by rw[hsz]⟩
    |arr _ _ _ _ _=>exact hx.elim
    |dead=>trivial
  ·rename_i row off;simp only[run_pure,oL,uI] at h;obtain⟨rfl,rfl,_⟩:=h;simp only[bQ] at hx;obtain⟨b,o,rfl,hr⟩:=hx;refine Po.same hA (afc hu RQ hj.1 hj.2) ?_;simp only[bQ];exact⟨b,o,by rw[hsz,Nat.add_assoc],hr⟩
def al4{μ:Nat->Value}{mm:Mem}{hh:View}:∀{cs:List V} {row:Row} {gs:List Value},alN cs=some row->dX μ mm hh cs gs->∀i:Nat,i<cs.length->∃g,gs[i]? =some g/\ro hh (nth row i) g
 |[],row,gs,h,q,i,hi=>by simp at hi
 |v::cs,row,gs,h,q,i,hi=>by
  simp only[dX] at q;obtain⟨g,gs',rfl,q1,q2⟩:=q;cases v<;>simp only[alN] at h<;>try cases h
  rename_i x;cases hr:alN cs with
  |none=>rw[hr] at h;cases h
  |some r=>
   rw[hr] at h;cases h;cases i with
   |zero=>exact⟨g,rfl,by simpa[nth,bQ] using q1⟩
   |succ i=>obtain⟨g',h1,h2⟩:=al4 hr q2 i (by simpa using hi);exact⟨g',by simpa using h1,by simpa[nth] using h2⟩
def anu(hA:At base U M0 w0 w m G){t e:TypeId}{n:Nat}{k:IntKind}{j:Int}{cs:List V}{gx:Value}(hu:P.underlying t=some (.array n e))(hx:bQ G.μ m (Gh U w G) (.agg cs) gx){v:V}{l l':Log} (h:(do
  ck (Nat.beq (yF P e) 1 &&(Nat.beq cs.length n &&(okT P e && !(UA P e))))
  ck (decide (0<=j) && decide (j<(n:Int)))
  let row<-op' (alN cs)
  aiN (match UO P e with|[c]=>c|_=> .other) row j.toNat:Acc V).run m l=some (v,m',l')):
  Po base U M0 w0 w m G P (Instr.index t gx (.int k j)) v m':=by
 replace h:=aF h;obtain⟨_,m1,l1,h1,h⟩:=h;obtain⟨hk,rfl,rfl⟩:=jE h1;simp only[PO,Bool.not_eq_true',Nat.beq_eq] at hk;obtain⟨hsz,hlen,hok,hagg⟩:=hk;replace h:=aF h;obtain⟨_,m1,l1,h1,h⟩:=h;obtain⟨hj,rfl,rfl⟩:=jE h1;simp only[PO,decide_eq_true_eq] at hj;replace h:=aF h;obtain⟨row,m1,l1,h1,h⟩:=h;obtain⟨hrow,rfl,rfl⟩:=nV h1;simp only[bQ] at hx;obtain⟨arr,rfl,hs⟩:=hx;obtain⟨g,hg,hr⟩:=al4 hrow hs j.toNat aC;obtain⟨d',hd'⟩:=KZ hok;obtain⟨inf,RQ⟩:=G9 hd';have hone:=RP RQ;have hrun:(Instr.index t (.agg arr) (.int k j)).run P w=.ok g w:=by
  unfold Instr.index;have hg':arr[j.toNat * inf.size]? =some g:=by rw[<-hone,hsz,Nat.mul_one];simpa using hg
  simp[asIntOf,run_underlying hu,hj.1,hj.2,sizeOf,typeInfo,RQ];unfold Go.part;simp[XQ hd',hagg,hg']
 have fin:v=.d (nth row j.toNat)/\m'=m1:=by
  generalize (match UO P e with|[c]=>c|_=>CT.other)=c at h;cases hx:nth row j.toNat<;>cases c<;>simp[aiN,kP,alM,cStr,hx,asInt,asBool,alL,Acc.run] at h
  ·rename_i k1 n1 k2
   by_cases e:k1=k2
   ·subst e;simp[Acc.run] at h;exact⟨h.1.symm,h.2.1.symm⟩
   ·simp[e,Acc.run] at h
  ·exact⟨h.1.symm,h.2.1.symm⟩
  ·exact⟨h.1.symm,h.2.1.symm⟩
 obtain⟨rfl,rfl⟩:=fin;exact Po.same hA hrun (by simpa[bQ] using hr)
end
end Go.Vm
namespace Go.Vm
open Go
section
variable {base:Nat} {U:Nat->Prop} {M0:List Nat} {w0 w w':World} {m m':Mem} {G G':GS} {P:Program}
def auL(hA:At base U M0 w0 w m G){t:TypeId}{x i:V}{gx gi:Value}(hx:bQ G.μ m (Gh U w G) x gx)(hi:bQ G.μ m (Gh U w G) i gi){v:V}{l l':Log}(h:(arB P t x i).run m l=some (v,m',l')):
  Po base U M0 w0 w m G P (Instr.index t gx gi) v m':=by
 unfold arB at h;cases hu:P.underlying t with
 |none=>rw[hu] at h;exact aQ h
 |some d=>
  rw[hu] at h
  by_cases harr:∃n e,d=.array n e
  ·obtain⟨n,e,rfl⟩:=harr;cases x<;>try exact aQ h
   cases i<;>try exact aQ h
   rename_i y;cases y<;>try exact aQ h
   simp only[bQ,ro] at hi;subst hi;exact anu hA hu hx h
  cases d<;>first|exact aQ h|exact(harr ⟨_,_,rfl⟩).elim|skip
  cases x<;>try exact aQ h
  rename_i y;cases y<;>try exact aQ h
  rename_i s;cases i<;>try exact aQ h
  rename_i y;cases y<;>try exact aQ h
  rename_i k n;simp only[bQ,ro] at hx hi;subst hx hi;dsimp only at h;cases hb:idx s n with
  |none=>rw[hb] at h;simp[Acc.run] at h
  |some b=>
   rw[hb] at h;change some (_,_,_)=_ at h;simp only[oL,uI] at h;obtain⟨rfl,rfl,_⟩:=h;obtain⟨h0,hlt,hget⟩:=aji hb;refine Po.same hA (g:=.int .u8 b.toNat) ?_ (by simp[bQ,ro]);have hg:(ByteArray.mk ⟨s⟩)[n.toNat]? =some b:=by
    have hsz:n.toNat<(ByteArray.mk ⟨s⟩).size:=hlt;rw[getElem?_pos (ByteArray.mk ⟨s⟩) n.toNat hsz];have:s[n.toNat]=b:=by have:=List.getElem?_eq_getElem hlt;rw[this] at hget;exact Option.some.inj hget
    exact congrArg some this
   simp[Instr.index,asIntOf,run_underlying hu,h0,hg]
def aBl(hA:At base U M0 w0 w m G){t ty:TypeId}{x:V}{gx:Value}(hx:bQ G.μ m (Gh U w G) x gx)
  (hk:∀s,x=.d (.str s)->P.underlying t=some .string) (hk':(∀s,x≠.d (.str s))->∃e,P.underlying t=some (.slice e)) {v:V} {l l':Log} (h:(lenV x).run m l=some (v,m',l')):
  Po base U M0 w0 w m G P (Builtin.len_ #[t] ty #[gx]) v m':=by
 have slice:∀(a:Option Addr) (n c:Nat),(∃e,P.underlying t=some (.slice e))->Po base U M0 w0 w m G P (Builtin.len_ #[t] ty #[.slice a n c]) (.d (.int .i64 n)) m:=by intro a n c ⟨e,he⟩;refine Po.same hA (g:=.int .i64 n) ?_ (by simp[bQ,ro]);simp[Builtin.len_,run_underlying he,goInt]
 cases x with
 |d y=>
  cases y with
  |str s=>change some (_,_,_)=_ at h;simp only[oL,uI] at h;obtain⟨rfl,rfl,_⟩:=h;simp only[bQ,ro] at hx;subst hx;refine Po.same hA (g:=.int .i64 s.length) ?_ (by simp[bQ,ro]);have hsz:(ByteArray.mk ⟨s⟩).size=s.length:=rfl;simp[Builtin.len_,run_underlying (hk s rfl),goInt,hsz]
  |sl o s rows=>change some (_,_,_)=_ at h;simp only[oL,uI] at h;obtain⟨rfl,rfl,_⟩:=h;simp only[bQ,ro] at hx;obtain⟨a,cap,rfl,_⟩:=hx;exact slice a rows.length cap (hk' (by simp))
  |_=>exact aQ h
 |nil s=>change some (_,_,_)=_ at h;simp only[oL,uI] at h;obtain⟨rfl,rfl,_⟩:=h;simp only[bQ] at hx;subst hx;exact slice none 0 0 (hk' (by simp))
 |own r ver=>
  simp only[lenV] at h;replace h:=aF h;obtain⟨c,m2,l2,h2,h⟩:=h;rw[Gs] at h2;cases h2;cases hc:get r m with
  |none=>rw[hc] at h;exact aQ h
  |some c=>
   rw[hc] at h;cases c with
   |arr fz fl wZ s rows=>simp only at h;replace h:=aF h;obtain⟨_,m2,l2,h2,h⟩:=h;obtain⟨hb,rfl,rfl⟩:=P5 h2;have hb:=MB hb;subst hb;simp only[run_pure,oL,uI] at h;obtain⟨rfl,rfl,_⟩:=h;have hro:=hA.ok.look hc (by rw[hA.out];simp) false;simp only[bQ,hc] at hx;rw[<-hx.2.2 trivial] at hro;simp only[ro] at hro;obtain⟨a,cap,rfl,_⟩:=hro;exact slice a rows.length cap (hk' (by simp))
   |_=>exact aQ h
 |_=>exact aQ h
def alb(hA:At base U M0 w0 w m G){dst:Nat}{t:TypeId}{x y:V}{gx gy:Value}(hx:bQ G.μ m (Gh U w G) x gx)(hy:bQ G.μ m (Gh U w G) y gy){v:V}{l l':Log}(h:(aiO P dst t x y).run m l=some (v,m',l')):
  Po base U M0 w0 w m G P (Instr.makeSlice t gx gy) v m':=aQ h
end
end Go.Vm
namespace Go.Vm
open Go
section
variable {base:Nat} {U:Nat->Prop} {M0:List Nat} {w0 w w':World} {m m':Mem} {G G':GS} {P:Program}
def arO(μ:Nat->Value)(m:Mem)(h:View):Option V->Option Value->Prop
 |none,g=>g=none
 |some v,g=>∃x,g=some x/\bQ μ m h v x
def ZY{μ:Nat->Value}{h:View}{o:Option V}{g:Option Value}{d n:Int}{l l':Log}(hq:arO μ m h o g)(hr:(bound o d).run m l=some (n,m',l')):
  m'=m/\((g=none/\n=d)\/∃k,g=some (.int k n)):=by
 unfold bound at hr;split at hr
 ·change some (_,_,_)=_ at hr;simp only[oL,uI] at hr;obtain⟨rfl,rfl,_⟩:=hr;exact⟨rfl,.inl ⟨hq,rfl⟩⟩
 ·change some (_,_,_)=_ at hr;simp only[oL,uI] at hr;obtain⟨rfl,rfl,_⟩:=hr;obtain⟨x,rfl,hx⟩:=hq;simp only[bQ,ro] at hx;exact⟨rfl,.inr ⟨_,by rw[hx]⟩⟩
 ·exact(aoF hr).elim
def aoN{α:Type}{l r:List α}{a b:Int}(h:cut l a b=some r):0<=a/\a<=b/\b<=l.length/\r=(l.drop a.toNat).take (b.toNat - a.toNat):=by
 unfold cut at h;cases hc:(decide (0<=a) && decide (a<=b) && decide (b<=(l.length:Int))) with
 |false=>simp[hc] at h
 |true=>simp only[hc,aJ,oL] at h;simp only[PO,decide_eq_true_eq] at hc;exact⟨hc.1.1,hc.1.2,hc.2,h.symm⟩
def VH{ad6:Bool}{len cap:Nat}{lo hi:Option Value}{a b:Int}(ha:(lo=none/\a=0)\/∃k,lo=some (.int k a))(hb:(hi=none/\b=len)\/∃k,hi=some (.int k b))
  (h0:0<=a) (h1:a<=b) (h2:b<=len) (h3:len<=cap):(Instr.sliceBounds ad6 len cap lo hi none).run P w=.ok (a.toNat,b.toNat,cap) w:=by
 have hbc:b<=cap:=aC;have h0b:0<=b:=aC;rcases ha with⟨rfl,rfl⟩|⟨k,rfl⟩<;>rcases hb with⟨rfl,rfl⟩|⟨k',rfl⟩
 ·simp[Instr.sliceBounds]
 ·simp[Instr.sliceBounds,Instr.sliceBound,asIntOf,h0b,hbc]
 ·simp[Instr.sliceBounds,Instr.sliceBound,asIntOf,h0,h2,h1]
 ·have:(a:Int)<=(b.toNat:Int):=aC;simp[Instr.sliceBounds,Instr.sliceBound,asIntOf,h0b,hbc,h0,this];omega
def aho{h:View}{s:Nat}:∀{rows:List Row} {b o:Nat} (n:Nat),uJ h s rows b o->uJ h s (rows.drop n) b (o+n * s)
 |rows,b,o,0,q=>by simpa using q
 |[],b,o,n+1,q=>by simp[uJ]
 |r::rows,b,o,n+1,q=>by simp only[uJ] at q;have:=aho n q.2.2;rw[List.drop_succ_cons,Nat.add_mul,Nat.one_mul,show o+(n * s+s)=o+s+n * s by omega];exact this
def ahp{h:View}{s:Nat}:∀{rows:List Row} {b o:Nat} (n:Nat),uJ h s rows b o->uJ h s (rows.take n) b o
 |rows,b,o,0,q=>by simp[uJ]
 |[],b,o,n+1,q=>by simp[uJ]
 |r::rows,b,o,n+1,q=>by simp only[uJ] at q;simp only[List.take_succ_cons,uJ];exact⟨q.1,q.2.1,ahp n q.2.2⟩
def aw4{h:View}{o:Bool}{s:Nat}{rows rows':List Row}{t e:TypeId}{inf:TypeInfo}{g:Value}{lo hi:Option Value}{a b:Int}(hu:P.underlying t=some (.slice e))(hi':P.info? e=some inf)(hs:s=inf.size)
  (hq:ro h (.sl o s rows) g) (ha:(lo=none/\a=0)\/∃k,lo=some (.int k a)) (hb:(hi=none/\b=rows.length)\/∃k,hi=some (.int k b)) (hc:cut rows a b=some rows'):
  ∃g',(Instr.sliceAt t g lo hi none).run P w=.ok g' w/\ro h (.sl false s rows') g':=by
 obtain⟨h0,h1,h2,rfl⟩:=aoN hc;simp only[ro] at hq;obtain⟨ad,cap,rfl,hcap,hne⟩:=hq;have hrun:=VH (P:=P) (w:=w) (ad6:=true) ha hb h0 h1 aC hcap;have hlen:(List.take (b.toNat - a.toNat) (List.drop a.toNat rows)).length=b.toNat - a.toNat:=by simp;omega
 refine⟨.slice (if cap=a.toNat then ad else ad.map (·.add (a.toNat * inf.size))) (b.toNat - a.toNat) (cap - a.toNat), ?_, ?_⟩
 ·simp only[Instr.sliceAt,Sem.run_bind,run_underlying hu,Result.andThen_ok,Instr.slice,hrun,sizeOf,typeInfo];simp[hi']
 ·simp only[ro];refine⟨_,cap - a.toNat,by rw[hlen],by rw[hlen];omega, ?_⟩;intro hne';have hpos:0<b.toNat - a.toNat:=by rw[<-hlen];exact List.length_pos_iff.2 hne'
  have hrows:rows≠[]:=by intro e;subst e;simp at hne'
  obtain⟨bb,oo,rfl,hr⟩:=hne hrows;have hca:¬cap=a.toNat:=aC;refine⟨bb,oo+a.toNat * s, ?_,ahp _ (aho _ hr)⟩;subst hs;simp[hca,Addr.add]
def alc(s:List UInt8)(a b:Nat)(h:a<=b)(hb:b<=s.length):(ByteArray.mk ⟨s⟩).extract a b=⟨⟨(s.drop a).take (b - a)⟩⟩:=by
 have:((ByteArray.mk ⟨s⟩).extract a b).data=⟨(s.drop a).take (b - a)⟩:=by rw[ByteArray.data_extract];apply Array.ext';simp[Array.toList_extract,List.extract_eq_take_drop]
 exact congrArg ByteArray.mk this
def auM(hA:At base U M0 w0 w m G){t:TypeId}{x:V}{gx:Value}{lo hi:Option V}{glo ghi:Option Value}(hx:bQ G.μ m (Gh U w G) x gx)(hlo:arO G.μ m (Gh U w G) lo glo)(hhi:arO G.μ m (Gh U w G) hi ghi)
  {v:V} {l l':Log} (hh0:(arC P t x lo hi).run m l=some (v,m',l')):Po base U M0 w0 w m G P (Instr.sliceAt t gx glo ghi none) v m':=by
 have gen:∀(x:V),bQ G.μ m (Gh U w G) x gx->(do
   let e<-op' (elT P t)
   ck (okT P e)
   let(s,rows)<-seen x
   ck (Nat.beq s (yF P e))
   let l<-bound lo 0
   let h<-bound hi rows.length
   let rows'<-op' (cut rows l h)
   match x with
   | .own r ver=>do
    match<-rd r with
    |some (.arr _ fl wZ s rows)=>do
     ck (Nat.beq ver wZ)
     wr r (.arr true fl ver s rows)
     pure (.d (.sl false s rows'))
    |_=> .fail
   |_=>pure (.d (.sl false s rows')):Acc V).run m l=some (v,m',l')->Po base U M0 w0 w m G P (Instr.sliceAt t gx glo ghi none) v m':=by
  intro x hx h;replace h:=aF h;obtain⟨e,m1,l1,h1,h⟩:=h;obtain⟨he,rfl,rfl⟩:=nV h1;have he:=ZT he;replace h:=aF h;obtain⟨_,m1,l1,h1,h⟩:=h;obtain⟨hok,rfl,rfl⟩:=jE h1;obtain⟨d',hd'⟩:=KZ hok;obtain⟨inf,RQ⟩:=G9 hd';have hsz:=RP RQ;replace h:=aF h;obtain⟨⟨s,rows⟩,m1,l1,h1,h⟩:=h;obtain⟨rfl,hfull⟩:=aBe hA.ok hx hA.out h1;simp only at h;replace h:=aF h;obtain⟨_,m2,l2,h2,h⟩:=h;obtain⟨hs,rfl,rfl⟩:=jE h2;have hs:=MB hs;replace h:=aF h;obtain⟨a,m2,l2,h2,h⟩:=h;obtain⟨rfl,ha⟩:=ZY hlo h2;replace h:=aF h;obtain⟨b,m3,l3,h3,h⟩:=h;obtain⟨rfl,hb⟩:=ZY hhi h3;replace h:=aF h;obtain⟨rows',m4,l4,h4,h⟩:=h;obtain⟨hcut,rfl,rfl⟩:=nV h4;have aw5:∀{h':View} {G1:GS} {m1':Mem} {o:Bool},Nx base U M0 w0 w m4 G w m1' G1->h'=Gh U w G1->ro h' (.sl o s rows) gx->Po base U M0 w0 w m4 G P (Instr.sliceAt t gx glo ghi none) (.d (.sl false s rows')) m1':=by intro h' G1 m1' o hnx hh hro;subst hh;obtain⟨g',hrun,hg'⟩:=aw4 (w:=w) he RQ (hs.trans hsz) hro ha hb hcut;exact⟨g',w,G1,hrun,hnx,hg'⟩
  cases x with
  |own r ver=>
   simp only at h;replace h:=aF h;obtain⟨c,m5,l5,h5,h⟩:=h;rw[Gs] at h5;cases h5;cases hc:get r m4 with
   |none=>rw[hc] at h;exact aQ h
   |some c=>
    rw[hc] at h;cases c with
    |arr fz fl wZ s2 aHG=>simp only at h;replace h:=aF h;obtain⟨_,m5,l5,h5,h⟩:=h;obtain⟨hbq,rfl,rfl⟩:=jE h5;have hbq:=MB hbq;subst hbq;replace h:=aF h;obtain⟨_,m5,l5,h5,h⟩:=h;rw[UD] at h5;simp only[oL,uI] at h5;obtain⟨_,rfl,_⟩:=h5;simp only[run_pure,oL,uI] at h;obtain⟨rfl,rfl,_⟩:=h;simp only[seen] at h1;replace h1:=aF h1;obtain⟨c,m6,l6,h6,h1⟩:=h1;rw[Gs] at h6;cases h6;rw[hc] at h1;simp only at h1;replace h1:=aF h1;obtain⟨_,m6,l6,h6,h1⟩:=h1;obtain⟨_,rfl,rfl⟩:=jE h6;simp only[run_pure,oL,uI] at h1;obtain⟨⟨rfl,rfl⟩,_⟩:=h1;obtain⟨k1,k2,k3⟩:=hA.ok.freeze hc (by rw[hA.out];simp);simp only[bQ,hc] at hx;have hgx:=hx.2.2 trivial;rw[<-hgx] at k3;rw[hA.E] at k3;exact aw5 (hA.still k1 k2 hA.out) rfl (aiW (fl:=fl) k3)
    |_=>exact aQ h
  |d y=>
   cases y with
   |sl o s2 aHG=>simp only[seen,run_pure,oL,uI] at h1 h;obtain⟨⟨rfl,rfl⟩,_⟩:=h1;obtain⟨rfl,rfl,_⟩:=h;exact aw5 (o:=o) hA.nx rfl hx
   |_=>exact aQ h1
  |nil s2=>simp only[seen,run_pure,oL,uI] at h1 h;obtain⟨⟨rfl,rfl⟩,_⟩:=h1;obtain⟨rfl,rfl,_⟩:=h;refine aw5 (o:=false) hA.nx rfl ?_;simp only[bQ] at hx;subst hx;simp[ro]
  |_=>exact aQ h1
 have h:=hh0;cases x with
 |d y=>
  cases y with
  |str s=>
   simp only[arC] at h;replace h:=aF h;obtain⟨_,m1,l1,h1,h⟩:=h;obtain⟨hu,rfl,rfl⟩:=jE h1;replace h:=aF h;obtain⟨a,m2,l2,h2,h⟩:=h;obtain⟨rfl,ha⟩:=ZY hlo h2;replace h:=aF h;obtain⟨b,m3,l3,h3,h⟩:=h;obtain⟨rfl,hb⟩:=ZY hhi h3;replace h:=aF h;obtain⟨s',m4,l4,h4,h⟩:=h;obtain⟨hcut,rfl,rfl⟩:=nV h4;simp only[run_pure,oL,uI] at h;obtain⟨rfl,rfl,_⟩:=h;obtain⟨h0,h1,h2,rfl⟩:=aoN hcut;simp only[bQ,ro] at hx;subst hx;have hu:P.underlying t=some .string:=by
    cases hd:P.underlying t with
    |none=>simp[hd] at hu
    |some d=>rw[hd] at hu;cases d<;>simp at hu;rfl
   have hrun:=VH (P:=P) (w:=w) (ad6:=false) (len:=s.length) (cap:=s.length) ha hb h0 h1 h2 (Nat.le_refl _);have hsize:(ByteArray.mk ⟨s⟩).size=s.length:=rfl;refine Po.same hA (g:=.string ((ByteArray.mk ⟨s⟩).extract a.toNat b.toNat)) ?_ ?_
   ·simp only[Instr.sliceAt,Sem.run_bind,run_underlying hu,Result.andThen_ok,Instr.slice];simp[hsize,hrun]
   ·simp only[bQ,ro];rw[alc s _ _ aC aC]
  |sl o s rows=>exact gen _ hx h
  |int _ _=>exact gen _ hx h
  |bool _=>exact gen _ hx h
  |Zt=>exact gen _ hx h
 |nil _=>exact gen _ hx h
 |own _ _=>exact gen _ hx h
 |ptr _ _=>exact gen _ hx h
 |MC _ _ _ _=>exact gen _ hx h
 |IW _ _=>exact gen _ hx h
 |clo _ _ _=>exact gen _ hx h
 |agg _=>exact gen _ hx h
 |ZH _=>exact gen _ hx h
 |undef=>exact gen _ hx h
def auN(hA:At base U M0 w0 w m G){t:TypeId}{x:V}{gx:Value}{lo hi:Option V}{glo ghi:Option Value}(hx:bQ G.μ m (Gh U w G) x gx)(hlo:arO G.μ m (Gh U w G) lo glo)(hhi:arO G.μ m (Gh U w G) hi ghi)
  {v:V} {l l':Log} (h:(ani P t x lo hi).run m l=some (v,m',l')):Po base U M0 w0 w m G P (Instr.sliceAt t gx glo ghi none) v m':=by
 cases x with
 |IW row off=>
  simp only[ani] at h;replace h:=aF h;obtain⟨q,m1,l1,h1,h⟩:=h;obtain⟨ha,rfl,rfl⟩:=nV h1;obtain⟨n,e⟩:=q;simp only at h;replace h:=aF h;obtain⟨_,m1,l1,h1,h⟩:=h;obtain⟨hok,rfl,rfl⟩:=jE h1;replace h:=aF h;obtain⟨_,m1,l1,h1,h⟩:=h;obtain⟨hk,rfl,rfl⟩:=jE h1;simp only[PO,Nat.beq_eq] at hk;obtain⟨hsz,rfl,hlen⟩:=hk;cases lo<;>try exact aQ h
  cases hi<;>try exact aQ h
  simp only[run_pure,oL,uI] at h;obtain⟨rfl,rfl,_⟩:=h;simp only[arO] at hlo hhi;subst hlo hhi;simp only[bQ] at hx;obtain⟨b,o,rfl,hr⟩:=hx;have hu:=aoM ha;obtain⟨d',hd'⟩:=KZ hok;obtain⟨inf,RQ⟩:=G9 hd';have hrun:=VH (P:=P) (w:=w) (ad6:=false) (len:=n) (cap:=n) (lo:=none) (hi:=none) (a:=0) (b:=n) (.inl ⟨rfl,rfl⟩) (.inl ⟨rfl,rfl⟩) aC aC aC (Nat.le_refl _);refine Po.same hA (g:=.slice (some ⟨b,o,none⟩) n n) ?_ ?_
  ·simp only[Instr.sliceAt,Sem.run_bind,run_underlying hu,Result.andThen_ok,Instr.sureAddr,sizeOf,typeInfo];simp only[Sem.run_pure,Result.andThen_ok];rw[hrun];simp[RQ,YA]
  ·simp only[bQ,ro];refine⟨_,n,by simp[hlen],by simp[hlen],λ_=>⟨b,o,rfl,aiU row b o hr⟩⟩
 |_=>exact auM hA hx hlo hhi h
def YH{H:Heap}{h:View}{fl:Bool}{s:Nat}:∀{rows:List Row} {cs:List Value} {N:List Nat} (n:Nat),NJ H h fl s rows cs N->∃N' N2,N=N'++N2/\NJ H h fl s (rows.take n) cs N'
 |rows,cs,N,0,q=>⟨[],N,by simp,by cases fl<;>simp[NJ,lQ,jO]⟩
 |[],cs,N,n+1,q=>⟨N,[],by simp,by simpa using q⟩
 |r::rs,cs,N,n+1,q=>by
  cases fl with
  |true=>simp only[NJ,lQ] at q;obtain⟨⟨q1,q2,q3⟩,rfl⟩:=q;obtain⟨N',N2,e,k⟩:=YH (H:=H) (fl:=true) n (show NJ H h true s rs (cs.drop s) [] from⟨q3,rfl⟩);obtain⟨rfl,rfl⟩:=List.append_eq_nil_iff.1 e.symm;exact⟨[],[],rfl,⟨⟨q1,q2,k.1⟩,rfl⟩⟩
  |false=>simp only[NJ,jO] at q;obtain⟨q1,N1,N3,rfl,q2,q3⟩:=q;obtain⟨N',N2,rfl,k⟩:=YH (fl:=false) n (show NJ H h false s rs (cs.drop s) N3 from q3);refine⟨N1++N',N2,by simp, ?_⟩;simp only[NJ,List.take_succ_cons,jO];exact⟨q1,N1,N',rfl,q2,k⟩
def auO(hA:At base U M0 w0 w m G){t:TypeId}{x:V}{gx:Value}{hi:Option V}{ghi:Option Value}(hx:bQ G.μ m (Gh U w G) x gx)(hhi:arO G.μ m (Gh U w G) hi ghi)
  {v:V} {l l':Log} (h:(arD P t x hi).run m l=some (v,m',l')):Po base U M0 w0 w m G P (Instr.sliceAt t gx none ghi none) v m':=by
 simp only[arD] at h;replace h:=aF h;obtain⟨e,m1,l1,h1,h⟩:=h;obtain⟨he,rfl,rfl⟩:=nV h1;have hu:=ZT he;replace h:=aF h;obtain⟨_,m2,l2,h2,h⟩:=h;obtain⟨hok,rfl,rfl⟩:=jE h2;obtain⟨d',hd'⟩:=KZ hok;obtain⟨inf,RQ⟩:=G9 hd';have hsz:=RP RQ;cases x<;>try exact aQ h
 rename_i r ver;simp only at h;replace h:=aF h;obtain⟨c,m3,l3,h3,h⟩:=h;rw[Gs] at h3;cases h3;cases hc:get r m2 with
 |none=>rw[hc] at h;exact aQ h
 |some c=>
 rw[hc] at h;cases c with
 |box _ _=>exact aQ h
 |dead=>exact aQ h
 |arr fz fl wZ s rows=>
 cases fz with
 |true=>exact aQ h
 |false=>
 simp only at h;replace h:=aF h;obtain⟨_,m3,l3,h3,h⟩:=h;obtain⟨hb,rfl,rfl⟩:=jE h3;have hb:=MB hb;subst hb;replace h:=aF h;obtain⟨_,m4,l4,h4,h⟩:=h;obtain⟨hs,rfl,rfl⟩:=jE h4;have hs:=MB hs;subst hs;replace h:=aF h;obtain⟨k,m5,l5,h5,h⟩:=h;obtain⟨rfl,hb⟩:=ZY hhi h5;replace h:=aF h;obtain⟨_,m6,l6,h6,h⟩:=h;obtain⟨hk,rfl,rfl⟩:=jE h6;simp only[PO,decide_eq_true_eq] at hk;replace h:=aF h;obtain⟨_,m7,l7,h7,h⟩:=h;rw[UD] at h7;simp only[oL,uI] at h7;obtain⟨_,rfl,_⟩:=h7;simp only[run_pure,oL,uI] at h;obtain⟨rfl,rfl,_⟩:=h;simp only[bQ,hc] at hx;have hx:=hx.2.2 trivial;subst hx;have hcell:=hA.ok.cell r _ hc (by rw[hA.out];simp);simp only[xB] at hcell;have aEO:¬ver=ver+1:=aC;have hlen:(rows.take k.toNat).length=k.toNat:=by rw[zlt];omega
 have fin:∀(g:Value) (N:List Nat),N.Nodup->(∀b,b∈N->b∈G.F r)->(∀h':View,(Gh U w G).le h'->ad5 (fZ w) h' fl (yF P e) (rows.take k.toNat) g N)->(Instr.sliceAt t (G.μ r) none ghi none).run P w=.ok g w->ad6 g->
   Po base U M0 w0 w m6 G P (Instr.sliceAt t (G.μ r) none ghi none) (.own r (ver+1)) (put r (.arr false fl (ver+1) (yF P e) (rows.take k.toNat)) m6):=by
  intro g N hN hNs YE hrun hone;refine⟨g,w,_,hrun,hA.ok.rewrite hA.out hA.fr (μ':=upM G.μ r g) (N:=N) hc (Keep.refl _ _) hN (λb hb=>⟨.inl (hNs b hb),(hA.ok.lt b (.inr ⟨r,hNs b hb⟩)).1⟩) (λj hj=>XK g hj) ⟨aC,rfl,λe=>absurd e aEO⟩ (λh' hv hml _=> ?_), ?_⟩
  ·simp only[xB,Vz];exact YE h' hv
  ·simp[bQ,nD,hone]
 rcases hcell with⟨rfl,hμ,hF⟩|⟨b,cap,cs,T,N',k1,k2,k3,k4,k5,k6⟩
 ·have hrun:=VH (P:=P) (w:=w) (ad6:=true) (len:=0) (cap:=0) (lo:=none) (hi:=ghi) (a:=0) (b:=k) (.inl ⟨rfl,rfl⟩) hb aC hk.1 hk.2 (Nat.le_refl _);have hk0:k.toNat=0:=by have:=hk.2;simp at this;omega
  refine fin (.slice none 0 0) [] (by simp) (by simp) (λh' hv=> .inl ⟨by simp,rfl,rfl⟩) ?_ ⟨_,_,_,rfl⟩;rw[hμ];simp only[Instr.sliceAt,Sem.run_bind,run_underlying hu,Result.andThen_ok,Instr.slice,hrun,sizeOf,typeInfo];simp[RQ,hk0]
 ·have hrun:=VH (P:=P) (w:=w) (ad6:=true) (len:=rows.length) (cap:=cap) (lo:=none) (hi:=ghi) (a:=0) (b:=k) (.inl ⟨rfl,rfl⟩) hb aC hk.1 hk.2 k2;have k5':NJ (fZ w) (Gh U w G) fl (yF P e) rows cs.toList N':=by
   cases fl with
   |true=>exact k5
   |false=>exact k5
  obtain⟨N1,N2,aHH,hq⟩:=YH k.toNat k5';have hnd:=hA.ok.nd r;rw[k6,aHH,<-zca] at hnd;refine fin (.slice (some ⟨b,0,none⟩) k.toNat cap) (b::N1) (List.nodup_append.1 hnd).1 (λj hj=> ?_) (λh' hv=> .inr ⟨b,cap,cs,T,N1,by rw[hlen],by rw[hlen];have:=hk.2;omega,k3,k4, ?_,rfl⟩) ?_ ⟨_,_,_,rfl⟩
  ·rw[k6,aHH,<-zca];exact List.mem_append_left _ hj
  ·have:=O5 hv (λ_ _=>rfl) hq;cases fl with
   |true=>exact this
   |false=>exact this
  ·rw[k1];simp only[Instr.sliceAt,Sem.run_bind,run_underlying hu,Result.andThen_ok,Instr.slice,hrun,sizeOf,typeInfo];simp[RQ,YA]
def aw6(hA:At base U M0 w0 w m G){t:TypeId}{x lo:V}{gx glo:Value}(hx:bQ G.μ m (Gh U w G) x gx)(hlo:bQ G.μ m (Gh U w G) lo glo)
  {v:V} {l l':Log} (h:(aDI P t x lo).run m l=some (v,m',l')):Po base U M0 w0 w m G P (Instr.sliceAt t gx (some glo) none none) v m':=aQ h
end
end Go.Vm
namespace Go.Vm
open Go
section
variable {base:Nat} {U:Nat->Prop} {M0:List Nat} {w0 w w':World} {m m':Mem} {G G':GS} {P:Program}
def gvD:D->Value
 | .int k n=> .int k n
 | .bool b=> .bool b
 | .str s=> .string ⟨⟨s⟩⟩
 |_=> .nilFunc
def aHI{h:View}{x:D}(hf:x.flat=true):ro h x (gvD x):=by
 cases x with
 |sl _ _ _=>simp[D.flat] at hf
 |_=>simp[gvD,ro]
def aBm{op:BinOp}{k:IntKind}{a b:Int}{v:V}{t:TypeId}(ho:shiftOp op=false)(h:awO op k a b=some v):∃x,v=.d x/\x.flat=true/\(binOp op t (.int k a) (.int k b)).run P w=.ok (gvD x) w:=by
 cases op
 case add=>cases h;exact⟨_,rfl,rfl,by simp[binOp,Op.intArith,gvD]⟩
 case sub=>cases h;exact⟨_,rfl,rfl,by simp[binOp,Op.intArith,gvD]⟩
 case mul=>cases h;exact⟨_,rfl,rfl,by simp[binOp,Op.intArith,gvD]⟩
 case and=>cases h;exact⟨_,rfl,rfl,by simp[binOp,Op.intBits,gvD]⟩
 case or=>cases h;exact⟨_,rfl,rfl,by simp[binOp,Op.intBits,gvD]⟩
 case xor=>cases h;exact⟨_,rfl,rfl,by simp[binOp,Op.intBits,gvD]⟩
 case eql=>cases h;exact⟨_,rfl,rfl,by simp[binOp,Op.intCmp,gvD]⟩
 case neq=>cases h;exact⟨_,rfl,rfl,by simp[binOp,Op.intCmp,gvD]⟩
 case lss=>cases h;exact⟨_,rfl,rfl,by simp[binOp,Op.intCmp,gvD]⟩
 case leq=>cases h;exact⟨_,rfl,rfl,by simp[binOp,Op.intCmp,gvD]⟩
 case gtr=>cases h;exact⟨_,rfl,rfl,by simp[binOp,Op.intCmp,gvD]⟩
 case geq=>cases h;exact⟨_,rfl,rfl,by simp[binOp,Op.intCmp,gvD]⟩
 case quo=>
  simp only[awO] at h
  by_cases hb:b=0
  ·simp[hb] at h
  ·simp only[hb,decide_false,aX,oL] at h;subst h;exact⟨_,rfl,rfl,by simp[binOp,Op.intDiv,hb,gvD]⟩
 case rem=>
  simp only[awO] at h
  by_cases hb:b=0
  ·simp[hb] at h
  ·simp only[hb,decide_false,aX,oL] at h;subst h;exact⟨_,rfl,rfl,by simp[binOp,Op.intDiv,hb,gvD]⟩
 all_goals first|(cases ho;done)|(cases h;done)
def aoO{op:BinOp}{k k':IntKind}{a b:Int}{v:V}{t:TypeId}(h:aeU op k a b=some v):∃x,v=.d x/\x.flat=true/\(binOp op t (.int k a) (.int k' b)).run P w=.ok (gvD x) w:=by
 unfold aeU at h
 by_cases hb:b<0
 ·simp[hb] at h
 ·simp only[hb,decide_false,aX] at h;cases op<;>simp only at h<;>first|(cases h;done)|skip
  all_goals
   cases h;exact⟨_,rfl,rfl,by simp[binOp,Op.shift,hb,gvD]⟩
def toList_mk(s:List UInt8):(ByteArray.mk ⟨s⟩).toList=s:=by rw[ByteArray.toList_eq]
def auP(a b:List UInt8):ByteArray.mk ⟨a⟩++ByteArray.mk ⟨b⟩=⟨⟨a++b⟩⟩:=by
 have:(ByteArray.mk ⟨a⟩++ByteArray.mk ⟨b⟩).data=⟨a++b⟩:=by rw[ByteArray.data_append];simp
 exact congrArg ByteArray.mk this
def aBn{op:BinOp}{a b:List UInt8}{v:V}{t:TypeId}{l l':Log}(h:(aEH op a b).run m l=some (v,m',l')):
  m'=m/\∃x,v=.d x/\x.flat=true/\(binOp op t (.string ⟨⟨a⟩⟩) (.string ⟨⟨b⟩⟩)).run P w=.ok (gvD x) w:=by
 cases op<;>simp only[aEH] at h<;>try exact aQ h
 case add=>
  cases hc:Nat.ble (a.length+b.length) aru with
  |false=>rw[hc] at h;simp[Acc.run] at h
  |true=>
   rw[hc] at h;change some (_,_,_)=_ at h;simp only[oL,uI] at h;obtain⟨rfl,rfl,_⟩:=h;have hc:=Nat.le_of_ble_eq_true hc;have hm:IntKind.i64.max=(aru:Int):=by decide
   have hn:¬((((ByteArray.mk ⟨a⟩).size+(ByteArray.mk ⟨b⟩).size:Nat):Int)>IntKind.i64.max):=by rw[hm];have h1:(ByteArray.mk ⟨a⟩).size=a.length:=rfl;have h2:(ByteArray.mk ⟨b⟩).size=b.length:=rfl;rw[h1,h2];omega
   refine⟨rfl,_,rfl,rfl, ?_⟩;simp only[binOp,Op.stringOp,if_neg hn,Sem.run_pure,auP,gvD]
 all_goals
  change some (_,_,_)=_ at h;simp only[oL,uI] at h;obtain⟨rfl,rfl,_⟩:=h;refine⟨rfl,_,rfl,rfl, ?_⟩;simp[binOp,Op.stringOp,toList_mk,gvD]
def arP{t:TypeId}(h:boolT P t=true):P.underlying t=some .bool:=by
 unfold boolT at h;cases hd:P.underlying t with
 |none=>simp[hd] at h
 |some d=>rw[hd] at h;cases d<;>simp at h;rfl
def ahq{op:BinOp}{t:TypeId}{ox oy:Operand}{a b:Value}(h:∀c,a≠.agg c)(hn:a≠.nilIface):(eqGuard op t ox oy a b).run P w=.ok () w:=by
 unfold eqGuard;cases op<;>simp
 all_goals cases a<;>first|exact absurd rfl (h _)|exact absurd rfl hn|simp
def ald{t:TypeId}(h:P.underlying t=some .bool)(a b:Bool):(Op.equalIn Op.maxDepth t (.bool a) (.bool b)).run P w=.ok (a==b) w:=by
 have:∀d,(Op.equalIn (d+1) t (.bool a) (.bool b)).run P w=.ok (a==b) w:=by intro d;simp[Op.equalIn,run_underlying h]
 exact this 9999
def aEQ(hA:At base U M0 w0 w m G){op:BinOp}{t:TypeId}{ox oy:Operand}{x y:V}{gx gy:Value}(hx:bQ G.μ m (Gh U w G) x gx)(hy:bQ G.μ m (Gh U w G) y gy){v:V}{l l':Log}(h:(bin (boolT P t) op x y).run m l=some (v,m',l')):
  Po base U M0 w0 w m G P (do eqGuard op t ox oy gx gy;binOp op t gx gy) v m':=by
 have close:∀{x:D},(∀c,gx≠.agg c)->gx≠.nilIface->x.flat=true->(binOp op t gx gy).run P w=.ok (gvD x) w->Po base U M0 w0 w m G P (do eqGuard op t ox oy gx gy;binOp op t gx gy) (.d x) m:=by intro x h1 h2 hq hr;refine Po.same hA (g:=gvD x) ?_ (by simp only[bQ];exact aHI hq);simp only[Sem.run_bind,ahq h1 h2,Result.andThen_ok,hr]
 unfold bin at h;split at h
 ·simp only[bQ,ro] at hx hy;subst hx hy;split at h
  ·rename_i ho;cases hb:aeU op _ _ _ with
   |none=>rw[hb] at h;simp[Acc.run] at h
   |some r=>rw[hb] at h;change some (_,_,_)=_ at h;simp only[oL,uI] at h;obtain⟨rfl,rfl,_⟩:=h;obtain⟨x,rfl,hq,hr⟩:=aoO (P:=P) (w:=w) (t:=t) hb;exact close (by simp) (by simp) hq hr
  ·rename_i ho;split at h
   ·rename_i hk;have hk:=of_decide_eq_true hk;subst hk;cases hb:awO op _ _ _ with
    |none=>rw[hb] at h;simp[Acc.run] at h
    |some r=>rw[hb] at h;change some (_,_,_)=_ at h;simp only[oL,uI] at h;obtain⟨rfl,rfl,_⟩:=h;obtain⟨x,rfl,hq,hr⟩:=aBm (P:=P) (w:=w) (t:=t) ho hb;exact close (by simp) (by simp) hq hr
   ·exact aQ h
 ·simp only[bQ,ro] at hx hy;subst hx hy;obtain⟨rfl,x,rfl,hq,hr⟩:=aBn (P:=P) (w:=w) (t:=t) h;exact close (by simp) (by simp) hq hr
 ·simp only[bQ,ro] at hx hy;subst hx hy;split at h
  ·rename_i hbt;have hbt:=arP hbt;cases op<;>simp only[aHu] at h<;>try(simp[Acc.run] at h;done)
   all_goals
    change some (_,_,_)=_ at h;simp only[oL,uI] at h;obtain⟨rfl,rfl,_⟩:=h;refine close (by simp) (by simp) rfl ?_;simp only[binOp,Op.equal,Sem.run_bind,ald hbt,Result.andThen_ok,Sem.run_pure,gvD]
  ·exact aQ h
 ·exact aQ h
def auQ{t:TypeId}{x y:V}{r:Bool}(hp:afX P t x=true)(h:arv x y=some r){μ:Nat->Value}{mm:Mem}{hh:View}{gx gy:Value}(hx:bQ μ mm hh x gx)(hy:bQ μ mm hh y gy)(d:Nat):
  (Op.equalIn (d+1) t gx gy).run P w=.ok r w/\(∃d,P.underlying t=some d)/\UA P t=false:=by
 unfold arv at h;split at h
 ·rename_i k a k' b;simp only[bQ,ro] at hx hy;subst hx hy;unfold afX at hp;split at hp<;>try cases hp
  all_goals rename_i hu he
  all_goals try cases he
  cases hk:decide (k=k') with
  |false=>rw[hk] at h;cases h
  |true=>rw[hk] at h;cases h;have:=of_decide_eq_true hk;subst this;exact⟨run_equalIn_int w d t k _ a b hu,⟨_,hu⟩,by simp[UA,hu]⟩
 ·rename_i a b;simp only[bQ,ro] at hx hy;subst hx hy;unfold afX at hp;split at hp<;>try cases hp
  all_goals rename_i hu he
  all_goals try cases he
  cases h;refine⟨?_,⟨_,hu⟩,by simp[UA,hu]⟩;have:=run_equalIn_string w d t ⟨⟨a⟩⟩ ⟨⟨b⟩⟩ hu;rw[ByteArray.toList_eq,ByteArray.toList_eq] at this;exact this
 ·rename_i a b;simp only[bQ,ro] at hx hy;subst hx hy;unfold afX at hp;split at hp<;>try cases hp
  all_goals rename_i hu he
  all_goals try cases he
  cases h;exact⟨run_equalIn_bool' w d t a b hu,⟨_,hu⟩,by simp[UA,hu]⟩
 ·cases h
def ajj{μ:Nat->Value}{mm:Mem}{hh:View}{xs ys:List V}{gx gy:Array Value}(hx:dX μ mm hh xs gx.toList)(hy:dX μ mm hh ys gy.toList)(d:Nat):∀{fs:List Field} {r:Bool},aiv P fs xs ys=some r->
  (Op.eqFields (d+1) gx gy fs).run P w=.ok r w
 |[],r,h=>by cases h;simp[Op.eqFields]
 |f::fs,r,h=>by
  rw[aiv] at h;split at h
  ·rename_i x y hxo hyo
   cases hc : (afX P f.type x && (f.name != "_")) with
   |false=>rw[hc] at h;cases h
   |true=>
    rw[hc,aJ] at h;rw[PO] at hc
    have hname : f.name ≠ "_" := by simpa using hc.2
    split at h
    ·rename_i a b ha hb;cases h;obtain⟨g1,e1,s1⟩:=abT hx hxo;obtain⟨g2,e2,s2⟩:=abT hy hyo;obtain⟨h1,⟨du,hu⟩,h2⟩:=auQ (w:=w) hc.1 ha s1 s2 d;have p1:(Go.part f.type gx f.offset).run P w=.ok g1 w:=by
      have e1':gx[f.offset]? =some g1:=by simpa using e1
      simp[Go.part,XQ hu,h2,e1']
     have p2:(Go.part f.type gy f.offset).run P w=.ok g2 w:=by
      have e2':gy[f.offset]? =some g2:=by simpa using e2
      simp[Go.part,XQ hu,h2,e2']
     rw[Op.eqFields,if_pos hname];simp only[Sem.run_bind,p1,p2,h1,Result.andThen_ok];cases a with
     |false=>simp
     |true=>simpa using ajj hx hy d hb
    ·cases h
  ·cases h
def aoP{t:TypeId}(h:sliceT P t=true):∃e,P.underlying t=some (.slice e):=by
 unfold sliceT at h;cases hd:P.underlying t with
 |none=>simp[hd] at h
 |some d=>rw[hd] at h;cases d<;>simp at h;exact⟨_,rfl⟩
def auR(hA:At base U M0 w0 w m G){x:V}{gx:Value}(hx:bQ G.μ m (Gh U w G) x gx){b:Bool}{l l':Log}(h:(arw x).run m l=some (b,m',l')):
  m'=m/\∃a n c,gx=.slice a n c/\b=a.isNone:=by
 have full:∀{o:Bool} {s:Nat} {rows:List Row} {g:Value} {h:View},ro h (.sl o s rows) g->1<=rows.length->∃a n c,g=.slice a n c/\false=a.isNone:=by intro o s rows g h hr hl;simp only[ro] at hr;obtain⟨a,cap,rfl,_,hs⟩:=hr;obtain⟨b,o,rfl,_⟩:=hs (by intro e;rw[e] at hl;simp at hl);exact⟨_,_,_,rfl,rfl⟩
 unfold arw at h;split at h
 ·simp only[run_pure,oL,uI] at h;obtain⟨rfl,rfl,_⟩:=h;simp only[bQ] at hx;exact⟨rfl,_,_,_,hx,rfl⟩
 ·replace h:=aF h;obtain⟨_,m2,l2,h2,h⟩:=h;obtain⟨hb,rfl,rfl⟩:=P5 h2;simp only[run_pure,oL,uI] at h;obtain⟨rfl,rfl,_⟩:=h;simp only[bQ] at hx;exact⟨rfl,full hx (Nat.le_of_ble_eq_true hb)⟩
 ·rename_i r ver;replace h:=aF h;obtain⟨c,m2,l2,h2,h⟩:=h;rw[Gs] at h2;cases h2;cases hc:get r m with
  |none=>rw[hc] at h;exact aQ h
  |some c=>
   rw[hc] at h;cases c with
   |arr fz fl wZ s rows=>simp only at h;replace h:=aF h;obtain⟨_,m2,l2,h2,h⟩:=h;obtain⟨hb,rfl,rfl⟩:=P5 h2;rw[PO] at hb;have hv:=MB hb.1;subst hv;simp only[run_pure,oL,uI] at h;obtain⟨rfl,rfl,_⟩:=h;have hro:=hA.ok.look hc (by rw[hA.out];simp) false;simp only[bQ,hc] at hx;rw[<-hx.2.2 trivial] at hro;exact⟨rfl,full hro (Nat.le_of_ble_eq_true hb.2)⟩
   |_=>exact aQ h
 ·exact aQ h
def afd{t e:TypeId}(h:P.underlying t=some (.slice e))(a:Option Addr)(n c:Nat):(Op.equal t (.slice a n c) (.slice none 0 0)).run P w=.ok a.isNone w:=by
 have:∀d,(Op.equalIn (d+1) t (.slice a n c) (.slice none 0 0)).run P w=.ok a.isNone w:=by intro d;cases a<;>simp[Op.equalIn,run_underlying h]
 exact this 9999
def auS(hA:At base U M0 w0 w m G){op:BinOp}{t:TypeId}{ox oy:Operand}{x:V}{gx:Value}(hx:bQ G.μ m (Gh U w G) x gx){v:V}{l l':Log}(h:(arx P t op x).run m l=some (v,m',l')):
  Po base U M0 w0 w m G P (do eqGuard op t ox oy gx (.slice none 0 0);binOp op t gx (.slice none 0 0)) v m':=by
 unfold arx at h;obtain⟨hb,h⟩:=bck h;obtain⟨e,he⟩:=aoP hb;replace h:=aF h;obtain⟨b,m2,l2,h2,h⟩:=h;obtain⟨rfl,a,n,c,rfl,rfl⟩:=auR hA hx h2;have hg:(eqGuard op t ox oy (.slice a n c) (.slice none 0 0)).run P w=.ok () w:=ahq (by simp) (by simp);cases op<;>try exact aQ h
 ·obtain⟨rfl,rfl,_⟩:=rpu h;refine Po.same hA (g:=.bool a.isNone) ?_ (by simp only[bQ,ro]);simp only[Sem.run_bind,hg,Result.andThen_ok,binOp,afd he,Sem.run_pure]
 ·obtain⟨rfl,rfl,_⟩:=rpu h;refine Po.same hA (g:=.bool !a.isNone) ?_ (by simp only[bQ,ro]);simp only[Sem.run_bind,hg,Result.andThen_ok,binOp,afd he,Sem.run_pure]
def aBo(hA:At base U M0 w0 w m G){op:BinOp}{t:TypeId}{ox oy:Operand}{x y:V}{gx gy:Value}(hx:bQ G.μ m (Gh U w G) x gx)(hy:bQ G.μ m (Gh U w G) y gy){v:V}{l l':Log}(h:(aEI P t op x y).run m l=some (v,m',l')):
  Po base U M0 w0 w m G P (do eqGuard op t ox oy gx gy;binOp op t gx gy) v m':=by
 unfold aEI at h;split at h
 ·rename_i cs;cases y with
  |agg ds=>
   simp only[aHv] at h;replace h:=aF h;obtain⟨_,m1,l1,h1,h⟩:=h;obtain⟨hg,rfl,rfl⟩:=jE h1;simp only[PO,Bool.not_eq_true'] at hg;replace h:=aF h;obtain⟨fs,m1,l1,h1,h⟩:=h;obtain⟨hf,rfl,rfl⟩:=nV h1;replace h:=aF h;obtain⟨r,m1,l1,h1,h⟩:=h;obtain⟨hr,rfl,rfl⟩:=nV h1;simp only[bQ] at hx hy;obtain⟨a,rfl,ha⟩:=hx;obtain⟨b,rfl,hb⟩:=hy;have hst:P.underlying t=some (.struct (P.fieldsOf t))/\fs=(P.fieldsOf t).toList:=by
    unfold Program.fieldsOf;split at hf
    ·rename_i fs' hu;cases hf;rw[hu];exact⟨rfl,rfl⟩
    ·cases hf
   obtain⟨hu,rfl⟩:=hst;have he:=(run_equalIn_agg w 9999 t a b hu hg.1).trans (ajj ha hb 9998 hr);have hgd:=run_eqGuard_agg w op t ox oy a b hg.2;have fin:∀r':Bool,(binOp op t (.agg a) (.agg b)).run P w=.ok (.bool r') w->v=.d (.bool r')->m1=m'->Po base U M0 w0 w m1 G P (do eqGuard op t ox oy (.agg a) (.agg b);binOp op t (.agg a) (.agg b)) v m':=by intro r' e1 e2 e3;subst e2 e3;refine Po.same hA (g:=.bool r') ?_ (by simp only[bQ,ro]);simp only[Sem.run_bind,hgd,Result.andThen_ok,e1]
   cases op<;>try exact aQ h
   ·simp only[run_pure,oL,uI] at h;exact fin r (by rw[run_eql_struct,he];rfl) h.1.symm h.2.1
   ·simp only[run_pure,oL,uI] at h;exact fin (!r) (by rw[run_neq_struct,he];rfl) h.1.symm h.2.1
  |_=>exact aQ h
 ·split at h
  ·simp only[bQ] at hy;subst hy;exact auS hA hx h
  ·exact aEQ hA hx hy h
def aHJ(hA:At base U M0 w0 w m G){op:UnOp}{x:V}{gx:Value}(hx:bQ G.μ m (Gh U w G) x gx){v:V}{l l':Log}(h:(un op x).run m l=some (v,m',l')):
  Po base U M0 w0 w m G P (Op.unary op gx) v m':=by
 unfold un at h;split at h
 ·change some (_,_,_)=_ at h;simp only[oL,uI] at h;obtain⟨rfl,rfl,_⟩:=h;simp only[bQ,ro] at hx;subst hx;refine Po.same hA (g:=.int _ _) (by simp only[Op.unary,Op.intArith,Sem.run_pure];rfl) (by simp[bQ,ro])
 ·change some (_,_,_)=_ at h;simp only[oL,uI] at h;obtain⟨rfl,rfl,_⟩:=h;simp only[bQ,ro] at hx;subst hx;refine Po.same hA (g:=.bool _) (by simp only[Op.unary,Sem.run_pure];rfl) (by simp[bQ,ro])
 ·exact aQ h
def aw7(hA:At base U M0 w0 w m G){c x y:V}{gc gx gy:Value}(hc:bQ G.μ m (Gh U w G) c gc)(hx:bQ G.μ m (Gh U w G) x gx)(hy:bQ G.μ m (Gh U w G) y gy){v:V}{l l':Log}(h:(awP c x y).run m l=some (v,m',l')):
  Po base U M0 w0 w m G P (do pure (if<-Go.asBool gc then gx else gy)) v m':=by
 unfold awP at h;split at h
 ·rename_i c;simp only[bQ,ro] at hc;subst hc;split at h
  ·rename_i a b;change some (_,_,_)=_ at h;simp only[oL,uI] at h;obtain⟨rfl,rfl,_⟩:=h;simp only[bQ,ro] at hx hy;subst hx hy;refine Po.same hA (g:=.bool (bif c then a else b)) ?_ (by simp[bQ,ro]);cases c<;>simp[Go.asBool]
  ·split at h
   ·change some (_,_,_)=_ at h;simp only[oL,uI] at h;obtain⟨rfl,rfl,_⟩:=h;exact Po.same hA (g:=gx) (by simp[Go.asBool]) hx
   ·change some (_,_,_)=_ at h;simp only[oL,uI] at h;obtain⟨rfl,rfl,_⟩:=h;exact Po.same hA (g:=gy) (by simp[Go.asBool]) hy
 ·exact aQ h
end
end Go.Vm
namespace Go.Vm
open Go
section
variable {base:Nat} {U:Nat->Prop} {M0:List Nat} {w0 w w':World} {m m':Mem} {G G':GS} {P:Program}
def aoQ(hA:At base U M0 w0 w m G){src dst:TypeId}{x:V}{gx:Value}(hx:bQ G.μ m (Gh U w G) x gx){v:V}{l l':Log}(h:(aiP P src dst x).run m l=some (v,m',l')):
  Po base U M0 w0 w m G P (convert src dst gx) v m':=by
 unfold aiP at h;split at h
 next hs hd=>
  split at h
  ·change some (_,_,_)=_ at h;simp only[oL,uI] at h;obtain⟨rfl,rfl,_⟩:=h;simp only[bQ,ro] at hx;subst hx;refine Po.same hA (g:=.int _ _) ?_ (by simp only[bQ,ro];rfl);simp[convert,run_underlying hs,run_underlying hd,Conv.intToInt]
  ·exact aQ h
 next=>exact aQ h
def aw8{μ:Nat->Value}{h:View}{vs:List V}{a:Array Value}{i:Nat}{v:V}(q:dX μ m h vs a.toList)(hi:vs[i]? =some v):∃x,a[i]? =some x/\bQ μ m h v x:=by obtain⟨x,h1,h2⟩:=abT q hi;exact⟨x,by simpa using h1,h2⟩
end
end Go.Vm
namespace Go.Vm
open Go
def af7(gs:List Value):Value:=match gs with
 |[g]=>g
 |gs=> .tuple gs.toArray
def atn:List Cell->List Cell->Prop
 |[],cs=>cs=[]
 |c::cs,ds=>∃d ds',ds=d::ds'/\sameKind c d/\atn cs ds'
def ajk{a b c:Cell}(h:sameKind a b)(k:sameKind b c):sameKind a c:=by
 cases a<;>cases b<;>cases c<;>simp only[sameKind] at h k|-
 ·exact h.trans k
 ·exact⟨h.1,k.2.1,h.2.2.1.trans k.2.2.1,h.2.2.2.trans k.2.2.2⟩
def ahr{m:Mem}:∀{rs:List Nat} {cs ds:List Cell},kinds m rs cs->atn cs ds->kinds m rs ds
 |[],cs,ds,h,k=>by simp only[kinds] at h;subst h;exact k
 |r::rs,cs,ds,h,k=>by obtain⟨c,c',cs',rfl,h1,h2,h3⟩:=h;obtain⟨d,ds',rfl,k1,k2⟩:=k;exact⟨c,d,ds',rfl,h1,ajk h2 k1,ahr h3 k2⟩
structure Given(X:Ctx)(base:Nat)(U:Nat->Prop)(w:World)(f:FuncId)(args:List V)(cells:List Cell)(gargs mV:List Value)(N1 N2:List Nat):Prop where
 nd:(N1++N2).Nodup
 lt:∀b,b∈N1++N2->b<w.heap.size/\base<=b/\U b
 up:∀b,w.heap.size<=b->U b
 bs:base<=w.heap.size
 args:VA X.U8 f (impμ mV) (y7 0 cells) (fZ w) (view w U (· ∈N1++N2)) 0 args gargs N1
 cells:cellsB (fZ w) (view w U (· ∈N1++N2)) cells mV N2
 gl:aiT X (view w U (· ∈N1++N2))
structure Did(P:Program)(U:Nat->Prop)(w w':World)(N:List Nat)(ts:List TypeId)(cells outs:List Cell)(mV:List Value)(rows:List Row)(gs:List Value)(M1 M2:List Nat):Prop where
 keep:Keep N w w'
 nd:(M1++M2).Nodup
 mem:∀b,b∈M1++M2->(b∈N\/w.heap.size<=b)/\b<w'.heap.size
 kd:atn cells outs
 cells:cellsB (fZ w') (view w' U (· ∈M1++M2)) outs mV M1
 res:XP P (fZ w') (view w' U (· ∈M1++M2)) ts rows gs M2
def Sound(X:Ctx)(K:nC):Prop:=∀(f:FuncId) (fn:Func) (args:List V) (cells:List Cell) (rows:List Row) (outs:List Cell),X.P.funcs[f]? =some fn->fn.body.isSome=true->K f args cells=some (rows,outs)->
 ∀(base:Nat) (U:Nat->Prop) (w:World) (gargs mV:List Value) (N1 N2:List Nat),Given X base U w f args cells gargs mV N1 N2->
  Calls X.P f gargs.toArray w λe w'=>∃gs M1 M2,e=.returned (af7 gs)/\Did X.P U w w' (N1++N2) fn.resultTypes.toList cells outs mV rows gs M1 M2
section
variable {base:Nat} {U:Nat->Prop} {M0:List Nat} {w0 w w':World} {m m':Mem} {G G':GS} {X:Ctx}
def KW.outs(hg:KW base U w m G){out:List Nat}(h:∀r,r∈G.out↔r∈out):KW base U w m {G with out:=out}:=
 ⟨λr c hc ho=>hg.cell r c hc (λhx=>ho ((h r).1 hx)),hg.dj,hg.djE,hg.nd,hg.ndE,hg.lt,hg.up,hg.bs,hg.none_,λr hr=>hg.out_ r ((h r).2 hr)⟩
def At.first(hA:At base U M0 w0 w m G):(view w0 U (· ∈M0)).le (Gh U w G):=by
 intro b o v hv;obtain⟨h1,h2,h3⟩:=af0 hv;have hb:b<w0.heap.size:=by
  simp only[World.cell?] at h3;cases ho:w0.heap[b]? with
  |none=>simp[ho] at h3
  |some x=>exact(Array.getElem?_eq_some_iff.1 ho).1
 have hk:=hA.fr.keep.block b hb h2;refine aiw h1 (λhx=> ?_) ?_
 ·rcases hA.fr.fr b hx with h|h
  ·exact h2 h
  ·omega
 ·simp only[World.cell?] at h3|-;rw[hk];exact h3
structure aeg(X:Ctx)(K:nC)(U:Nat->Prop)(M0:List Nat)(w0:World):Prop where
 sound:Sound X K
 gl:aiT X (view w0 U (· ∈M0))
def aw9{K:nC}(hKG:aeg X K U M0 w0)(hA:At base U M0 w0 w m G){fn dst f:Nat}{args:List V}{gargs:List Value}(hs:dX G.μ m (Gh U w G) args gargs){v:V}{l l':Log}(h:(aeX X K fn dst f args).run m l=some (v,m',l')):
  (callFunc f gargs.toArray).run X.P w=.ok (.enter f gargs.toArray) w/\
  Calls X.P f gargs.toArray w λe w'=>∃g G',e=.returned g/\Nx base U M0 w0 w m G w' m' G'/\bQ G'.μ m' (Gh U w' G') v g:=by
 have hK:=hKG.sound;simp only[aeX] at h;obtain⟨g,hf,h⟩:=bop h;obtain⟨hbody,h⟩:=bck h;simp only[PO,Bool.not_eq_true'] at hbody;have hnone:g.body≠none:=by intro hb;simp[hb] at hbody
 have hnm : g.name ≠ "runtime.NumGoroutine" := by
  intro he;simp[he] at hbody
 refine⟨by simp[callFunc,hf,hnm,hnone], ?_⟩;generalize himp:U9 X.U8 f 0 [] args=imp at h;have hnd:imp.Nodup:=by rw[<-himp];exact acu _ _ _ _ _ (by simp)
 replace h:=aF h;obtain⟨args1,m1,l1,h1,h⟩:=h;obtain⟨G1,N1,t1,q1⟩:=aha hA.ok hs hA.out h1;have hout1:G1.out=[]:=t1.out.trans hA.out;have hE1:G1.E=N1:=by rw[t1.E,hA.E];rfl
 replace h:=aF h;obtain⟨cells,m2,l2,h2,h⟩:=h;obtain⟨G2,N2,t2,q2,kd2⟩:=afZ t1.ok hnd (λr hr=>⟨hr,by rw[hout1];simp⟩) (λr hr=>by rw[hout1] at hr;simp at hr) h2;have hout2:∀r,r∈G2.out↔r∈imp:=λr=>by rw[t2.out,hout1];simp
 have hE2:G2.E=N1++N2:=by rw[t2.E,hE1]
 have hkd:kinds m2 imp cells:=ae2 (λr hr=>t2.here r hr) kd2;have hq1:=XO (A:=X.U8) (f:=f) t2.le.mem t2.le.view (H':=fZ w) (λ_ _=>rfl) q1;replace h:=aF h;obtain⟨⟨args2,Ud⟩,m3,l3,h3,h⟩:=h;have C:ati base U w m2 G2 imp cells:=⟨t2.ok,hout2,hkd⟩
 obtain⟨rfl,hq2⟩:=ahb C hq1 h3;have hq2:=hq2 Ud (λ_ hr=>hr);simp only at h;replace h:=aF h;obtain⟨_,m4,l4,h4,h⟩:=h;obtain⟨ato,rfl,rfl⟩:=jE h4;have ato:∀r,r∈Ud->r ∉ imp:=λr hr=>XM (List.all_eq_true.1 ato r hr)
 replace h:=aF h;obtain⟨⟨rows,outs⟩,m4,l4,h4,h⟩:=h;obtain⟨hKr,rfl,rfl⟩:=nV h4;simp only at h;obtain⟨hlen,h⟩:=bck h;have aER:Given X base (ae3 U G2 Ud) w f args2 cells gargs (imp.map G2.μ) N1 N2:=by
  refine⟨by rw[<-hE2];exact t2.ok.ndE, ?_, ?_,t2.ok.bs,by rw[<-hE2];exact hq2, ?_,by rw[<-hE2];exact RJ Yz (RJ t2.le.view (RJ t1.le.view (RJ hA.first hKG.gl)))⟩
  ·intro b hb;rw[<-hE2] at hb;have:=t2.ok.lt b (.inl hb);exact⟨this.1,this.2.1,this.2.2,λr hr=>absurd hb (t2.ok.djE r b hr)⟩
  ·intro b hb;exact⟨t2.ok.up b hb,λr hr=>by have:=(t2.ok.lt b (.inr ⟨r,hr⟩)).1;omega⟩
  ·rw[<-hE2,t2.μ];exact Uf Yz q2
 refine Calls.mono (hK f g args2 cells rows outs hf hbody.1 hKr base _ w gargs _ N1 N2 aER) ?_;rintro e w' ⟨gs,M1,M2,rfl,D⟩;have hkeep:Keep G2.E w w':=by rw[hE2];exact D.keep
 obtain⟨k3,v3⟩:=t2.ok.world hkeep (E':=M1++M2) D.nd (λb hb=>by rw[hE2];exact D.mem b hb);generalize aDN:(!(Ud.isEmpty) &&(abQ X.P (X.U8.att fn dst) 0 g.resultTypes.toList && imp.isEmpty))=need at h;obtain⟨hpure,h⟩:=bck h;replace h:=aF h;obtain⟨_,m4,l4,h4,h⟩:=h;have hL:∀r,r∈(bif need then[] else Ud)->r∈Ud:=by
  intro r hr;cases need with
  |true=>simp at hr
  |false=>exact hr
 obtain⟨F',k4,le4,f1,f2,f3⟩:=alS k3 (λr hr=>by show r ∉ G2.out;rw[hout2];exact ato r (hL r hr)) h4;replace h:=aF h;obtain⟨_,m5,l5,h5,h⟩:=h;have k4':=k4.outs (out:=imp) hout2;have aRV:kinds m4 imp (outs.drop 0):=by rw[List.drop_zero];exact ae2 (λr hr=>f3 r (λhx=>ato r (hL r hx) hr)) (ahr hkd D.kd)
 have aDO:need=false->(view w' (ae3 U G2 Ud) (· ∈M1++M2)).le (Gh U w' ⟨G2.μ,F',M1++M2,imp⟩):=by
  intro hn b o x hx;obtain⟨p1,p2,p3⟩:=af0 hx;refine aiw p1.1 ?_ p3;rintro(hb|⟨r,hb⟩)
  ·exact p2 hb
  ·have hb:b∈F' r:=hb;rcases f2 r with hr|hr
   ·rw[hr] at hb;simp at hb
   ·have:b∈G2.F r:=by rw[hr] at hb;exact hb
    have hrl:=p1.2 r this;have:=f1 r (by rw[hn];exact hrl);rw[this] at hb;simp at hb
 have hcells:cellsB (fZ w') (Gh U w' ⟨G2.μ,F',M1++M2,imp⟩) (outs.drop 0) (imp.map G2.μ) M1:=by
  rw[List.drop_zero];cases need with
  |false=>exact Uf (aDO rfl) D.cells
  |true=>
   simp only[PO,List.isEmpty_iff] at aDN;have aHK:=aDN.2.2;subst aHK;have hc0:cells=[]:=by simpa[kinds] using hkd
   subst hc0;have ho0:outs=[]:=D.kd;subst ho0;exact D.cells
 have hres:XP X.P (fZ w') (Gh U w' ⟨G2.μ,F',M1++M2,imp⟩) g.resultTypes.toList rows gs M2:=by
  cases need with
  |false=>exact VB (aDO rfl) (λ_ _=>rfl) D.res
  |true=>exact ai7 hpure D.res
 obtain⟨G5,c5⟩:=ai9 k4' hnd rfl aRV (N:=M1) (E:=M2) (List.Perm.refl _) hcells h5;replace h:=aF h;obtain⟨vs,m6,l6,h6,h⟩:=h;obtain⟨G6,c6,s6⟩:=alV (ri:=0) c5.ok (λr hr=>by rw[c5.out] at hr;simp at hr) (N:=M2) (E:=[]) (by rw[c5.E];simp) (by rw[List.drop_zero];exact VB c5.le.view (λ_ _=>rfl) hres) h6;have hm6:m'=m6/\bQ G6.μ m6 (Gh U w' G6) v (af7 gs):=by
  have aDP:=nG s6;split at h
  ·obtain⟨rfl,rfl,_⟩:=rpu h;obtain⟨g0,gs0,rfl,q1,q2⟩:=xC s6;simp only[dX] at q2;subst q2;exact⟨rfl,q1⟩
  ·rename_i hne;obtain⟨rfl,rfl,_⟩:=rpu h;refine⟨rfl, ?_⟩;unfold af7;split
   ·rename_i g0;cases vs with
    |nil=>simp at aDP
    |cons v0 vs=>
     cases vs with
     |nil=>exact absurd rfl (hne v0)
     |cons _ _=>simp at aDP
   ·simp only[bQ];exact⟨_,rfl,by simpa using s6⟩
 obtain⟨rfl,YE⟩:=hm6;have aRW:∀b,excl G2.F G2.E b->excl G.F G.E b:=λb hb=>t1.le.ex b (t2.le.ex b hb)
 have hold:∀b,excl G2.F G2.E b->b∈M0\/w0.heap.size<=b:=λb hb=>hA.fr.fr b (aRW b hb)
 refine⟨af7 gs,G6,rfl,⟨c6.ok,c6.E,c6.out.trans c5.out, ?_, ?_, ?_, ?_⟩,YE⟩
 ·have a1:=Ad t1.le.mem t2.le.mem;have a2:=Ad a1 le4.mem;exact Ad (Ad a2 c5.le.mem) c6.le.mem
 ·exact(((t1.le.view.trans' t2.le.view).trans' v3).trans' le4.view).trans' (c5.le.view.trans' c6.le.view)
 ·exact hA.fr.keep.trans hkeep (λx hx=>hold x (.inl hx))
 ·intro b hb;have hb:=c5.le.ex b (c6.le.ex b hb);rcases hb with hb|⟨r,hb⟩
  ·rcases(D.mem b hb).1 with h'|h'
   ·exact hold b (.inl (by rw[hE2];exact h'))
   ·exact .inr (Nat.le_trans hA.fr.keep.size h')
  ·have hb:b∈F' r:=hb;rcases f2 r with hr|hr
   ·have:F' r=[]:=hr;rw[this] at hb;simp at hb
   ·exact hold b (.inr ⟨r,by have:F' r=G2.F r:=hr;rw[<-this];exact hb⟩)
end
end Go.Vm
