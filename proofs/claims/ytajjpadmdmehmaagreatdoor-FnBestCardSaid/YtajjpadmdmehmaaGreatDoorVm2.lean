import Derived.Test.YtajjpadmdmehmaaGreatDoorVm1
import Derived.Great.BuildSlice
import Derived.Laws.StructEq
import Derived.Laws.Strings
import Derived.Laws.BytesString
set_option linter.defProp false
set_option linter.unusedVariables false
set_option linter.unusedSimpArgs false
namespace Go.Vm
open Go
structure Fr(M0:List Nat)(w0 w:World)(G:GS):Prop where
 keep:Keep M0 w0 w
 fr:∀b,excl G.F G.E b->b∈M0\/w0.heap.size<=b
structure Nx(base:Nat)(U:Nat->Prop)(M0:List Nat)(w0 w:World)(m:Mem)(G:GS)(w':World)(m':Mem)(G':GS):Prop where
 ok:Iu base U w' m' G'
 E:G'.E=[]
 out:G'.out=[]
 mem:I9 G.μ m G'.μ m'
 view:(Gh U w G).le (Gh U w' G')
 fr:Fr M0 w0 w' G'
structure At(base:Nat)(U:Nat->Prop)(M0:List Nat)(w0 w:World)(m:Mem)(G:GS):Prop where
 ok:Iu base U w m G
 E:G.E=[]
 out:G.out=[]
 fr:Fr M0 w0 w G
def Uy{P:Program}{o:Oper}{a:Act}{w w':World}{K:Act->World->Prop}{Q:Exit->Act->World->Prop}{g:Value}(h:(execOp a.eval o).run P w=.ok (.value g) w')(hn:K (a.put o.dst g) w'):o.wp P a w K Q:=by unfold Oper.wp;rw[h];exact hn
def wp_skip{P:Program}{o:Oper}{a:Act}{w w':World}{K:Act->World->Prop}{Q:Exit->Act->World->Prop}(h:(execOp a.eval o).run P w=.ok .skip w')(hn:K (a.put o.dst undef) w'):o.wp P a w K Q:=by unfold Oper.wp;rw[h];exact hn
section
variable {base:Nat} {U:Nat->Prop} {M0:List Nat} {w0 w w':World} {m m':Mem} {G G':GS} {P:Program}
def At.nx(h:At base U M0 w0 w m G):Nx base U M0 w0 w m G w m G:=⟨h.ok,h.E,h.out,sH _ _,View.le_refl _,h.fr⟩
def Nx.at_(h:Nx base U M0 w0 w m G w' m' G'):At base U M0 w0 w' m' G':=⟨h.ok,h.E,h.out,h.fr⟩
def Nx.trans{w2:World}{m2:Mem}{G2:GS}(h:Nx base U M0 w0 w m G w' m' G')(k:Nx base U M0 w0 w' m' G' w2 m2 G2):Nx base U M0 w0 w m G w2 m2 G2:=
 ⟨k.ok,k.E,k.out,wL h.mem k.mem,h.view.trans' k.view,k.fr⟩
def Nx.aU(h:Nx base U M0 w0 w m G w' m' G'){v:V}{g:Value}(q:aU G.μ m (Gh U w G) v g):aU G'.μ m' (Gh U w' G') v g:=AQ h.mem h.view v g q
def Nx.dn(h:Nx base U M0 w0 w m G w' m' G'){v:List V}{g:List Value}(q:dn G.μ m (Gh U w G) v g):dn G'.μ m' (Gh U w' G') v g:=sJ h.mem h.view v g q
def Fr.less(h:Fr M0 w0 w G)(hx:∀b,excl G'.F G'.E b->excl G.F G.E b):Fr M0 w0 w G':=⟨h.keep,λb hb=>h.fr b (hx b hb)⟩
def At.still(h:At base U M0 w0 w m G)(hg:Iu base U w m' G')(hl:GLe m G m' G')(ho:G'.out=[]):
  Nx base U M0 w0 w m G w m' {G' with E:=[]}:=by
 obtain⟨k1,k2⟩:=hg.less [] (by simp) (by simp);have:=hl.trans k2;exact⟨k1,rfl,ho,this.mem,this.view,h.fr.less this.ex⟩
def Qa{μ:Nat->Value}{h:View}:∀{a b:List V} {g k:List Value},dn μ m h a g->dn μ m h b k->dn μ m h (a++b) (g++k)
 |[],b,g,k,ha,hb=>by simp only[dn] at ha;subst ha;simpa using hb
 |v::a,b,g,k,ha,hb=>by obtain⟨g0,g',rfl,h1,h2⟩:=oI ha;simp only[Yr,dn];exact⟨g0,g'++k,rfl,h1,Qa h2 hb⟩
def abV{μ:Nat->Value}{h:View}:∀{a:List V} {g:List Value} (n:Nat),dn μ m h a g->dn μ m h (a.drop n) (g.drop n)
 |a,g,0,ha=>by simpa using ha
 |[],g,n+1,ha=>by simp only[dn] at ha;subst ha;simp[dn]
 |v::a,g,n+1,ha=>by obtain⟨g0,g',rfl,h1,h2⟩:=oI ha;simpa using abV n h2
def abW{μ:Nat->Value}{h:View}:∀{a:List V} {g:List Value} (n:Nat),dn μ m h a g->dn μ m h (a.take n) (g.take n)
 |a,g,0,ha=>by simp[dn]
 |[],g,n+1,ha=>by simp only[dn] at ha;subst ha;simp[dn]
 |v::a,g,n+1,ha=>by obtain⟨g0,g',rfl,h1,h2⟩:=oI ha;simp only[List.take_succ_cons,dn];exact⟨g0,g'.take n,rfl,h1,abW n h2⟩
def ahO{μ:Nat->Value}{h:View}{a:List V}{g:List Value}(o n:Nat)(q:dn μ m h a g):dn μ m h (part a o n) ((g.drop o).take n):=abW n (abV o q)
def Yx{μ:Nat->Value}{h:View}{a b:List V}{g k:List Value}(o:Nat)(q:dn μ m h a g)(q':dn μ m h b k):dn μ m h (splice a o b) (splice g o k):=by have hl:k.length=b.length:=kT q';unfold splice;rw[hl];exact Qa (Qa (abW o q) q') (abV _ q)
def aln{μ:Nat->Value}{h:View}:∀{a:List V} {g:List Value} {i:Nat} {v:V},dn μ m h a g->a[i]? =some v->∃x,g[i]? =some x/\aU μ m h v x
 |[],g,i,v,ha,hi=>by simp at hi
 |v0::a,g,i,v,ha,hi=>by
  obtain⟨g0,g',rfl,h1,h2⟩:=oI ha;cases i with
  |zero=>simp at hi;subst hi;exact⟨g0,rfl,h1⟩
  |succ i=>simpa using aln h2 (by simpa using hi)
def aol{t:TypeId}{vs:List V}{v:V}(h:PY P t vs=some v){μ:Nat->Value}{hh:View}{cs:List Value}(hq:dn μ m hh vs cs):∃g,valOf P t cs g:=by
 unfold PY at h;unfold valOf;cases ha:Us P t with
 |true=>exact⟨_,by simp;rfl⟩
 |false=>
  simp only[ha,bn] at h;split at h
  ·obtain⟨g',gs',e,q1,q2⟩:=oI hq;simp only[dn] at q2;subst q2;exact⟨g',by simpa using e⟩
  ·cases h
def Xp{h:View}{x:D}{g:Value}(q:ro h x g):g.oneCell'=true:=by
 cases x with
 |sl o s rows=>simp only[ro] at q;obtain⟨a,cap,rfl,_⟩:=q;rfl
 |_=>simp only[ro] at q;subst q;rfl
def aA6{row:Row}{j:Nat}{x:D}(h:nth row j=x)(hx:x≠.VG):row[j]? =some x:=by
 unfold nth at h;cases hr:row[j]? with
 |none=>rw[hr] at h;exact absurd h.symm hx
 |some y=>rw[hr] at h;exact congrArg some h
def ava{s:Nat}{x:D}{rows:List Row}(h:aAW s x=some rows):∃o,x=.sl o s rows/\(o=false\/rows=[]):=by
 cases x<;>simp[aAW] at h;rename_i o s' rows'
 by_cases e:s'=s
 ·subst e;simp at h;cases o with
  |false=>simp at h;subst h;exact⟨false,rfl,.inl rfl⟩
  |true=>
   cases rows' with
   |nil=>simp at h;subst h;exact⟨true,rfl,.inr rfl⟩
   |cons _ _=>simp at h
 ·rw[wM e] at h;simp at h
def aed{strict:Bool}{row:Row}{μ:Nat->Value}{h:View}(cell:Nat->Option Value)(Rel:D->Value->Prop)(hrow:∀k x,row[k]? =some x->∃g,cell k=some g/\Rel x g)
  (hint:∀k n g,Rel (.int k n) g->g=.int k n) (aEu:∀b g,Rel (.bool b) g->g=.bool b) (hstr:∀s g,Rel (.str s) g->g=.string ⟨⟨s⟩⟩)
  (hsl:∀o s rs g,Rel (.sl o s rs) g->(strict=true->o=false\/rs=[])->ro h (.sl false s rs) g):
  ∀(cts:List CT) (j:Nat) (c:List V->Acc V) (m0:Mem) (l:Log) (r:V×Mem×Log),(RY strict cts row j c).run m0 l=some r->
   ∃vs cs,(c vs).run m0 l=some r/\cs.length=cts.length/\dn μ m h vs cs/\∀i g,cs[i]? =some g->cell (j+i)=some g
 |[],j,c,m0,l,r,hr=>⟨[],[],hr,rfl,by simp[dn],by simp⟩
 |ct::cts,j,c,m0,l,r,hr=>by
  have go:∀(x:D) (y:V),nth row j=x->x≠.VG->(∀g,Rel x g->aU μ m h y g)->(RY strict cts row (j+1) λvs=>c (y::vs)).run m0 l=some r->
    ∃vs cs,(c vs).run m0 l=some r/\cs.length=(ct::cts).length/\dn μ m h vs cs/\∀i g,cs[i]? =some g->cell (j+i)=some g:=by
   intro x y hx hxn hs hr;obtain⟨g,hg,hrel⟩:=hrow j x (aA6 hx hxn);obtain⟨vs,cs,h1,h2,h3,h4⟩:=aed cell Rel hrow hint aEu hstr hsl cts (j+1) _ m0 l r hr;refine⟨y::vs,g::cs,h1,by simp[h2],by simp only[dn];exact⟨g,cs,rfl,hs g hrel,h3⟩, ?_⟩;intro i g' hi;cases i with
   |zero=>simp at hi;subst hi;exact hg
   |succ i=>have:=h4 i g' (by simpa using hi);rw[show j+(i+1)=j+1+i from by omega];exact this
  cases ct with
  |int k=>
   simp only[RY,Acc.run,bK] at hr;cases ha:asInt k (nth row j) with
   |none=>simp[ha,Acc.run] at hr
   |some n=>simp only[ha,Acc.run] at hr;exact go _ _ (ahG ha) (by simp) (λg hg=>by rw[hint _ _ g hg];simp[aU,ro]) hr
  |bool=>
   simp only[RY,Acc.run,RU] at hr;cases ha:asBool (nth row j) with
   |none=>simp[ha,Acc.run] at hr
   |some n=>simp only[ha,Acc.run] at hr;exact go _ _ (afe ha) (by simp) (λg hg=>by rw[aEu _ g hg];simp[aU,ro]) hr
  |str=>
   simp only[RY,Acc.run,cStr] at hr;cases ha:ala (nth row j) with
   |none=>simp[ha,Acc.run] at hr
   |some n=>simp only[ha,Acc.run] at hr;exact go _ _ (ahH ha) (by simp) (λg hg=>by rw[hstr _ g hg];simp[aU,ro]) hr
  |other=>simp[RY,Acc.run] at hr
  |sl s=>
   simp only[RY,Acc.run,cRo,NK] at hr;cases strict with
   |true=>
    simp only[aK] at hr;cases ha:aAW s (nth row j) with
    |none=>simp[ha,Acc.run] at hr
    |some n=>simp only[ha,Acc.run] at hr;obtain⟨o,hx,ho⟩:=ava ha;exact go _ _ hx (by simp) (λg hg=>by simp only[aU];exact hsl _ _ _ g hg (λ_=>ho)) hr
   |false=>
    simp only[bn] at hr;cases ha:awK s (nth row j) with
    |none=>simp[ha,Acc.run] at hr
    |some n=>simp only[ha,Acc.run] at hr;obtain⟨o,hx⟩:=alh ha;exact go _ _ hx (by simp) (λg hg=>by simp only[aU];exact hsl _ _ _ g hg (λh=>by cases h)) hr
def aee{h:View}{b:Nat}:∀{r:Row} {o k:Nat} {x:D},yX h r b o->r[k]? =some x->∃g,h b (o+k)=some g/\ro h x g
 |[],_,_,_,_,hk=>by simp at hk
 |y::r,o,0,x,q,hk=>by simp only[yX] at q;simp at hk;subst hk;simpa using q.1
 |y::r,o,k+1,x,q,hk=>by
  simp only[yX] at q;have:=aee q.2 (by simpa using hk)
  rwa [show o+(k+1)=o+1+k from by omega]
def afj{h:View}:∀{r:Row} {cs:List Value} {k:Nat} {x:D},jq h r cs->r[k]? =some x->∃g,cs[k]? =some g/\ro h x g
 |[],_,_,_,_,hk=>by simp at hk
 |y::r,cs,0,x,⟨v,cs',e,h1,h2⟩,hk=>by simp at hk;subst hk;subst e;exact⟨v,rfl,h1⟩
 |y::r,cs,k+1,x,⟨v,cs',e,h1,h2⟩,hk=>by subst e;simpa using afj h2 (by simpa using hk)
def alo{H:Heap}{h:View}:∀{r:Row} {cs:List Value} {N:List Nat} {k:Nat} {x:D},jE H h r cs N->r[k]? =some x->∃g N1,cs[k]? =some g/\ow H h x g N1
 |[],_,_,_,_,_,hk=>by simp at hk
 |y::r,cs,N,0,x,q,hk=>by obtain⟨v,cs',N1,N2,rfl,rfl,h1,h2⟩:=Ph q;simp at hk;subst hk;exact⟨v,N1,rfl,h1⟩
 |y::r,cs,N,k+1,x,q,hk=>by obtain⟨v,cs',N1,N2,rfl,rfl,h1,h2⟩:=Ph q;simpa using alo h2 (by simpa using hk)
def Pj{h:View}{s b:Nat}:∀{rs:List Row} {o k:Nat} {r:Row},oV h s rs b o->rs[k]? =some r->r.length=s/\yX h r b (o+k * s)
 |[],_,_,_,_,hk=>by simp at hk
 |y::rs,o,0,x,q,hk=>by simp only[oV] at q;simp at hk;subst hk;simpa using⟨q.1,q.2.1⟩
 |y::rs,o,k+1,x,q,hk=>by
  simp only[oV] at q;have:=Pj q.2.2 (by simpa using hk)
  rwa [show o+(k+1) * s=o+s+k * s from by rw[Nat.add_mul];omega]
def acV{h:View}{s:Nat}:∀{rs:List Row} {cs:List Value} {k:Nat} {r:Row},jm h s rs cs->rs[k]? =some r->r.length=s/\jq h r (cs.drop (k * s))
 |[],_,_,_,_,hk=>by simp at hk
 |y::rs,cs,0,x,q,hk=>by simp at hk;subst hk;simpa using⟨q.1,q.2.1⟩
 |y::rs,cs,k+1,x,q,hk=>by
  have:=acV q.2.2 (by simpa using hk);rw[List.drop_drop] at this
  rwa [show(k+1) * s=s+k * s from by rw[Nat.add_mul];omega]
def ahP{H:Heap}{h:View}{s:Nat}:∀{rs:List Row} {cs:List Value} {N:List Nat} {k:Nat} {r:Row},iK H h s rs cs N->rs[k]? =some r->r.length=s/\∃N1,jE H h r (cs.drop (k * s)) N1
 |[],_,_,_,_,_,hk=>by simp at hk
 |y::rs,cs,N,0,x,q,hk=>by simp only[iK] at q;obtain⟨h1,N1,N2,rfl,h2,h3⟩:=q;simp at hk;subst hk;exact⟨h1,N1,by simpa using h2⟩
 |y::rs,cs,N,k+1,x,q,hk=>by
  simp only[iK] at q;obtain⟨h1,N1,N2,rfl,h2,h3⟩:=q;have:=ahP h3 (by simpa using hk);rw[List.drop_drop] at this
  rwa [show(k+1) * s=s+k * s from by rw[Nat.add_mul];omega]
def atM{h:View}{fz fl:Bool}{ver s:Nat}{rows:List Row}{r i:Nat}{row:Row}{N:List Nat}(hq:sG G.μ m (dU w) h r (.arr fz fl ver s rows) N)(hl:h.le (full w))(hi:rows[i]? =some row):
  ∃b o cap,G.μ r=.slice (some ⟨b,o,none⟩) rows.length cap/\(fz=false->o=0)/\row.length=s/\
   ∃Rel:D->Value->Prop,(∀k x,row[k]? =some x->∃g,full w b (o+i * s+k)=some g/\Rel x g)/\
   (∀k n g,Rel (.int k n) g->g=.int k n)/\(∀b g,Rel (.bool b) g->g=.bool b)/\(∀s g,Rel (.str s) g->g=.string ⟨⟨s⟩⟩)/\
   (∀o s rs g,Rel (.sl o s rs) g->(o=false\/rs=[])->ro h (.sl false s rs) g):=by
 have hne:rows≠[]:=by intro e;subst e;simp at hi
 cases fz with
 |true=>
  obtain⟨h1,_⟩:=hq;simp only[ro] at h1;obtain⟨a,cap,h2,h3,h4⟩:=h1;obtain⟨b,o,rfl,h5⟩:=h4 hne;obtain⟨h6,h7⟩:=Pj h5 hi;refine⟨b,o,cap,h2,by simp,h6,ro h,λk x hk=> ?_, ?_, ?_, ?_, ?_⟩
  ·obtain⟨g,hg1,hg2⟩:=aee h7 hk;exact⟨g,hl _ _ _ hg1,hg2⟩
  ·intro k n g hg;simpa[ro] using hg
  ·intro b g hg;simpa[ro] using hg
  ·intro s g hg;simpa[ro] using hg
  ·intro o s rs g hg _;exact abS hg
 |false=>
  simp only[sG] at hq;rcases hq with⟨rfl,_,_⟩|⟨b,cap,cs,t,N',h1,h2,h3,h4,h5,_⟩
  ·exact absurd rfl hne
  ·have hfull:∀k g,(cs.toList.drop (i * s))[k]? =some g->full w b (0+i * s+k)=some g:=by intro k g hg;rw[List.getElem?_drop] at hg;rw[full_cell h3,Nat.zero_add];exact hg
   cases fl with
   |true=>
    obtain⟨h6,h7⟩:=acV h5.1 hi;refine⟨b,0,cap,h1,by simp,h6,ro h,λk x hk=> ?_, ?_, ?_, ?_, ?_⟩
    ·obtain⟨g,hg1,hg2⟩:=afj h7 hk;exact⟨g,hfull k g hg1,hg2⟩
    ·intro k n g hg;simpa[ro] using hg
    ·intro b g hg;simpa[ro] using hg
    ·intro s g hg;simpa[ro] using hg
    ·intro o s rs g hg _;exact abS hg
   |false=>
    obtain⟨h6,N1,h7⟩:=ahP h5 hi;refine⟨b,0,cap,h1,by simp,h6,λx g=>∃N,ow (dU w) h x g N,λk x hk=> ?_, ?_, ?_, ?_, ?_⟩
    ·obtain⟨g,N2,hg1,hg2⟩:=alo h7 hk;exact⟨g,hfull k g hg1,N2,hg2⟩
    ·rintro k n g ⟨N,hg⟩;simp only[ow] at hg;exact hg.1
    ·rintro b g ⟨N,hg⟩;simp only[ow] at hg;exact hg.1
    ·rintro s g ⟨N,hg⟩;simp only[ow] at hg;exact hg.1
    ·rintro o s rs g ⟨N,hg⟩ ho;cases o with
     |false=>simp only[ow] at hg;exact hg.2
     |true=>
      rcases ho with ho|rfl
      ·cases ho
      ·simp only[ow] at hg;rcases hg with⟨_,rfl,_⟩|⟨b,cap,cs,t,N',e1,e2,_⟩
       ·simp[ro]
       ·simp only[ro];exact⟨_,cap,e1,by simp,λe=>absurd rfl e⟩
def aom{t:TypeId}{b:Nat}{x:Value}{v:V}(hok:I8 P t=true)(hc:(Nat.beq (qO P t) 1 && !(Us P t))=true)(hx:full w b 0=some x)(hs:aU G.μ m (Gh U w G) v x):
  ∃g,(Instr.loadAt t (.pointer (some ⟨b,0,none⟩))).run P w=.ok g w/\aU G.μ m (Gh U w G) v g:=by
 simp only[MS,Bool.not_eq_true'] at hc;have hsz:=Hy hc.1;have hv:PY P t [v]=some v:=by simp[PY,hc.2]
 have hp:dn G.μ m (Gh U w G) [v] [x]:=by simp only[dn];exact⟨x,[],rfl,hs,rfl⟩
 obtain⟨g,hg⟩:=aol hv hp;refine⟨g,VN hok (by simp;omega) ?_ hg,Sr hv hp hg⟩;intro j y hj;cases j with
 |zero=>simp at hj;subst hj;exact hx
 |succ j=>simp at hj
def awX(hA:At base U M0 w0 w m G){t:TypeId}{a:V}{ga:Value}(ha:aU G.μ m (Gh U w G) a ga){v:V}{l l':Log}(h:(awM P t a).run m l=some (v,m',l')):
  ∃g,(Instr.loadAt t ga).run P w=.ok g w/\m'=m/\aU G.μ m (Gh U w G) v g:=by
 simp only[awM] at h;replace h:=aj h;obtain⟨_,m1,l1,h1,h⟩:=h;obtain⟨hok,rfl,rfl⟩:=eH h1;simp only[MS] at hok;obtain⟨hok,hsz⟩:=hok;have hsz:=Hy hsz;cases a with
 |ptr r off=>
  simp only at h;replace h:=aj h;obtain⟨c,m2,l2,h2,h⟩:=h;rw[zD] at h2;cases h2;cases hc:get r m1 with
  |none=>rw[hc] at h;exact(ay h).elim
  |some c=>
   rw[hc] at h;cases c with
   |arr _ _ _ _ _=>exact(ay h).elim
   |dead=>exact(ay h).elim
   |qN T x=>simp only at h;replace h:=aj h;obtain⟨_,m2,l2,h2,h⟩:=h;obtain⟨hfit,rfl,rfl⟩:=eH h2;simp only[run_pure,je,lN] at h;obtain⟨rfl,rfl,rfl⟩:=h;simp only[MS] at hfit;have h0:=Hy hfit.1;subst h0;simp only[aU,hc] at ha;obtain⟨_,b,hμ,rfl⟩:=ha;obtain⟨_,b',y,e1,e2,e3⟩:=hA.ok.cell r _ hc (by rw[hA.out];simp);rw[hμ] at e1;cases e1;obtain⟨g,hg1,hg2⟩:=aom (P:=P) hok (by rw[MS];exact hfit.2) (vO _ _ _ _ _ _ e2) e3;exact⟨g,hg1,rfl,hg2⟩
   |box T cs=>
    simp only at h;replace h:=aj h;obtain⟨_,m2,l2,h2,h⟩:=h;obtain⟨hfit,rfl,rfl⟩:=eH h2;obtain⟨hv,rfl,rfl⟩:=lD h;simp only[aU,hc] at ha;obtain⟨_,b,hμ,rfl⟩:=ha;obtain⟨b',arr,e1,e2,e3,e4⟩:=hA.ok.cell r _ hc (by rw[hA.out];simp);rw[hμ] at e1;cases e1;have hp:=ahO off (qO P t) e3;have hlen:arr.size=cs.length:=by simpa using kT e3
    have hfit:=Nat.le_of_ble_eq_true hfit;obtain⟨g,hg⟩:=aol hv hp;refine⟨g,VN hok (by simp;omega) ?_ hg,rfl,Sr hv hp hg⟩;intro j x hj;have hj':j<qO P t:=by have:=(PU.1 hj).1;simp at this;omega
    rw[List.getElem?_take,if_pos hj',List.getElem?_drop] at hj;have:=full_cell (w:=w) e2 (off+j);rw[hj] at this;exact this
 |Em x=>simp only at h;replace h:=aj h;obtain⟨_,m2,l2,h2,h⟩:=h;obtain⟨hfit,rfl,rfl⟩:=eH h2;simp only[run_pure,je,lN] at h;obtain⟨rfl,rfl,rfl⟩:=h;simp only[aU] at ha;obtain⟨b,y,rfl,e2,e3⟩:=ha;obtain⟨g,hg1,hg2⟩:=aom (P:=P) hok hfit (vO _ _ _ _ _ _ e2) e3;exact⟨g,hg1,rfl,hg2⟩
 |uN row off=>
  simp only at h;simp only[aU] at ha;obtain⟨b,o,rfl,hrow⟩:=ha;obtain⟨vs,cs,h2,h3,h4,h5⟩:=aed (m:=m1) (μ:=G.μ) (h:=Gh U w G) (λk=>Gh U w G b (o+k)) (ro (Gh U w G)) (λk x hk=>aee hrow hk)
   (λk n g hg=>by simpa[ro] using hg) (λb g hg=>by simpa[ro] using hg) (λs g hg=>by simpa[ro] using hg) (λ_ s rs g hg _=>abS hg) _ _ _ _ _ _ h
  obtain⟨hv,rfl,rfl⟩:=lD h2;obtain⟨g,hg⟩:=aol hv h4;refine⟨g,VN hok (by rw[h3,hsz]) ?_ hg,rfl,Sr hv h4 hg⟩;intro j x hj;have:=h5 j x hj;rw[Nat.add_assoc];exact vO _ _ _ _ _ _ this
 |Ej r ver i off=>
  simp only at h;replace h:=aj h;obtain⟨c,m2,l2,h2,h⟩:=h;rw[zD] at h2;cases h2;cases hc:get r m1 with
  |none=>rw[hc] at h;exact(ay h).elim
  |some c=>
   rw[hc] at h;cases c with
   |box _ _=>exact(ay h).elim
   |qN _ _=>exact(ay h).elim
   |dead=>exact(ay h).elim
   |arr fz fl uO s rows=>simp only at h;replace h:=aj h;obtain⟨_,m2,l2,h2,h⟩:=h;obtain⟨hb,rfl,rfl⟩:=eH h2;have hb:=Hy hb;subst hb;replace h:=aj h;obtain⟨row,m2,l2,h2,h⟩:=h;obtain⟨hrow,rfl,rfl⟩:=lD h2;simp only[aU,hc] at ha;obtain⟨b,n,cap,hμ,rfl⟩:=ha.2.2 trivial;have hcell:=hA.ok.cell r _ hc (by rw[hA.out];simp);obtain⟨b',o,cap',e1,e2,e3,Rel,q1,q2,q3,q4,q5⟩:=atM hcell (vO _ _ _) hrow;rw[hμ] at e1;simp only[Value.slice.injEq,je,Addr.mk.injEq] at e1;obtain⟨⟨rfl,ho,_⟩,_,_⟩:=e1;subst ho;obtain⟨vs,cs,h2,h3,h4,h5⟩:=aed (m:=_) (μ:=G.μ) (h:=Gh U w G) (λk=>full w b (0+i * s+k)) Rel q1 q2 q3 q4 (λo s rs g hg hs=>q5 o s rs g hg (hs rfl)) _ _ _ _ _ _ h;obtain⟨hv,rfl,rfl⟩:=lD h2;obtain⟨g,hg⟩:=aol hv h4;refine⟨g,VN hok (by rw[h3,hsz]) ?_ hg,rfl,Sr hv h4 hg⟩;intro j x hj;have:=h5 j x hj;rw[show i * s+off+j=0+i * s+(off+j) from by omega];exact this
 |d _=>exact(ay h).elim
 |nil _=>exact(ay h).elim
 |own _ _=>exact(ay h).elim
 |clo _ _ _=>exact(ay h).elim
 |agg _=>exact(ay h).elim
 |FQ _=>exact(ay h).elim
 |undef=>exact(ay h).elim
end
end Go.Vm
namespace Go.Vm
open Go
section
variable {base:Nat} {U:Nat->Prop} {M0:List Nat} {w0 w w':World} {m m':Mem} {G G':GS} {P:Program}
def qo{μ:Nat->Value}{h:View}{v:V}{g:Value}(h1:one v=true)(q:aU μ m h v g):g.oneCell'=true:=by
 cases v with
 |d x=>simp only[aU] at q;exact Xp q
 |nil s=>simp only[aU] at q;subst q;rfl
 |own _ _=>simp only[aU] at q;obtain⟨⟨a,n,c,rfl⟩,_⟩:=q;rfl
 |ptr _ _=>simp only[aU] at q;obtain⟨⟨b,o,rfl⟩,_⟩:=q;rfl
 |Ej _ _ _ _=>simp only[aU] at q;obtain⟨⟨b,o,rfl⟩,_⟩:=q;rfl
 |uN _ _=>simp only[aU] at q;obtain⟨b,o,rfl,_⟩:=q;rfl
 |Em _=>simp only[aU] at q;obtain⟨b,x,rfl,_⟩:=q;rfl
 |clo _ _ _=>simp only[aU] at q;obtain⟨a,c,rfl,_⟩:=q;rfl
 |agg _=>simp[one] at h1
 |FQ _=>simp[one] at h1
 |undef=>simp[one] at h1
def cells_one{g:Value}(h:g.oneCell'=true):g.cells=#[g]:=by cases g<;>first|rfl|simp[Value.oneCell'] at h
def alp{μ:Nat->Value}{h:View}:∀{vs:List V} {gs:List Value},vs.all one=true->dn μ m h vs gs->∀x∈gs,x.oneCell'=true
 |[],gs,_,q=>by simp only[dn] at q;subst q;simp
 |v::vs,gs,h1,q=>by
  obtain⟨g,gs',rfl,q1,q2⟩:=oI q;simp only[List.all_cons,MS] at h1;intro x hx;simp only[List.mem_cons] at hx;rcases hx with rfl|hx
  ·exact qo h1.1 q1
  ·exact alp h1.2 q2 x hx
def cells_ok{μ:Nat->Value}{h:View}{v:V}{g:Value}(h1:v.cells.all one=true)(q:aU μ m h v g):dn μ m h v.cells g.cells.toList/\∀x∈g.cells.toList,x.oneCell'=true:=by
 have single:one v=true->v.cells=[v]->dn μ m h v.cells g.cells.toList/\∀x∈g.cells.toList,x.oneCell'=true:=by intro ho hv;have:=qo ho q;rw[cells_one this,hv];exact⟨by simp only[dn];exact⟨g,[],rfl,q,rfl⟩,by simpa using this⟩
 cases v with
 |agg cs=>simp only[aU] at q;obtain⟨a,rfl,q⟩:=q;exact⟨q,alp h1 q⟩
 |FQ _=>simp[V.cells,one] at h1
 |undef=>simp[V.cells,one] at h1
 |_=>exact single rfl rfl
def alq{μ:Nat->Value}{h:View}(c:CT)(g:Value):aU μ m h (ad8 c g) g:=by unfold ad8;split<;>simp[aU,ro]
def Yy{μ:Nat->Value}{h:View}:∀(cs:List CT) (gs:List Value),dn μ m h (I7 cs gs) gs
 |[],[]=>by simp[I7,dn]
 |_::_,[]=>by simp[I7,dn]
 |[],g::gs=>by simp only[I7,dn];exact⟨g,gs,rfl,by simp[aU],Yy [] gs⟩
 |c::cs,g::gs=>by simp only[I7,dn];exact⟨g,gs,rfl,alq c g,Yy cs gs⟩
def aJs{μ:Nat->Value}{h:View}(t:TypeId)(g:Value):aU μ m h (cv P t g) g:=by
 unfold cv;split
 ·simp only[aU];exact⟨_,rfl,Yy _ _⟩
 ·split
  ·exact alq _ _
  ·simp[aU]
def acW(μ:Nat->Value)(m:Mem)(h:View)(tm:mg)(a:Act):Prop:=∀t v,get t tm=some v->t<a.tmps.size/\aU μ m h v (a.tmps.getD t undef)
def ZK{μ:Nat->Value}{h:View}{tm:mg}{a:Act}(hT:acW μ m h tm a)(t:TypeId)(x:Operand):aU μ m h (ev P tm t x) (a.eval x):=by
 cases x with
 |tmp i=>
  simp only[ev,aaY];cases hg:get i tm with
  |none=>simp[aU]
  |some v=>exact(hT i v hg).2
 |const v=>exact aJs t v
 |global g=>simp[ev,aU]
 |func f=>simp only[ev,aU];exact⟨#[],#[],rfl,by simp[dn],by simp[dn]⟩
def aaM{μ:Nat->Value}{h:View}{tm:mg}{a:Act}(hT:acW μ m h tm a):∀(xs:List Operand) (ts:List TypeId),dn μ m h (wJ P tm xs ts) (xs.map a.eval)
 |[],_=>by simp[wJ,dn]
 |x::xs,ts=>by simp only[wJ,dn,RQ];exact⟨_,_,rfl,ZK hT _ x,aaM hT xs _⟩
def VO{μ:Nat->Value}{h:View}{t:TypeId}{z:List V}(hz:Tc P t=some z):∃i zv,P.info? t=some i/\i.zero=some zv/\dn μ m h z zv.cells.toList:=by
 unfold Tc at hz;cases hi:P.info? t with
 |none=>simp[hi] at hz
 |some i=>
  simp only[hi] at hz;cases hzv:i.zero with
  |none=>simp[hzv] at hz
  |some zv=>simp only[hzv,je] at hz;subst hz;exact⟨i,zv,rfl,hzv,Yy _ _⟩
def Iu.rewrite(hg:Iu base U w m G)(ho:G.out=[])(hfr:Fr M0 w0 w G){r:Nat}{c c':Cell}{μ':Nat->Value}{N:List Nat}(hc:get r m=some c)(hk:Keep (G.F r) w w')(hN:N.Nodup)
  (hNs:∀b,b∈N->(b∈G.F r\/b∈G.E\/w.heap.size<=b)/\b<w'.heap.size) (hμ:∀k,k≠r->μ' k=G.μ k) (hle:Np G.μ μ' r c c')
  (hcell:∀h':View,(Gh U w G).le h'->I9 G.μ m μ' (put r c' m)->(∀k,k∈G.E->k ∉ N->ad9 h' (dU w) [k])->sG μ' (put r c' m) (dU w') h' r c' N):
  Nx base U M0 w0 w m G w' (put r c' m) ⟨μ',upF G.F r N,[],[]⟩:=by
 have hro:r ∉ G.out:=by rw[ho];simp
 obtain⟨k1,k2⟩:=hg.aEt hc hro;have hk':Keep (G.E++G.F r) w w':=⟨hk.os,hk.tape,hk.output,hk.size,λb hb hn=>hk.block b hb (λh=>hn (by simp[h]))⟩
 obtain⟨q1,q2⟩:=Iu.world k1 hk' (E':=N) hN (λb hb=>by
  have:=hNs b hb;refine⟨?_,this.2⟩;rcases this.1 with h|h|h
  ·left;simp[h]
  ·left;simp[h]
  ·exact .inr h)
 have hup:upF (upF G.F r []) r N=upF G.F r N:=by
  funext k
  by_cases e:k=r
  ·subst e;simp
  ·simp[kX _ e]
 have hml:I9 G.μ m μ' (put r c' m):=Iw hμ (λc0 h0=>by rw[hc] at h0;cases h0;exact hle);have hset:=Iu.set (U:=U) (w:=w') q1 r c' μ' N [] [] (by simpa using hN) (by simp) hml hμ (λk hkr=>by simp[ho,hkr]) (by simp)
  (λhv _=>hcell _ (k2.view.trans' (q2.trans' hv)) hml (λk hkE hkN b hb cs t fr hH o v hv=>by
   simp only[List.mem_singleton] at hb;subst hb;have hbF:∀j,b ∉ G.F j:=λj hj=>hg.djE j b hj hkE
   have hlt:=hg.lt b (.inl hkE);have hsame:dU w' b=dU w b:=hk.block b hlt.1 (hbF r);refine PE (w:=w') (N:=[b]) (λx hx=> ?_) b (by simp) cs t fr (hsame.trans hH) o v hv;simp only[List.mem_singleton] at hx;subst hx;refine⟨hlt.2.2, ?_⟩;rintro(h|⟨j,h⟩)
   ·simp at h
   ·rw[hup] at h
    by_cases e:j=r
    ·subst e;rw[HY] at h;exact hkN h
    ·rw[kX _ e] at h;exact hbF j h))
 simp only[hup] at hset;obtain⟨s1,s2⟩:=hset;refine⟨s1,rfl,rfl,hml,k2.view.trans' (q2.trans' s2.view), ?_⟩;refine⟨hfr.keep.trans hk (λx hx=>hfr.fr x (.inr ⟨r,hx⟩)), ?_⟩;rintro b (hb|⟨k,hb⟩)
 ·simp at hb
 ·by_cases e:k=r
  ·subst e;simp only[HY] at hb;rcases(hNs b hb).1 with h|h|h
   ·exact hfr.fr b (.inr ⟨_,h⟩)
   ·exact hfr.fr b (.inl h)
   ·exact .inr (Nat.le_trans hfr.keep.size h)
  ·simp only[kX _ e] at hb;exact hfr.fr b (.inr ⟨k,hb⟩)
def At.rewrite(hA:At base U M0 w0 w m G){r:Nat}{c c':Cell}{μ':Nat->Value}{N:List Nat}(hc:get r m=some c)(hk:Keep (G.F r) w w')(hN:N.Nodup)
  (hNs:∀b,b∈N->(b∈G.F r\/w.heap.size<=b)/\b<w'.heap.size) (hμ:∀k,k≠r->μ' k=G.μ k) (hle:Np G.μ μ' r c c')
  (hcell:∀h':View,(Gh U w G).le h'->I9 G.μ m μ' (put r c' m)->sG μ' (put r c' m) (dU w') h' r c' N):
  Nx base U M0 w0 w m G w' (put r c' m) ⟨μ',upF G.F r N,[],[]⟩:=
 hA.ok.rewrite hA.out hA.fr hc hk hN (λb hb=>⟨(hNs b hb).1.imp id .inr,(hNs b hb).2⟩) hμ hle (λh' h1 h2 _=>hcell h' h1 h2)
def Nx.after{G1:GS}{m1:Mem}(hl:GLe m G m1 G1)(h:Nx base U M0 w0 w m1 G1 w' m' G'):Nx base U M0 w0 w m G w' m' G':=
 ⟨h.ok,h.E,h.out,wL hl.mem h.mem,hl.view.trans' h.view,h.fr⟩
def ZL{b:Nat}{cs:Array Value}{M:List Nat}(hb:b∈M):Keep M w (w.setRow b cs):=
 ⟨rfl,rfl,rfl,by simp[World.setRow],λk _ hk=>setRow_other w b k cs (λe=>hk (e ▸ hb))⟩
def Yz{o:Obj}{M:List Nat}:Keep M w (w.alloc o):=⟨rfl,rfl,rfl,by simp,λk hk _=>heap_alloc_old w o k hk⟩
def aef{M:List Nat}:Keep M w w.drew:=⟨rfl,rfl,rfl,Nat.le_refl _,λ_ _ _=>rfl⟩
def Sv{H:Heap}{h:View}:∀{r:Row} {cs cs':List Value} {N:List Nat},cs.take r.length=cs'.take r.length->jE H h r cs N->jE H h r cs' N
 |[],_,_,_,_,q=>by simpa[jE] using q
 |x::r,cs,cs',N,e,q=>by
  obtain⟨v,cs1,N1,N2,rfl,rfl,h1,h2⟩:=Ph q;cases cs' with
  |nil=>simp at e
  |cons v' aF6=>simp only[nS,List.take_succ_cons,List.cons.injEq] at e;obtain⟨rfl,e⟩:=e;simp only[jE];exact⟨v,aF6,N1,N2,rfl,rfl,h1,Sv e h2⟩
def KQ{H:Heap}{h:View}:∀{a b:Row} {cs:List Value} {N:List Nat},jE H h (a++b) cs N↔∃N1 N2,N=N1++N2/\jE H h a cs N1/\jE H h b (cs.drop a.length) N2
 |[],b,cs,N=>by
  simp only[List.nil_append,jE,uM,List.drop_zero];constructor
  ·intro q;exact⟨[],N,rfl,rfl,q⟩
  ·rintro⟨N1,N2,rfl,rfl,q⟩;simpa using q
 |x::a,b,cs,N=>by
  simp only[Yr,jE];constructor
  ·rintro⟨v,cs',N1,N2,rfl,rfl,h1,h2⟩;obtain⟨N3,N4,rfl,h3,h4⟩:=KQ.1 h2;exact⟨N1++N3,N4,by simp,⟨v,cs',N1,N3,rfl,rfl,h1,h3⟩,by simpa using h4⟩
  ·rintro⟨N1,N2,rfl,⟨v,cs',N3,N4,rfl,rfl,h1,h3⟩,h4⟩;exact⟨v,cs',N3,N4++N2,rfl,by simp,h1,KQ.2 ⟨N4,N2,rfl,h3,by simpa using h4⟩⟩
def ahQ{H:Heap}{h:View}:∀{r:Row} {cs:List Value} {N:List Nat},jE H h r cs N->r.length<=cs.length
 |[],_,_,_=>by simp
 |x::r,cs,N,q=>by obtain⟨v,cs',N1,N2,rfl,rfl,_,h2⟩:=Ph q;have:=ahQ h2;simp;omega
def Ti{α:Type}{l xs:List α}{o:Nat}(h:o+xs.length<=l.length):(splice l o xs).length=l.length:=by simp[splice];omega
def amY{H:Heap}{h:View}{row xs:Row}{cs gs:List Value}{N N1:List Nat}{o:Nat}(q:jE H h row cs N)(q1:jE H h xs gs N1)(hl:xs.length=gs.length)(ho:o+xs.length<=row.length):
  ∃N' Dr,jE H h (splice row o xs) (splice cs o gs) N'/\(N'++Dr).Perm (N++N1):=by
 have hrow:row=row.take o++((row.drop o).take xs.length++row.drop (o+xs.length)):=by rw[<-List.drop_drop,List.take_append_drop,List.take_append_drop]
 have hcl:=ahQ q;rw[hrow] at q;obtain⟨Na,Nb,rfl,qa,qb⟩:=KQ.1 q;obtain⟨Nc,Nd,rfl,qc,qd⟩:=KQ.1 qb;have l1:(row.take o).length=o:=by simp;omega
 have l2:((row.drop o).take xs.length).length=xs.length:=by simp;omega
 rw[l1,List.drop_drop,l2] at qd;refine⟨Na++(N1++Nd),Nc, ?_, ?_⟩
 ·have e:splice row o xs=row.take o++(xs++row.drop (o+xs.length)):=by simp[splice]
  rw[e];refine KQ.2 ⟨Na,N1++Nd,rfl, ?_, ?_⟩
  ·refine Sv ?_ qa;rw[l1];simp only[splice,NI];rw[List.take_append_of_le_length (by simp;omega)];rw[List.take_take];congr 1;omega
  ·rw[l1];have hd:(splice cs o gs).drop o=gs++cs.drop (o+gs.length):=by
    simp only[splice,NI];rw[List.drop_append_of_le_length (by simp;omega)];have:(cs.take o).drop o=[]:=by simp
    rw[this];rfl
   rw[hd];refine KQ.2 ⟨N1,Nd,rfl, ?_, ?_⟩
   ·refine Sv ?_ q1;rw[hl];simp
   ·rw[hl];rw[hl] at qd;simpa using qd
 ·simp only[NI];refine List.Perm.append_left Na ?_;have h1:(N1++(Nd++Nc)).Perm ((Nd++Nc)++N1):=List.perm_append_comm;have h2:((Nd++Nc)++N1).Perm ((Nc++Nd)++N1):=List.Perm.append_right N1 List.perm_append_comm;simpa using h1.trans h2
def WU{H:Heap}{h:View}{s:Nat}:∀{rs:List Row} {cs cs':List Value} {N:List Nat},cs.take (rs.length * s)=cs'.take (rs.length * s)->iK H h s rs cs N->iK H h s rs cs' N
 |[],_,_,_,_,q=>by simpa[iK] using q
 |r::rs,cs,cs',N,e,q=>by
  simp only[iK] at q|-;obtain⟨h1,N1,N2,rfl,h2,h3⟩:=q;have hs:(r::rs).length * s=s+rs.length * s:=by simp[Nat.add_mul];omega
  rw[hs] at e;refine⟨h1,N1,N2,rfl,Sv ?_ h2,WU ?_ h3⟩
  ·rw[h1];have:=congrArg (List.take s) e;simpa[List.take_take,Nat.min_eq_left] using this
  ·have:=congrArg (List.drop s) e;simpa[List.drop_take] using this
def NQ{H:Heap}{h:View}{s:Nat}:∀{a b:List Row} {cs:List Value} {N:List Nat},iK H h s (a++b) cs N↔∃N1 N2,N=N1++N2/\iK H h s a cs N1/\iK H h s b (cs.drop (a.length * s)) N2
 |[],b,cs,N=>by
  simp only[List.nil_append,iK,uM,Nat.zero_mul,List.drop_zero];constructor
  ·intro q;exact⟨[],N,rfl,rfl,q⟩
  ·rintro⟨N1,N2,rfl,rfl,q⟩;simpa using q
 |x::a,b,cs,N=>by
  have hs:(x::a).length * s=s+a.length * s:=by simp[Nat.add_mul];omega
  simp only[Yr,iK,hs];constructor
  ·rintro⟨h0,N1,N2,rfl,h1,h2⟩;obtain⟨N3,N4,rfl,h3,h4⟩:=NQ.1 h2;exact⟨N1++N3,N4,by simp,⟨h0,N1,N3,rfl,h1,h3⟩,by simpa using h4⟩
  ·rintro⟨N1,N2,rfl,⟨h0,N3,N4,rfl,h1,h3⟩,h4⟩;exact⟨h0,N3,N4++N2,by simp,h1,NQ.2 ⟨N4,N2,rfl,h3,by simpa using h4⟩⟩
def Qb{h:View}:∀{r:Row} {cs cs':List Value},cs.take r.length=cs'.take r.length->jq h r cs->jq h r cs'
 |[],_,_,_,_=>trivial
 |x::r,cs,cs',e,⟨v,cs1,e1,h1,h2⟩=>by
  subst e1;cases cs' with
  |nil=>simp at e
  |cons v' aF6=>simp only[nS,List.take_succ_cons,List.cons.injEq] at e;obtain⟨rfl,e⟩:=e;exact⟨v,aF6,rfl,h1,Qb e h2⟩
def EK{h:View}:∀{a b:Row} {cs:List Value},jq h (a++b) cs↔jq h a cs/\jq h b (cs.drop a.length)
 |[],b,cs=>by simp[jq]
 |x::a,b,cs=>by
  simp only[Yr,jq];constructor
  ·rintro⟨v,cs',rfl,h1,h2⟩;obtain⟨h3,h4⟩:=EK.1 h2;exact⟨⟨v,cs',rfl,h1,h3⟩,by simpa using h4⟩
  ·rintro⟨⟨v,cs',rfl,h1,h3⟩,h4⟩;exact⟨v,cs',rfl,h1,EK.2 ⟨h3,by simpa using h4⟩⟩
def abX{h:View}:∀{r:Row} {cs:List Value},jq h r cs->r.length<=cs.length
 |[],_,_=>by simp
 |x::r,cs,⟨v,cs',e,_,h2⟩=>by subst e;have:=abX h2;simp;omega
def ahR{h:View}{row xs:Row}{cs gs:List Value}{o:Nat}(q:jq h row cs)(q1:jq h xs gs)(hl:xs.length=gs.length)(ho:o+xs.length<=row.length):jq h (splice row o xs) (splice cs o gs):=by
 have hrow:row=row.take o++((row.drop o).take xs.length++row.drop (o+xs.length)):=by rw[<-List.drop_drop,List.take_append_drop,List.take_append_drop]
 have hcl:=abX q;rw[hrow] at q;obtain⟨qa,qb⟩:=EK.1 q;obtain⟨qc,qd⟩:=EK.1 qb;have l1:(row.take o).length=o:=by simp;omega
 have l2:((row.drop o).take xs.length).length=xs.length:=by simp;omega
 rw[l1,List.drop_drop,l2] at qd;have e:splice row o xs=row.take o++(xs++row.drop (o+xs.length)):=by simp[splice]
 rw[e];refine EK.2 ⟨?_, ?_⟩
 ·refine Qb ?_ qa;rw[l1];simp only[splice,NI];rw[List.take_append_of_le_length (by simp;omega)];rw[List.take_take];congr 1;omega
 ·rw[l1];have hd:(splice cs o gs).drop o=gs++cs.drop (o+gs.length):=by
   simp only[splice,NI];rw[List.drop_append_of_le_length (by simp;omega)];have:(cs.take o).drop o=[]:=by simp
   rw[this];rfl
  rw[hd];refine EK.2 ⟨Qb (by rw[hl];simp) q1, ?_⟩;rw[hl];rw[hl] at qd;simpa using qd
def Tj{h:View}{s:Nat}:∀{rs:List Row} {cs cs':List Value},cs.take (rs.length * s)=cs'.take (rs.length * s)->jm h s rs cs->jm h s rs cs'
 |[],_,_,_,_=>trivial
 |r::rs,cs,cs',e,⟨h1,h2,h3⟩=>by
  have hs:(r::rs).length * s=s+rs.length * s:=by simp[Nat.add_mul];omega
  rw[hs] at e;refine⟨h1,Qb ?_ h2,Tj ?_ h3⟩
  ·rw[h1];have:=congrArg (List.take s) e;simpa[List.take_take,Nat.min_eq_left] using this
  ·have:=congrArg (List.drop s) e;simpa[List.drop_take] using this
def NZ{h:View}{s:Nat}:∀{a b:List Row} {cs:List Value},jm h s (a++b) cs↔jm h s a cs/\jm h s b (cs.drop (a.length * s))
 |[],b,cs=>by simp[jm]
 |x::a,b,cs=>by
  have hs:(x::a).length * s=s+a.length * s:=by simp[Nat.add_mul];omega
  simp only[Yr,jm,hs];rw[NZ,List.drop_drop];constructor
  ·rintro⟨h0,h1,h2,h3⟩;exact⟨⟨h0,h1,h2⟩,h3⟩
  ·rintro⟨⟨h0,h1,h2⟩,h3⟩;exact⟨h0,h1,h2,h3⟩
end
end Go.Vm
namespace Go.Vm
open Go
section
variable {base:Nat} {U:Nat->Prop} {M0:List Nat} {w0 w w':World} {m m':Mem} {G G':GS} {P:Program}
def afk{α:Type}{l:List α}{i:Nat}{a b:α}(h:l[i]? =some a):l.set i b=l.take i++(b::l.drop (i+1))/\l=l.take i++(a::l.drop (i+1)):=by
 have hi:=(PU.1 h).1;have ha:=(PU.1 h).2;refine⟨?_, ?_⟩
 ·rw[List.set_eq_take_append_cons_drop,if_pos hi]
 ·rw[<-ha,List.getElem_cons_drop,List.take_append_drop]
def asB{H:Heap}{h:View}{s i o:Nat}{rows:List Row}{row xs:Row}{cs gs:List Value}{N N1:List Nat}(q:iK H h s rows cs N)(hi:rows[i]? =some row)(q1:jE H h xs gs N1)(hl:xs.length=gs.length)(ho:o+xs.length<=s):
  ∃N' Dr,iK H h s (rows.set i (splice row o xs)) (splice cs (i * s+o) gs) N'/\(N'++Dr).Perm (N++N1):=by
 obtain⟨e1,e2⟩:=afk (b:=splice row o xs) hi;have hil:=(PU.1 hi).1;rw[e2] at q;obtain⟨Na,Nb,rfl,qa,qb⟩:=NQ.1 q;have l1:(rows.take i).length=i:=by simp;omega
 rw[l1] at qb;simp only[iK] at qb;obtain⟨h0,Nc,Nd,rfl,qc,qd⟩:=qb;have hcl:=ahQ qc;simp only[List.length_drop] at hcl;obtain⟨N',Dr,qe,hp⟩:=amY (o:=o) qc q1 hl ak;have asC:(splice row o xs).length=s:=by rw[Ti (l:=row) (xs:=xs) (o:=o) ak];exact h0
 have his:i * s<=cs.length:=by
  rcases Nat.eq_zero_or_pos s with e|e
  ·rw[e];simp
  ·omega
 refine⟨Na++(N'++Nd),Dr, ?_, ?_⟩
 ·rw[e1];refine NQ.2 ⟨Na,N'++Nd,rfl, ?_, ?_⟩
  ·refine WU ?_ qa;rw[l1];simp only[splice,NI];rw[List.take_append_of_le_length (by simp;omega),List.take_take];congr 1;omega
  ·rw[l1];have hd:(splice cs (i * s+o) gs).drop (i * s)=splice (cs.drop (i * s)) o gs:=by simp only[splice];rw[NI,List.drop_append_of_le_length (by simp;omega),List.drop_take,List.drop_drop];rw[show i * s+o - i * s=o from by omega,NI,Nat.add_assoc]
   simp only[iK,hd];refine⟨asC,N',Nd,rfl,qe, ?_⟩;have hd2:(splice (cs.drop (i * s)) o gs).drop s=(cs.drop (i * s)).drop s:=by simp only[splice];rw[List.drop_append,List.drop_eq_nil_of_le (by simp;omega)];simp only[List.nil_append,List.drop_drop,qK,XE,List.length_drop];congr 1;omega
   rw[hd2];exact qd
 ·simp only[NI];refine List.Perm.append_left Na ?_;have h1:(N'++(Nd++Dr)).Perm (N'++(Dr++Nd)):=List.Perm.append_left N' List.perm_append_comm;have h2:((N'++Dr)++Nd).Perm ((Nc++N1)++Nd):=List.Perm.append_right Nd hp;have h3:(Nc++(N1++Nd)).Perm (Nc++(Nd++N1)):=List.Perm.append_left Nc List.perm_append_comm;have h2':(N'++(Dr++Nd)).Perm (Nc++(N1++Nd)):=by simpa using h2
  exact h1.trans (h2'.trans h3)
def amZ{h:View}{s i o:Nat}{rows:List Row}{row xs:Row}{cs gs:List Value}(q:jm h s rows cs)(hi:rows[i]? =some row)(q1:jq h xs gs)(hl:xs.length=gs.length)(ho:o+xs.length<=s):
  jm h s (rows.set i (splice row o xs)) (splice cs (i * s+o) gs):=by
 obtain⟨e1,e2⟩:=afk (b:=splice row o xs) hi;have hil:=(PU.1 hi).1;rw[e2] at q;obtain⟨qa,qb⟩:=NZ.1 q;have l1:(rows.take i).length=i:=by simp;omega
 rw[l1] at qb;obtain⟨h0,qc,qd⟩:=qb;have hcl:=abX qc;simp only[List.length_drop] at hcl;have qe:=ahR (o:=o) qc q1 hl ak;have asC:(splice row o xs).length=s:=by rw[Ti (l:=row) (xs:=xs) (o:=o) ak];exact h0
 have his:i * s<=cs.length:=by
  rcases Nat.eq_zero_or_pos s with e|e
  ·rw[e];simp
  ·omega
 rw[e1];refine NZ.2 ⟨?_, ?_⟩
 ·refine Tj ?_ qa;rw[l1];simp only[splice,NI];rw[List.take_append_of_le_length (by simp;omega),List.take_take];congr 1;omega
 ·rw[l1];have hd:(splice cs (i * s+o) gs).drop (i * s)=splice (cs.drop (i * s)) o gs:=by simp only[splice];rw[NI,List.drop_append_of_le_length (by simp;omega),List.drop_take,List.drop_drop];rw[show i * s+o - i * s=o from by omega,NI,Nat.add_assoc]
  rw[hd];refine⟨asC,qe, ?_⟩;have hd2:(splice (cs.drop (i * s)) o gs).drop s=(cs.drop (i * s)).drop s:=by simp only[splice];rw[List.drop_append,List.drop_eq_nil_of_le (by simp;omega)];simp only[List.nil_append,List.drop_drop,qK,XE,List.length_drop];congr 1;omega
  rw[hd2];exact qd
def At.took(hA:At base U M0 w0 w m G){N:List Nat}(ht:PV base U w m G m' G' N):G'.E=N/\G'.out=[]/\Fr M0 w0 w G':=
 ⟨by rw[ht.E,hA.E];rfl,ht.out.trans hA.out,hA.fr.less ht.le.ex⟩
def atN(k:Nat)(c c':Cell):∀m:Mem,put k c (put k c' m)=put k c m
 |[]=>by simp[put]
 |(j,y)::m=>by
  have hk:Nat.beq k k=true:=Nat.beq_refl k
  by_cases h:k=j
  ·subst h;simp[put]
  ·have hb:Nat.beq k j=false:=wM h;cases hl:Nat.blt k j with
   |true=>simp[put,hb,hl]
   |false=>simp[put,hb,hl,atN k c c' m]
def At.settle(hA:At base U M0 w0 w m G){r:Nat}{T:TypeId}{x:V}(hc:get r m=some (.box T [x])):∃G',Nx base U M0 w0 w m G w (put r (.qN T x) m) G':=by
 have hro:r ∉ G.out:=by rw[hA.out];simp
 have hle:I9 G.μ m G.μ (put r (.qN T x) m):=Iw (λ_ _=>rfl) (λc h=>by rw[hc] at h;cases h;exact rfl);obtain⟨b,a,e1,e2,e3,e4⟩:=hA.ok.cell r _ hc hro;have hb:b∈G.F r:=by rw[e4];simp
 obtain⟨y,ys,ea,e5,e6⟩:=oI e3;have h1:=hA.ok.set r (.qN T x) G.μ [] G.E G.out (by simpa using hA.ok.ndE) (by simp;exact λb hb=> .inr hb) hle (λ_ _=>rfl) (λ_ _=>Iff.rfl) (λ_=>rfl)
  (λhv _=>by
   refine⟨rfl,b,y,e1, ?_,AQ hle hv _ _ e5⟩;refine PE (w:=w) (N:=[b]) (λb' hb'=> ?_) b (by simp) a T (0,0) e2 0 y (by rw[ea];rfl);simp only[List.mem_singleton] at hb';subst hb';refine⟨(hA.ok.lt _ (.inr ⟨r,hb⟩)).2.2, ?_⟩;rintro(hE|⟨k,hk⟩)
   ·exact hA.ok.djE r _ hb hE
   ·by_cases e:k=r
    ·subst e;simp at hk
    ·rw[kX _ e] at hk;exact hA.ok.dj r k (Ne.symm e) _ hb hk)
 exact⟨_,hA.still h1.1 h1.2 hA.out⟩
def awY{off:Nat}{cs:List V}{x:V}(h:kept off cs x=true):off=0/\cs=[.undef]/\∃r o,x=.ptr r o:=by
 unfold kept at h;split at h
 ·exact⟨rfl,rfl,_,_,rfl⟩
 ·cases h
def avb(hA:At base U M0 w0 w m G){t:TypeId}{a x:V}{ga gx:Value}(ha:aU G.μ m (Gh U w G) a ga)(hx:aU G.μ m (Gh U w G) x gx){u:Unit}{l l':Log}(h:(ash P t a x).run m l=some (u,m',l')):
  ∃w' G',(Instr.storeAt t ga gx).run P w=.ok () w'/\Nx base U M0 w0 w m G w' m' G':=by
 simp only[ash] at h;replace h:=aj h;obtain⟨_,m1,l1,h1,h⟩:=h;obtain⟨hok,rfl,rfl⟩:=eH h1;replace h:=aj h;obtain⟨_,m1,l1,h1,h⟩:=h;obtain⟨hlen,rfl,rfl⟩:=eH h1;replace h:=aj h;obtain⟨_,m1,l1,h1,h⟩:=h;obtain⟨hone,rfl,rfl⟩:=eH h1;have hlen:=Hy hlen;obtain⟨hxs,hx1⟩:=cells_ok hone hx;have hgl:gx.cells.size=qO P t:=by rw[<-hlen,<-kT hxs,Array.length_toList]
 cases a with
 |ptr r off=>
  simp only at h;replace h:=aj h;obtain⟨c,m2,l2,h2,h⟩:=h;rw[zD] at h2;cases h2;cases hc:get r m1 with
  |none=>rw[hc] at h;exact(ay h).elim
  |some c=>
   rw[hc] at h;cases c with
   |arr _ _ _ _ _=>exact(ay h).elim
   |dead=>exact(ay h).elim
   |qN _ _=>exact(ay h).elim
   |box T cs=>
    simp only at h;replace h:=aj h;obtain⟨_,m2,l2,h2,h⟩:=h;obtain⟨hfit,rfl,rfl⟩:=eH h2;simp only[aU,hc] at ha;obtain⟨_,b,hμ,rfl⟩:=ha;obtain⟨b',arr,e1,e2,e3,e4⟩:=hA.ok.cell r _ hc (by rw[hA.out];simp);rw[hμ] at e1;cases e1;have hal:arr.size=cs.length:=by simpa using kT e3
    have hfit:=Nat.le_of_ble_eq_true hfit;have hrun:=afi (P:=P) hok e2 hgl (off:=off) ak hx1;have hb:b∈G.F r:=by rw[e4];simp
    have hnx:=hA.rewrite (c':=.box T (splice cs off x.cells)) (w':=w.setRow b (splice arr.toList off gx.cells.toList).toArray) (μ':=G.μ) (N:=[b]) hc (ZL hb) (by simp) (λk hk=>by
     simp at hk;subst hk;refine⟨.inl hb, ?_⟩;have:=(hA.ok.lt _ (.inr ⟨r,hb⟩)).1;simpa[World.setRow] using this) (λ_ _=>rfl) ⟨rfl,rfl⟩ (λh' hv hml=>by
     refine⟨b,_,hμ,setRow_heap w b arr _ T (0,0) e2, ?_,rfl⟩;have:=Yx off e3 hxs;simpa using sJ hml hv _ _ this)
    cases hkp:kept off cs x with
    |false=>rw[hkp] at h;simp only[P7,je,lN] at h;obtain⟨_,rfl,_⟩:=h;exact⟨_,_,hrun,hnx⟩
    |true=>rw[hkp] at h;simp only[P7,je,lN] at h;obtain⟨_,rfl,_⟩:=h;obtain⟨rfl,rfl,r',o',rfl⟩:=awY hkp;have hsp:splice [V.undef] 0 (V.ptr r' o').cells=[V.ptr r' o']:=rfl;rw[hsp] at hnx;obtain⟨G',hnx2⟩:=hnx.at_.settle (r:=r) (T:=T) (x:=.ptr r' o') (jV _ _ _);rw[atN] at hnx2;exact⟨_,_,hrun,hnx.trans hnx2⟩
 |Ej r ver i off=>
  simp only at h;replace h:=aj h;obtain⟨xs,m2,l2,h2,h⟩:=h;obtain⟨G1,N1,t1,hrow,hxl⟩:=VI hA.ok hxs hA.out h2;obtain⟨hE1,ho1,aon⟩:=hA.took t1;replace h:=aj h;obtain⟨c,m3,l3,h3,h⟩:=h;rw[zD] at h3;cases h3;replace ha:=t1.le.aU ha;cases hc:get r m2 with
  |none=>rw[hc] at h;exact(ay h).elim
  |some c=>
   rw[hc] at h;cases c with
   |box _ _=>exact(ay h).elim
   |dead=>exact(ay h).elim
   |qN _ _=>exact(ay h).elim
   |arr fz fl uO s rows=>
    cases fz with
    |true=>exact(ay h).elim
    |false=>
    simp only at h;replace h:=aj h;obtain⟨_,m4,l4,h4,h⟩:=h;obtain⟨hb,rfl,rfl⟩:=eH h4;have hb:=Hy hb;subst hb;replace h:=aj h;obtain⟨_,m4,l4,h4,h⟩:=h;obtain⟨hfit,rfl,rfl⟩:=eH h4;have hfit:=Nat.le_of_ble_eq_true hfit;replace h:=aj h;obtain⟨row,m4,l4,h4,h⟩:=h;obtain⟨hrw,rfl,rfl⟩:=lD h4;simp only[P7,je,lN] at h;obtain⟨_,rfl,_⟩:=h;simp only[aU,hc] at ha;obtain⟨b,n,cap,hμ,rfl⟩:=ha.2.2 trivial;have hcell:=t1.ok.cell r _ hc (by rw[ho1];simp);have hne:rows≠[]:=by intro e;subst e;simp at hrw
    have hil:=(PU.1 hrw).1;simp only[sG] at hcell;rcases hcell with⟨e,_,_⟩|⟨b',cap',cs,T,N',k1,k2,k3,k4,k5,k6⟩
    ·exact absurd e hne
    rw[hμ] at k1;simp only[Value.slice.injEq,je,Addr.mk.injEq] at k1;obtain⟨⟨rfl,_⟩,rfl,rfl⟩:=k1;have hbF:b∈G1.F r:=by rw[k6];simp
    have awZ:xs.length=gx.cells.toList.length:=by rw[hxl,kT hxs]
    have hsz:i * s+off+gx.cells.size<=cs.size:=by rw[k4,hgl];have:(i+1) * s<=cap * s:=Nat.mul_le_mul_right s ak;rw[Nat.add_mul] at this;omega
    have hrun:=afi (P:=P) hok k3 hgl (off:=i * s+off) hsz hx1;have hh:=setRow_heap w b cs (splice cs.toList (i * s+off) gx.cells.toList).toArray T (0,0) k3;have aJt:off+xs.length<=s:=by rw[awZ,Array.length_toList,hgl];exact hfit
    have aJu:(splice cs.toList (i * s+off) gx.cells.toList).length=cs.size:=by rw[Ti (by simpa using hsz)];simp
    have key:∃N2,N2.Nodup/\(fl=true->N2=[])/\(∀k,k∈N2->k∈G1.F r\/k∈G1.E)/\∀h':View,(Gh U w G1).le h'->(fl=true->ad9 h' (dU w) N1)->abO (dU (w.setRow b (splice cs.toList (i * s+off) gx.cells.toList).toArray)) h' fl s (rows.set i (splice row off xs)) (G1.μ r) (b::N2)/\b ∉ N2:=by
     have hoth:∀k,k≠b->dU (w.setRow b (splice cs.toList (i * s+off) gx.cells.toList).toArray) k=dU w k:=λk hk=>setRow_other w b k _ hk
     cases fl with
     |true=>
      refine⟨[],by simp,λ_=>rfl,by simp,λh' hv hs=>⟨.inr ⟨b,cap,_,T,[], ?_, ?_,hh, ?_,⟨?_,rfl⟩,rfl⟩,by simp⟩⟩
      ·rw[hμ];simp
      ·simpa using k2
      ·simpa[aJu] using k4
      ·have q1:jq h' xs gx.cells.toList:=abR hv xs _ N1 (hs rfl) hrow;simpa using amZ (NP hv s rows _ k5.1) hrw q1 awZ aJt
     |false=>
      obtain⟨N2,Dr,q1,hp⟩:=asB k5 hrw hrow awZ aJt;have aYH:(N'++N1).Nodup:=by have h1:=t1.ok.nd r;rw[k6] at h1;have h2:=t1.ok.ndE;rw[hE1] at h2;exact List.nodup_append.2 ⟨(List.nodup_cons.1 h1).2,h2,λx hx y hy e=>t1.ok.djE r x (by rw[k6];simp[hx]) (by rw[hE1,e];exact hy)⟩
      have hnd:=List.nodup_append.1 (hp.nodup_iff.2 aYH);have hmem:∀k,k∈N2->k∈N'\/k∈N1:=λk hk=>by simpa using hp.mem_iff.1 (List.mem_append_left Dr hk)
      have hbn:b ∉ N2:=by
       intro hb2;rcases hmem b hb2 with h|h
       ·have:=t1.ok.nd r;rw[k6] at this;exact(List.nodup_cons.1 this).1 h
       ·exact t1.ok.djE r b hbF (by rw[hE1];exact h)
      refine⟨N2,hnd.1,(λe=>by cases e),λk hk=> ?_,λh' hv _=>⟨.inr ⟨b,cap,_,T,N2, ?_, ?_,hh, ?_, ?_,rfl⟩,hbn⟩⟩
      ·rcases hmem k hk with h|h
       ·left;rw[k6];simp[h]
       ·right;rw[hE1];exact h
      ·rw[hμ];simp
      ·simpa using k2
      ·simpa[aJu] using k4
      ·have:=JQ hv s _ _ N2 (λk hk=>hoth k (λe=>hbn (e ▸ hk))) q1;simpa using this
    obtain⟨N2,hN2,aYI,aYJ,Xq⟩:=key;refine⟨_,_,hrun,Nx.after t1.le (t1.ok.rewrite ho1 aon (μ':=G1.μ) (N:=b::N2) hc (ZL hbF) ?_ ?_ (λ_ _=>rfl) ⟨Nat.le_refl _,rfl,λ_=>⟨rfl,rfl⟩⟩ ?_)⟩
    ·exact List.nodup_cons.2 ⟨(Xq (full w) (vO _ _ _) (λ_=>ald)).2,hN2⟩
    ·intro k hk;have hsz':(w.setRow b (splice cs.toList (i * s+off) gx.cells.toList).toArray).heap.size=w.heap.size:=by simp[World.setRow]
     rw[hsz'];simp only[List.mem_cons] at hk;rcases hk with rfl|hk
     ·exact⟨.inl hbF,(t1.ok.lt _ (.inr ⟨r,hbF⟩)).1⟩
     ·rcases aYJ k hk with h|h
      ·exact⟨.inl h,(t1.ok.lt _ (.inr ⟨r,h⟩)).1⟩
      ·exact⟨.inr (.inl h),(t1.ok.lt _ (.inl h)).1⟩
    ·intro h' hv hml aA7;refine(Xq h' hv (λhfl=> ?_)).1;intro k hk;have hkE:k∈G1.E:=by rw[hE1];exact hk
     refine aA7 k hkE ?_ k (by simp);rw[aYI hfl];simp only[List.mem_singleton];intro e;subst e;exact t1.ok.djE r _ hbF hkE
 |d _=>exact(ay h).elim
 |nil _=>exact(ay h).elim
 |own _ _=>exact(ay h).elim
 |uN _ _=>exact(ay h).elim
 |Em _=>exact(ay h).elim
 |clo _ _ _=>exact(ay h).elim
 |agg _=>exact(ay h).elim
 |FQ _=>exact(ay h).elim
 |undef=>exact(ay h).elim
end
end Go.Vm
namespace Go.Vm
open Go
section
variable {base:Nat} {U:Nat->Prop} {M0:List Nat} {w0 w w':World} {m m':Mem} {G G':GS} {P:Program}
def Iu.fresh(hg:Iu base U w m G)(ho:G.out=[])(hfr:Fr M0 w0 w G){k:Nat}{c':Cell}{gv:Value}{N:List Nat}(hn:get k m=none)(hk:Keep [] w w')(hN:N.Nodup)
  (hNs:∀b,b∈N->(b∈G.E\/w.heap.size<=b)/\b<w'.heap.size)
  (hcell:∀h':View,(Gh U w G).le h'->I9 G.μ m (upM G.μ k gv) (put k c' m)->(∀j,j∈G.E->j ∉ N->ad9 h' (dU w) [j])->sG (upM G.μ k gv) (put k c' m) (dU w') h' k c' N):
  Nx base U M0 w0 w m G w' (put k c' m) ⟨upM G.μ k gv,upF G.F k N,[],[]⟩:=by
 have hk':Keep G.E w w':=⟨hk.os,hk.tape,hk.output,hk.size,λb hb _=>hk.block b hb (by simp)⟩
 obtain⟨q1,q2⟩:=Iu.world hg hk' (E':=N) hN hNs;have hμ:∀j,j≠k->upM G.μ k gv j=G.μ j:=λj e=>Sl gv e
 have hml:I9 G.μ m (upM G.μ k gv) (put k c' m):=Iw hμ (λc0 h0=>by rw[hn] at h0;cases h0);have hFk:G.F k=[]:=hg.none_ k hn;have hset:=Iu.set (U:=U) (w:=w') q1 k c' (upM G.μ k gv) N [] [] (by simpa using hN) (by simp;exact λb hb=> .inr hb) hml hμ (λj hj=>by simp[ho]) (by simp)
  (λhv _=>hcell _ (q2.trans' hv) hml (λj hjE hjN b hb cs t fr hH o v hv=>by
   have hb:=List.mem_singleton.1 hb;rw[<-hb] at hjE hjN;have hlt:=hg.lt b (.inl hjE);have hsame:dU w' b=dU w b:=hk.block b hlt.1 (by simp);refine PE (w:=w') (N:=[b]) (λx hx=> ?_) b (by simp) cs t fr (hsame.trans hH) o v hv;rw[List.mem_singleton.1 hx];refine⟨hlt.2.2, ?_⟩;rintro(h|⟨i,h⟩)
   ·simp at h
   ·by_cases e:i=k
    ·subst e;rw[HY] at h;exact hjN h
    ·rw[kX _ e] at h;exact hg.djE i b h hjE))
 obtain⟨s1,s2⟩:=hset;refine⟨s1,rfl,rfl,hml,q2.trans' s2.view, ?_⟩;refine⟨hfr.keep.trans hk (by simp), ?_⟩;rintro b (hb|⟨i,hb⟩)
 ·simp at hb
 ·by_cases e:i=k
  ·subst e;simp only[HY] at hb;rcases(hNs b hb).1 with h|h
   ·exact hfr.fr b (.inl h)
   ·exact .inr (Nat.le_trans hfr.keep.size h)
  ·simp only[kX _ e] at hb;exact hfr.fr b (.inr ⟨i,hb⟩)
def XM{w1:World}{o:Obj}(h:w1.heap=w.heap):dU (w1.alloc o) w.heap.size=some o:=by have:=heap_alloc_new w1 o;rw[h] at this;exact this
def alr(hA:At base U M0 w0 w m G){k:Nat}{T:TypeId}{cs:List V}{arr:Array Value}(hs:dn G.μ m (Gh U w G) cs arr.toList){u:Unit}{l l':Log}(h:(new k (.box T cs)).run m l=some (u,m',l')):
  ∃G',Nx base U M0 w0 w m G (w.alloc (.cells arr T)) m' G'/\aU G'.μ m' (Gh U (w.alloc (.cells arr T)) G') (.ptr k 0) (.pointer (some ⟨w.heap.size,0,none⟩)):=by
 obtain⟨hn,rfl⟩:=aaL h;refine⟨_,hA.ok.fresh hA.out hA.fr (gv:=.pointer (some ⟨w.heap.size,0,none⟩)) (N:=[w.heap.size]) hn Yz (by simp) (λb hb=>by simp at hb;subst hb;simp) (λh' hv hml _=> ?_), ?_⟩
 ·exact⟨w.heap.size,arr,by simp,XM rfl,sJ hml hv _ _ hs,rfl⟩
 ·simp[aU,jV,abP,awR]
def ahS(hg:Iu base U w m G)(ho:G.out=[])(hfr:Fr M0 w0 w G){w1:World}(hw1:w1.heap=w.heap)(hk1:Keep [] w w1){k:Nat}{fl:Bool}{s cap:Nat}{rows:List Row}{arr:Array Value}{T:TypeId}(hq:iK (dU w) (Gh U w G) s rows arr.toList G.E)
  (hcap:rows.length<=cap) (hsz:arr.size=cap * s) {u:Unit} {l l':Log} (h:(new k (.arr false fl 0 s rows)).run m l=some (u,m',l')):
  ∃G',Nx base U M0 w0 w m G (w1.alloc (.cells arr T)) m' G'/\aU G'.μ m' (Gh U (w1.alloc (.cells arr T)) G') (.own k 0) (.slice (some ⟨w.heap.size,0,none⟩) rows.length cap):=by
 obtain⟨hn,rfl⟩:=aaL h;have hsize:(w1.alloc (.cells arr T)).heap.size=w.heap.size+1:=by rw[World.size_alloc,hw1]
 have hkeep:Keep [] w (w1.alloc (.cells arr T)):=hk1.trans (Yz (M:=[])) (by simp);have hnE:w.heap.size ∉ G.E:=λhE=>by have:=(hg.lt _ (.inl hE)).1;omega
 have hnew:dU (w1.alloc (.cells arr T)) w.heap.size=some (.cells arr T (0,0)):=XM hw1;refine⟨_,hg.fresh ho hfr (gv:=.slice (some ⟨w.heap.size,0,none⟩) rows.length cap) (N:=w.heap.size::(match fl with|true=>[]|false=>G.E)) hn hkeep ?_ ?_ ?_, ?_⟩
 ·cases fl with
  |true=>simp
  |false=>exact List.nodup_cons.2 ⟨hnE,hg.ndE⟩
 ·intro b hb;simp only[List.mem_cons] at hb;rcases hb with rfl|hb
  ·exact⟨.inr (Nat.le_refl _),by rw[hsize];omega⟩
  ·cases fl with
   |true=>simp at hb
   |false=>exact⟨.inl hb,by rw[hsize];have:=(hg.lt b (.inl hb)).1;omega⟩
 ·intro h' hv hml aA7;simp only[sG,Uw];refine .inr ⟨w.heap.size,cap,arr,T,_,rfl,hcap,hnew,hsz, ?_,rfl⟩;cases fl with
  |true=>refine⟨PD hv s rows _ _ (λb hb=> ?_) hq,rfl⟩;refine aA7 b hb ?_ b (by simp);simp only[List.mem_singleton];intro e;exact hnE (e ▸ hb)
  |false=>exact JQ hv s rows _ _ (λb hb=>hkeep.block b (hg.lt b (.inl hb)).1 (by simp)) hq
 ·simp[aU,jV,abP,awR]
def YA(off:Nat):∀(xs:List Value) (k:Nat) (cells:Array Value),off+k+xs.length<=cells.size->
  ((xs.zipIdx k).foldl (λcs (c,j)=>cs.setIfInBounds (off+j) c) cells).toList=splice cells.toList (off+k) xs
 |[],k,cells,h=>by simp[splice]
 |x::xs,k,cells,h=>by simp only[nS] at h;simp only[List.zipIdx_cons,List.foldl_cons];rw[YA off xs (k+1) _ (by simp;omega)];have e:=list_seg_step cells.toList (off+k) x xs (by simp;omega);simpa[splice,Array.toList_setIfInBounds,Nat.add_assoc] using e
end
end Go.Vm
namespace Go.Vm
open Go
section
variable {base:Nat} {U:Nat->Prop} {M0:List Nat} {w0 w w':World} {m m':Mem} {G G':GS} {P:Program}
def Qc(base:Nat)(U:Nat->Prop)(M0:List Nat)(w0 w:World)(m:Mem)(G:GS)(P:Program)(s:Sem Value)(v:V)(m':Mem):Prop:=
 ∃g w' G',s.run P w=.ok g w'/\Nx base U M0 w0 w m G w' m' G'/\aU G'.μ m' (Gh U w' G') v g
def Qc.same(hA:At base U M0 w0 w m G){s:Sem Value}{g:Value}{v:V}(h:s.run P w=.ok g w)(hv:aU G.μ m (Gh U w G) v g):Qc base U M0 w0 w m G P s v m:=⟨g,w,G,h,hA.nx,hv⟩
def aw0(hA:At base U M0 w0 w m G){T k:Nat}{z:List V}(hz:Tc P T=some z){u:Unit}{l l':Log}(h:(new k (.box T z)).run m l=some (u,m',l')):
  Qc base U M0 w0 w m G P (Instr.alloc T true (.tuple #[])) (.ptr k 0) m':=by
 obtain⟨i,zv,hi,hzv,hs⟩:=VO (m:=m) (μ:=G.μ) (h:=Gh U w G) hz;obtain⟨G',hnx,Xq⟩:=alr hA hs h;refine⟨_,_,G', ?_,hnx,Xq⟩;simp[Instr.alloc,zeroValue,typeInfo,hi,hzv,newVar,newRow]
def aF7(hA:At base U M0 w0 w m G){T k:Nat}{v:V}{g:Value}(hv:aU G.μ m (Gh U w G) v g)(h1:v.cells.all one=true){u:Unit}{l l':Log}(h:(new k (.box T v.cells)).run m l=some (u,m',l')):
  Qc base U M0 w0 w m G P (Instr.box T g) (.ptr k 0) m':=by
 obtain⟨hs,_⟩:=cells_ok h1 hv;obtain⟨G',hnx,Xq⟩:=alr hA hs h;refine⟨_,_,G', ?_,hnx,Xq⟩;simp[Instr.box,newVar,newRow]
def afl:∀(fs:List Field),(fs.all λf=>match P.info? f.type with|some _=>true|none=>false)=true->
  ∃places,fs.mapM (λf=>(P.info? f.type).map λi=>(f.offset,i.size))=some places/\∀(j:Nat) f,fs[j]? =some f->places[j]? =some (f.offset,qO P f.type)
 |[],_=>⟨[],by simp,by simp⟩
 |f::fs,h=>by
  simp only[List.all_cons,MS] at h;obtain⟨places,h1,h2⟩:=afl fs h.2;cases hi:P.info? f.type with
  |none=>simp[hi] at h
  |some i=>
   refine⟨(f.offset,i.size)::places,by simp[List.mapM_cons,hi,h1], ?_⟩;intro j g hj;cases j with
   |zero=>simp at hj;subst hj;simp[qO,hi]
   |succ j=>simpa using h2 j g (by simpa using hj)
def abd{T:TypeId}{fs:Array Field}(hu:P.underlying T=some (.struct fs)){place:Nat->Option (Nat×Nat)}(hp:∀(j:Nat) f,fs[j]? =some f->place j=some (f.offset,qO P f.type)){tm:mg}{a:Act}
  {μ:Nat->Value} {h:View}:∀(ps:List (Nat×Operand)) {m:Mem} (_:acW μ m h tm a) {cs:List V} {cells:Array Value} (_:dn μ m h cs cells.toList) {out:List V} {m':Mem} {l l':Log}
  (_:(xU P T tm ps cs).run m l=some (out,m',l')),m'=m/\∃r,Instr.fill place cells (ps.map λx=>(x.1,a.eval x.2))=some r/\dn μ m h out r.toList
 |[],m,hT,cs,cells,hs,out,m',l,l',hr=>by simp only[xU,run_pure,je,lN] at hr;obtain⟨rfl,rfl,_⟩:=hr;exact⟨rfl,cells,rfl,hs⟩
 |(f,x)::ps,m,hT,cs,cells,hs,out,m',l,l',hr=>by
  simp only[xU] at hr;replace hr:=aj hr;obtain⟨⟨o,n,t⟩,m1,l1,h1,hr⟩:=hr;obtain⟨hf,rfl,rfl⟩:=lD h1;simp only at hr;replace hr:=aj hr;obtain⟨_,m2,l2,h2,hr⟩:=hr;obtain⟨hlen,rfl,rfl⟩:=eH h2;replace hr:=aj hr;obtain⟨_,m2,l2,h2,hr⟩:=hr;obtain⟨hone,rfl,rfl⟩:=eH h2;replace hr:=aj hr;obtain⟨_,m2,l2,h2,hr⟩:=hr;obtain⟨hfit,rfl,rfl⟩:=eH h2;have hlen:=Hy hlen;have hfit:=Nat.le_of_ble_eq_true hfit;obtain⟨hv,hv1⟩:=cells_ok hone (ZK hT t x);have hgl:(a.eval x).cells.size=n:=by rw[<-hlen,<-kT hv,Array.length_toList]
  have hcl:cells.size=cs.length:=by rw[<-kT hs,Array.length_toList]
  have hpl:place f=some (o,n):=by
   unfold Yt at hf;rw[hu] at hf;simp only at hf;cases hfd:fs[f]? with
   |none=>simp[hfd] at hf
   |some fd=>simp only[hfd,je,lN] at hf;obtain⟨rfl,rfl,rfl⟩:=hf;exact hp f fd hfd
  have hsp:=YA o (a.eval x).cells.toList 0 cells (by simp;omega);have hz:(a.eval x).cells.zipIdx.foldl (λcs (c,j)=>cs.setIfInBounds (o+j) c) cells=(splice cells.toList o (a.eval x).cells.toList).toArray:=by apply Array.ext';rw[<-Array.foldl_toList];simpa using hsp
  obtain⟨hm,r,hr1,hr2⟩:=abd hu hp ps hT (cells:=(splice cells.toList o (a.eval x).cells.toList).toArray) (by simpa using Yx o hs hv) hr;refine⟨hm,r, ?_,hr2⟩;simp only[RQ,Instr.fill,hpl];rw[if_neg (by simp[hgl];omega),hz];exact hr1
def avc(hA:At base U M0 w0 w m G){tm:mg}{a:Act}(hT:acW G.μ m (Gh U w G) tm a){T:TypeId}{ps:Array (Nat×Operand)}{v:V}{l l':Log}(h:(amR P T tm ps.toList).run m l=some (v,m',l')):
  Qc base U M0 w0 w m G P (Instr.build T (ps.map λx=>(x.1,a.eval x.2))) v m':=by
 simp only[amR] at h;replace h:=aj h;obtain⟨_,m1,l1,h1,h⟩:=h;obtain⟨hok,rfl,rfl⟩:=eH h1;replace h:=aj h;obtain⟨z,m1,l1,h1,h⟩:=h;obtain⟨hz,rfl,rfl⟩:=lD h1;replace h:=aj h;obtain⟨cs,m2,l2,h2,h⟩:=h;simp only[run_pure,je,lN] at h;obtain⟨rfl,rfl,_⟩:=h;obtain⟨i,zv,hi,hzv,hs⟩:=VO (m:=m1) (μ:=G.μ) (h:=Gh U w G) hz;unfold aoe at hok;cases hu:P.underlying T with
 |none=>simp[hu] at hok
 |some d=>
  rw[hu] at hok;cases d with
  |struct fs=>simp only at hok;obtain⟨places,hpl,hpg⟩:=afl fs.toList hok;obtain⟨hm,r,hr1,hr2⟩:=abd (place:=(places.toArray[·]?)) hu (λj f hj=>by simpa using hpg j f (by simpa using hj)) ps.toList hT hs h2;subst hm;refine Qc.same hA (g:=.agg r) ?_ (by simp only[aU];exact⟨r,rfl,hr2⟩);refine run_build w T _ r ?_;unfold Program.built;simp only[hi,hu,hzv,hpl];simpa[Array.toList_map] using hr1
  |_=>simp at hok
def ZM{e:TypeId}{size:Nat}(hsz:qO P e=size){tm:mg}{a:Act}
  {μ:Nat->Value} {h:View}:∀(ps:List (Nat×Operand)) {m:Mem} (_:acW μ m h tm a) {cs:List V} {cells:Array Value} (_:dn μ m h cs cells.toList) {out:List V} {m':Mem} {l l':Log}
  (_:(uH P e tm ps cs).run m l=some (out,m',l')),m'=m/\∃r,Instr.fill (λi=>some (i * size,size)) cells (ps.map λx=>(x.1,a.eval x.2))=some r/\dn μ m h out r.toList
 |[],m,hT,cs,cells,hs,out,m',l,l',hr=>by simp only[uH,run_pure,je,lN] at hr;obtain⟨rfl,rfl,_⟩:=hr;exact⟨rfl,cells,rfl,hs⟩
 |(i,x)::ps,m,hT,cs,cells,hs,out,m',l,l',hr=>by
  simp only[uH] at hr;replace hr:=aj hr;obtain⟨_,m2,l2,h2,hr⟩:=hr;obtain⟨hlen,rfl,rfl⟩:=eH h2;replace hr:=aj hr;obtain⟨_,m2,l2,h2,hr⟩:=hr;obtain⟨hone,rfl,rfl⟩:=eH h2;replace hr:=aj hr;obtain⟨_,m2,l2,h2,hr⟩:=hr;obtain⟨hfit,rfl,rfl⟩:=eH h2;have hlen:=Hy hlen;have hfit:=Nat.le_of_ble_eq_true hfit;rw[hsz] at hlen hfit hr;obtain⟨hv,hv1⟩:=cells_ok hone (ZK hT e x);have hgl:(a.eval x).cells.size=size:=by rw[<-hlen,<-kT hv,Array.length_toList]
  have hcl:cells.size=cs.length:=by rw[<-kT hs,Array.length_toList]
  have hsp:=YA (i * size) (a.eval x).cells.toList 0 cells (by simp;omega);have hz:(a.eval x).cells.zipIdx.foldl (λcs (c,j)=>cs.setIfInBounds (i * size+j) c) cells=(splice cells.toList (i * size) (a.eval x).cells.toList).toArray:=by apply Array.ext';rw[<-Array.foldl_toList];simpa using hsp
  obtain⟨hm,r,hr1,hr2⟩:=ZM hsz ps hT (cells:=(splice cells.toList (i * size) (a.eval x).cells.toList).toArray) (by simpa using Yx (i * size) hs hv) hr;refine⟨hm,r, ?_,hr2⟩;simp only[RQ,Instr.fill];rw[if_neg (by simp[hgl];omega),hz];exact hr1
def avd(hA:At base U M0 w0 w m G){tm:mg}{a:Act}(hT:acW G.μ m (Gh U w G) tm a){T:TypeId}{ps:Array (Nat×Operand)}{v:V}{l l':Log}(h:(amS P T tm ps.toList).run m l=some (v,m',l')):
  Qc base U M0 w0 w m G P (Instr.build T (ps.map λx=>(x.1,a.eval x.2))) v m':=by
 unfold amS at h;split at h
 ·rename_i n e har;unfold arT at har;cases hu:P.underlying T with
  |none=>simp[hu] at har
  |some d=>rw[hu] at har;cases d<;>simp at har;obtain⟨rfl,rfl⟩:=har;simp only[aso] at h;replace h:=aj h;obtain⟨_,m1,l1,h1,h⟩:=h;obtain⟨hok,rfl,rfl⟩:=eH h1;replace h:=aj h;obtain⟨z,m1,l1,h1,h⟩:=h;obtain⟨hz,rfl,rfl⟩:=lD h1;replace h:=aj h;obtain⟨cs,m2,l2,h2,h⟩:=h;simp only[run_pure,je,lN] at h;obtain⟨rfl,rfl,_⟩:=h;obtain⟨i,zv,hi,hzv,hs⟩:=VO (m:=m1) (μ:=G.μ) (h:=Gh U w G) hz;obtain⟨d',hd'⟩:=JR hok;obtain⟨inf,Sz⟩:=EJ hd';obtain⟨hm,r,hr1,hr2⟩:=ZM (P9 Sz) ps.toList hT hs h2;subst hm;refine Qc.same hA (g:=.agg r) ?_ (by simp only[aU];exact⟨r,rfl,hr2⟩);refine run_build w T _ r ?_;unfold Program.built;simp only[hi,hu,hzv,Sz];simpa[Array.toList_map] using hr1
 ·exact avc hA hT h
def abe{e:TypeId}{tm:mg}{a:Act}:∀(ps:List (Nat×Operand)) {m:Mem} {G:GS} {k:Nat} (_:Iu base U w m G) (_:G.out=[]) (_:acW G.μ m (Gh U w G) tm a) {rows:List Row} {m':Mem} {l l':Log}
  (_:(xW P e tm k ps).run m l=some (rows,m',l')),∃G' N,PV base U w m G m' G' N/\iK (dU w) (Gh U w G') (qO P e) rows ((ps.map λx=>a.eval x.2).flatMap λv=>v.cells.toList) N/\rows.length=ps.length/\
   (∀v∈ps.map (λx=>a.eval x.2),v.cells.size=qO P e)/\ps.map (λx=>(x.1,a.eval x.2))=((ps.map λx=>a.eval x.2).zipIdx k).map λx=>(x.2,x.1)
 |[],m,G,k,hg,ho,hT,rows,m',l,l',h=>by simp only[xW,run_pure,je,lN] at h;obtain⟨rfl,rfl,_⟩:=h;exact⟨G,[],PV.same hg,by simp[iK],rfl,by simp,by simp⟩
 |(i,x)::ps,m,G,k,hg,ho,hT,rows,m',l,l',h=>by
  simp only[xW] at h;replace h:=aj h;obtain⟨_,m1,l1,h1,h⟩:=h;obtain⟨hik,rfl,rfl⟩:=eH h1;have hik:=Hy hik;subst hik;replace h:=aj h;obtain⟨_,m1,l1,h1,h⟩:=h;obtain⟨hlen,rfl,rfl⟩:=eH h1;have hlen:=Hy hlen;replace h:=aj h;obtain⟨row,m2,l2,h2,h⟩:=h;replace h:=aj h;obtain⟨rows',m3,l3,h3,h⟩:=h;simp only[run_pure,je,lN] at h;obtain⟨rfl,rfl,_⟩:=h;have hev:=ZK (P:=P) hT e x;have hcells:∃gs,dn G.μ m1 (Gh U w G) (ev P tm e x).cells gs/\(a.eval x).cells.toList=gs:=by
   generalize ev P tm e x=v at hev h2 hlen;cases v with
   |agg cs=>simp only[aU] at hev;obtain⟨arr,he,hq⟩:=hev;exact⟨arr.toList,hq,by rw[he];rfl⟩
   |d y=>have h1:(a.eval x).oneCell'=true:=qo (v:=.d y) rfl hev;exact⟨[a.eval x],by simp only[V.cells,dn];exact⟨_,[],rfl,hev,rfl⟩,by rw[cells_one h1]⟩
   |nil s=>have h1:(a.eval x).oneCell'=true:=qo (v:=.nil s) rfl hev;exact⟨[a.eval x],by simp only[V.cells,dn];exact⟨_,[],rfl,hev,rfl⟩,by rw[cells_one h1]⟩
   |own r ver=>have h1:(a.eval x).oneCell'=true:=qo (v:=.own r ver) rfl hev;exact⟨[a.eval x],by simp only[V.cells,dn];exact⟨_,[],rfl,hev,rfl⟩,by rw[cells_one h1]⟩
   |ptr r o=>have h1:(a.eval x).oneCell'=true:=qo (v:=.ptr r o) rfl hev;exact⟨[a.eval x],by simp only[V.cells,dn];exact⟨_,[],rfl,hev,rfl⟩,by rw[cells_one h1]⟩
   |Ej r v i o=>have h1:(a.eval x).oneCell'=true:=qo (v:=.Ej r v i o) rfl hev;exact⟨[a.eval x],by simp only[V.cells,dn];exact⟨_,[],rfl,hev,rfl⟩,by rw[cells_one h1]⟩
   |uN r o=>have h1:(a.eval x).oneCell'=true:=qo (v:=.uN r o) rfl hev;exact⟨[a.eval x],by simp only[V.cells,dn];exact⟨_,[],rfl,hev,rfl⟩,by rw[cells_one h1]⟩
   |Em q=>have h1:(a.eval x).oneCell'=true:=qo (v:=.Em q) rfl hev;exact⟨[a.eval x],by simp only[V.cells,dn];exact⟨_,[],rfl,hev,rfl⟩,by rw[cells_one h1]⟩
   |clo f p q=>have h1:(a.eval x).oneCell'=true:=qo (v:=.clo f p q) rfl hev;exact⟨[a.eval x],by simp only[V.cells,dn];exact⟨_,[],rfl,hev,rfl⟩,by rw[cells_one h1]⟩
   |FQ vs=>simp only[V.cells,PZ,toD] at h2;replace h2:=aj h2;obtain⟨_,_,_,h4,_⟩:=h2;exact(ay h4).elim
   |undef=>simp only[V.cells,PZ,toD] at h2;replace h2:=aj h2;obtain⟨_,_,_,h4,_⟩:=h2;exact(ay h4).elim
  obtain⟨gs,hgs,hge⟩:=hcells;obtain⟨G1,N1,t1,q1,hrl⟩:=VI hg hgs ho h2;have hT1:acW G1.μ m2 (Gh U w G1) tm a:=λt v hv=>⟨(hT t v hv).1,t1.le.aU (hT t v hv).2⟩
  obtain⟨G2,N2,t2,q2,hl2,hs2,hz2⟩:=abe ps t1.ok (t1.out.trans ho) hT1 h3;have hgl:gs.length=qO P e:=by rw[kT hgs,hlen]
  refine⟨G2,N1++N2,t1.trans t2, ?_,by simp[hl2], ?_, ?_⟩
  ·simp only[iK,RQ,List.flatMap_cons,hge];refine⟨by rw[hrl,hlen],N1,N2,rfl,Sv (by rw[hrl,<-kT hgs];simp) (abT t2.le.view q1), ?_⟩;rw[List.drop_append_of_le_length ak,List.drop_eq_nil_of_le ak];exact q2
  ·intro v hv;simp only[RQ,List.mem_cons] at hv;rcases hv with rfl|hv
   ·rw[<-Array.length_toList,hge,hgl]
   ·exact hs2 v hv
  ·simp only[RQ,List.zipIdx_cons,hz2]
def ahT(hA:At base U M0 w0 w m G){tm:mg}{a:Act}(hT:acW G.μ m (Gh U w G) tm a){t:TypeId}{n k:Nat}{ps:Array (Nat×Operand)}{v:V}{l l':Log}(h:(WM P k t n tm ps.toList).run m l=some (v,m',l')):
  Qc base U M0 w0 w m G P (Instr.buildSlice t n (ps.map λx=>(x.1,a.eval x.2))) v m':=by
 simp only[WM] at h;replace h:=aj h;obtain⟨e,m1,l1,h1,h⟩:=h;obtain⟨he,rfl,rfl⟩:=lD h1;replace h:=aj h;obtain⟨_,m1,l1,h1,h⟩:=h;obtain⟨hs1,rfl,rfl⟩:=eH h1;replace h:=aj h;obtain⟨_,m1,l1,h1,h⟩:=h;obtain⟨hn,rfl,rfl⟩:=eH h1;replace h:=aj h;obtain⟨_,m1,l1,h1,h⟩:=h;obtain⟨hb,rfl,rfl⟩:=eH h1;replace h:=aj h;obtain⟨z,m1,l1,h1,h⟩:=h;obtain⟨hz,rfl,rfl⟩:=lD h1;obtain⟨inf,zv,hi,hzv,_⟩:=VO (m:=m1) (μ:=G.μ) (h:=Gh U w G) hz;replace h:=aj h;obtain⟨rows,m2,l2,h2,h⟩:=h;replace h:=aj h;obtain⟨_,m3,l3,h3,h⟩:=h;simp only[run_pure,je,lN] at h;obtain⟨rfl,rfl,_⟩:=h;have hs1:=Nat.le_of_ble_eq_true hs1;have hn:=Hy hn;have hb:=Nat.le_of_ble_eq_true hb;have hu:=XL he;obtain⟨G1,N1,t1,q1,hrl,hsz,aYK⟩:=abe (e:=e) ps.toList hA.ok hA.out hT h2;obtain⟨hE1,ho1,aon⟩:=hA.took t1;have hsz':qO P e=inf.size:=P9 hi;have hrn:rows.length=n:=by rw[hrl,hn]
 by_cases hn0:n=0
 ·subst hn0;have hps:ps.toList=[]:=List.eq_nil_of_length_eq_zero hn;have hrows:rows=[]:=List.eq_nil_of_length_eq_zero hrn;subst hrows;have hpa:ps=#[]:=by cases ps;simp_all
  subst hpa;simp only[iK] at q1;obtain⟨G2,hnx,Xq⟩:=ahS (w1:=w) (cap:=0) (arr:=#[]) (T:=e) t1.ok ho1 aon rfl (Keep.refl _ _) (k:=k) (fl:=Hz P e) (s:=qO P e) (rows:=[]) (by rw[hE1,q1];simp[iK]) (by simp) (by simp) h3;refine⟨_,_,G2, ?_,Nx.after t1.le hnx,Xq⟩;simp[Instr.buildSlice,run_underlying hu,sizeOf,typeInfo,hi,Instr.fill,newRow,Array.range_zero']
 ·have hpos:¬n * inf.size=0:=by rw[<-hsz'];intro e0;rcases Nat.mul_eq_zero.1 e0 with e1|e1<;>omega
  have hsmall:¬n * inf.size>2 ^ 24:=by rw[<-hsz'];omega
  have aw1:=Go.Great.fill_whole (s:=qO P e) ak (ps.toList.map λx=>a.eval x.2) ((Array.range (n * inf.size)).map (zv.cells[· % zv.cells.size]!)) hsz (by simp[<-hsz'];rw[<-hn];simp);rw[<-aYK] at aw1;have hrun:=run_buildSlice w t e n (ps.map λx=>(x.1,a.eval x.2)) _ inf zv hu hi hzv hsmall hpos (by rw[<-hsz'];rw[<-hsz'] at aw1;simpa[Array.toList_map] using aw1);have hcl:((ps.toList.map λx=>a.eval x.2).flatMap λv=>v.cells.toList).length=n * qO P e:=by
   have:∀(l:List Value),(∀v∈l,v.cells.size=qO P e)->(l.flatMap λv=>v.cells.toList).length=l.length * qO P e:=by
    intro l;induction l with
    |nil=>simp
    |cons v l ih=>intro hv;simp only[List.flatMap_cons,qK,nS,Nat.add_mul,Array.length_toList];rw[ih (λu hu=>hv u (by simp[hu])),hv v (by simp)];omega
   rw[this _ hsz];simp[<-hn]
  obtain⟨G2,hnx,Xq⟩:=ahS (w1:=w) (cap:=n) (arr:=((ps.toList.map λx=>a.eval x.2).flatMap λv=>v.cells.toList).toArray) (T:=e) t1.ok ho1 aon rfl (Keep.refl _ _) (k:=k) (fl:=Hz P e) (s:=qO P e) (rows:=rows) (by rw[hE1];simpa using q1) ak (by simp[hcl]) h3;rw[hrn] at Xq;exact⟨_,_,G2,hrun,Nx.after t1.le hnx,Xq⟩
end
end Go.Vm
namespace Go.Vm
open Go
section
variable {base:Nat} {U:Nat->Prop} {M0:List Nat} {w0 w w':World} {m m':Mem} {G G':GS} {P:Program}
def afm{h:View}{b:Nat}:∀(r:Row) (o:Nat),yX h r b o->∃cs:List Value,cs.length=r.length/\(∀j v,cs[j]? =some v->h b (o+j)=some v)/\jq h r cs
 |[],_,_=>⟨[],rfl,by simp,trivial⟩
 |x::r,o,q=>by
  simp only[yX] at q;obtain⟨⟨v,h1,h2⟩,h3⟩:=q;obtain⟨cs,e1,e2,e3⟩:=afm r (o+1) h3;refine⟨v::cs,by simp[e1], ?_,⟨v,cs,rfl,h2,e3⟩⟩;intro j u hj;cases j with
  |zero=>simp at hj;subst hj;exact h1
  |succ j=>
   have:=e2 j u (by simpa using hj)
   rwa [show o+(j+1)=o+1+j from by omega]
def YB{h:View}{s b:Nat}:∀(rs:List Row) (o:Nat),oV h s rs b o->∃cs:List Value,cs.length=rs.length * s/\(∀j v,cs[j]? =some v->h b (o+j)=some v)/\jm h s rs cs
 |[],_,_=>⟨[],by simp,by simp,trivial⟩
 |r::rs,o,q=>by
  simp only[oV] at q;obtain⟨h1,h2,h3⟩:=q;obtain⟨cs1,a1,a2,a3⟩:=afm r o h2;obtain⟨cs2,b1,b2,b3⟩:=YB rs (o+s) h3;have hl:cs1.length=s:=by rw[a1,h1]
  refine⟨cs1++cs2,by simp[hl,b1,Nat.add_mul];omega, ?_,h1, ?_, ?_⟩
  ·intro j u hj
   by_cases hlt:j<s
   ·rw[List.getElem?_append_left ak] at hj;exact a2 j u hj
   ·rw[List.getElem?_append_right ak,hl] at hj;have:=b2 (j - s) u hj
    rwa [show o+j=o+s+(j - s) from by omega]
  ·refine Qb ?_ a3;rw[List.take_append_of_le_length ak]
  ·rw[List.drop_append_of_le_length ak,List.drop_eq_nil_of_le ak];exact b3
def afn{h:View}:∀{r:Row} {cs:List Value},jq h r cs->∀u∈cs.take r.length,u.oneCell'=true
 |[],_,_=>by simp
 |x::r,cs,⟨v,cs',e,h1,h2⟩=>by
  subst e;intro u hu;simp only[nS,List.take_succ_cons,List.mem_cons] at hu;rcases hu with rfl|hu
  ·exact Xp h1
  ·exact afn h2 u hu
def YC{h:View}{s:Nat}:∀{rs:List Row} {cs:List Value},jm h s rs cs->∀u∈cs.take (rs.length * s),u.oneCell'=true
 |[],_,_=>by simp
 |r::rs,cs,⟨h1,h2,h3⟩=>by
  intro u hu;have hs:(r::rs).length * s=s+rs.length * s:=by simp[Nat.add_mul];omega
  rw[hs,List.take_add] at hu;simp only[List.mem_append] at hu;rcases hu with hu|hu
  ·exact afn h2 u (by rw[h1];exact hu)
  ·exact YC h3 u hu
def akA{H:Heap}{h:View}{x:D}{g:Value}{N:List Nat}(q:ow H h x g N):g.oneCell'=true:=by
 cases x with
 |sl o s rows=>
  cases o with
  |false=>simp only[ow] at q;exact Xp q.2
  |true=>simp only[ow] at q;rcases q with⟨_,rfl,_⟩|⟨b,cap,cs,t,N',rfl,_⟩<;>rfl
 |_=>simp only[ow] at q;rw[q.1];rfl
def als{H:Heap}{h:View}:∀{r:Row} {cs:List Value} {N:List Nat},jE H h r cs N->∀u∈cs.take r.length,u.oneCell'=true
 |[],_,_,_=>by simp
 |x::r,cs,N,q=>by
  obtain⟨v,cs',N1,N2,rfl,rfl,h1,h2⟩:=Ph q;intro u hu;simp only[nS,List.take_succ_cons,List.mem_cons] at hu;rcases hu with rfl|hu
  ·exact akA h1
  ·exact als h2 u hu
def ahU{H:Heap}{h:View}{s:Nat}:∀{rs:List Row} {cs:List Value} {N:List Nat},iK H h s rs cs N->∀u∈cs.take (rs.length * s),u.oneCell'=true
 |[],_,_,_=>by simp
 |r::rs,cs,N,q=>by
  simp only[iK] at q;obtain⟨h1,N1,N2,rfl,h2,h3⟩:=q;intro u hu;have hs:(r::rs).length * s=s+rs.length * s:=by simp[Nat.add_mul];omega
  rw[hs,List.take_add] at hu;simp only[List.mem_append] at hu;rcases hu with hu|hu
  ·exact als h2 u (by rw[h1];exact hu)
  ·exact ahU h3 u hu
def Ja(H:Heap)(h:View)(fl:Bool)(s:Nat)(rows:List Row)(cs:List Value)(N:List Nat):Prop:=match fl with
 |true=>jm h s rows cs/\N=[]
 |false=>iK H h s rows cs N
def SA{H:Heap}{h:View}{fl:Bool}{s:Nat}{rows:List Row}{cs cs':List Value}{N:List Nat}(e:cs.take (rows.length * s)=cs'.take (rows.length * s))(q:Ja H h fl s rows cs N):Ja H h fl s rows cs' N:=by
 cases fl with
 |true=>exact⟨Tj e q.1,q.2⟩
 |false=>exact WU e q
def acX{H:Heap}{h:View}{fl:Bool}{s:Nat}{a b:List Row}{cs:List Value}{N N':List Nat}(q:Ja H h fl s a cs N)(q':Ja H h fl s b (cs.drop (a.length * s)) N'):Ja H h fl s (a++b) cs (N++N'):=by
 cases fl with
 |true=>exact⟨NZ.2 ⟨q.1,q'.1⟩,by rw[q.2,q'.2];rfl⟩
 |false=>exact NQ.2 ⟨N,N',rfl,q,q'⟩
def Pm{H H':Heap}{h h':View}(hl:h.le h'){fl:Bool}{s:Nat}{rows:List Row}{cs:List Value}{N:List Nat}(hb:∀b,b∈N->H' b=H b)(q:Ja H h fl s rows cs N):Ja H' h' fl s rows cs N:=by
 cases fl with
 |true=>exact⟨NP hl s rows _ q.1,q.2⟩
 |false=>exact JQ hl s rows _ N hb q
mutual
def aw2{H:Heap}{h:View}:∀(x:D) (v:Value),ro h x.fz v->ow H h x.fz v []
 | .int _ _,_,q=>by simpa[D.fz,ow,ro] using q
 | .bool _,_,q=>by simpa[D.fz,ow,ro] using q
 | .str _,_,q=>by simpa[D.fz,ow,ro] using q
 | .VG,_,q=>by simpa[D.fz,ow,ro] using q
 | .sl _ s rows,v,q=>by simp only[D.fz,ow,true_and] at q|-;exact q
end
def afo{H:Heap}{h:View}:∀(r:Row) (cs:List Value),jq h (qm r) cs->jE H h (qm r) cs []
 |[],_,_=>by simp[qm,jE]
 |x::r,cs,q=>by simp only[qm,jq] at q;obtain⟨v,cs',e,h1,h2⟩:=q;simp only[qm,jE];exact⟨v,cs',[],[],e,rfl,aw2 x v h1,afo r cs' h2⟩
def acY{H:Heap}{h:View}{s:Nat}:∀(rs:List Row) (cs:List Value),jm h s (aG rs) cs->iK H h s (aG rs) cs []
 |[],_,_=>by simp[aG,iK]
 |r::rs,cs,q=>by simp only[aG,jm] at q;obtain⟨h1,h2,h3⟩:=q;simp only[aG,iK];exact⟨h1,[],[],rfl,afo r cs h2,acY rs _ h3⟩
def ahV{h:View}:∀{r:Row} {cs:List Value},jq h r cs->jq h (qm r) cs
 |[],_,_=>by simp[qm,jq]
 |x::r,cs,⟨v,cs',e,h1,h2⟩=>by simp only[qm,jq];exact⟨v,cs',e,awS x v h1,ahV h2⟩
def afp{h:View}{s:Nat}:∀{rs:List Row} {cs:List Value},jm h s rs cs->jm h s (aG rs) cs
 |[],_,_=>by simp[aG,jm]
 |r::rs,cs,⟨h1,h2,h3⟩=>by simp only[aG,jm];exact⟨by rw[Yv];exact h1,ahV h2,afp h3⟩
structure Tail(P:Program)(base:Nat)(U:Nat->Prop)(w:World)(m:Mem)(G:GS)(size:Nat)(fl:Bool)(gy:Value)(ys:List Row)(m':Mem):Prop where
 ex:∃G' news,Iu base U w m' G'/\GLe m G m' G'/\G'.out=G.out/\G'.μ=G.μ/\Src P size w gy ys.length news/\Ja (dU w) (Gh U w G') fl size ys news G'.E/\∀r c,get r m=some c->get r m'=some c\/get r m'=some .dead
def aA8(hA:At base U M0 w0 w m G){e:TypeId}{y:V}{gy:Value}(hy:aU G.μ m (Gh U w G) y gy)(hsz:1<=qO P e){ys:List Row}{l l':Log}(h:(tail P e y).run m l=some (ys,m',l')):
  Tail P base U w m G (qO P e) (Hz P e) gy ys m':=by
 have plain:∀(ys:List Row) (news:List Value),Src P (qO P e) w gy ys.length news->(Hz P e=true->jm (Gh U w G) (qO P e) ys news)->(Hz P e=false->iK (dU w) (Gh U w G) (qO P e) ys news [])->
   Tail P base U w m G (qO P e) (Hz P e) gy ys m:=by
  intro ys news h1 h2 h3;refine⟨G,news,hA.ok,GLe.refl _ _,rfl,rfl,h1, ?_,λr c h=> .inl h⟩;rw[hA.E];cases hf:Hz P e with
  |true=>exact⟨h2 hf,rfl⟩
  |false=>exact h3 hf
 have seen:∀(rows:List Row) (o:Bool),ro (Gh U w G) (.sl o (qO P e) rows) gy->Tail P base U w m G (qO P e) (Hz P e) gy (vw (Hz P e) rows) m:=by
  intro rows o hq;simp only[ro] at hq;obtain⟨a,cap,rfl,hcap,hne⟩:=hq;have hvl:(vw (Hz P e) rows).length=rows.length:=by unfold vw;cases Hz P e<;>simp[Xn]
  by_cases hr:rows=[]
  ·subst hr;have hv:vw (Hz P e) []=[]:=by unfold vw;cases Hz P e<;>simp[aG]
   rw[hv];exact plain [] [] (Src.slice (by simp) (by simp) (by simp)) (λ_=>trivial) (λ_=>by simp[iK])
  ·obtain⟨b,o',rfl,hrows⟩:=hne hr;obtain⟨cs,c1,c2,c3⟩:=YB rows o' hrows;refine plain _ cs ?_ (λhf=> ?_) (λhf=> ?_)
   ·rw[hvl];refine Src.slice c1 (λu hu=> ?_) (λ_=>⟨b,o',rfl,λj v hj=>vO _ _ _ _ _ _ (c2 j v hj)⟩);exact YC c3 u (by rw[<-c1,List.take_length];exact hu)
   ·rw[hf];exact c3
   ·rw[hf];simp only[vw,bn];exact acY rows cs (afp c3)
 cases y with
 |d x=>
  cases x with
  |str s=>simp only[Vm.tail] at h;replace h:=aj h;obtain⟨_,m1,l1,h1,h⟩:=h;obtain⟨hs,rfl,rfl⟩:=eH h1;simp only[run_pure,je,lN] at h;obtain⟨rfl,rfl,_⟩:=h;have hs:=Hy hs;simp only[aU,ro] at hy;subst hy;have aEv:=awW (h:=Gh U w G) s _ rfl;refine plain _ _ (by rw[hs];simpa using Src.string) (λ_=>by rw[hs];exact aEv) (λ_=> ?_);rw[hs];refine ZG 1 _ _ ?_ aEv;simp[aA,byteRow,D.flat]
  |sl o s rows=>simp only[Vm.tail] at h;replace h:=aj h;obtain⟨_,m1,l1,h1,h⟩:=h;obtain⟨hs,rfl,rfl⟩:=eH h1;simp only[run_pure,je,lN] at h;obtain⟨rfl,rfl,_⟩:=h;have hs:=Hy hs;subst hs;simp only[aU] at hy;exact seen rows o hy
  |int _ _=>exact(ay h).elim
  |bool _=>exact(ay h).elim
  |VG=>exact(ay h).elim
 |nil s=>simp only[Vm.tail,run_pure,je,lN] at h;obtain⟨rfl,rfl,_⟩:=h;simp only[aU] at hy;subst hy;exact plain [] [] (Src.slice (by simp) (by simp) (by simp)) (λ_=>trivial) (λ_=>by simp[iK])
 |own r ver=>
  simp only[Vm.tail] at h;replace h:=aj h;obtain⟨c,m1,l1,h1,h⟩:=h;rw[zD] at h1;cases h1;cases hc:get r m with
  |none=>rw[hc] at h;exact(ay h).elim
  |some c=>
   rw[hc] at h;cases c with
   |box _ _=>exact(ay h).elim
   |dead=>exact(ay h).elim
   |qN _ _=>exact(ay h).elim
   |arr fz fl uO s rows=>
    simp only at h;replace h:=aj h;obtain⟨_,m1,l1,h1,h⟩:=h;obtain⟨hb,rfl,rfl⟩:=eH h1;have hb:=Hy hb;subst hb;replace h:=aj h;obtain⟨_,m1,l1,h1,h⟩:=h;obtain⟨hs,rfl,rfl⟩:=eH h1;have hs:=Hy hs;subst hs;simp only[aU,hc] at hy;have hy:=hy.2.2 trivial;subst hy;have hro:r ∉ G.out:=by rw[hA.out];simp
    have hcell:=hA.ok.cell r _ hc hro;cases hf:Hz P e with
    |true=>
     rw[hf] at h;simp only at h;replace h:=aj h;obtain⟨_,m1,l1,h1,h⟩:=h;obtain⟨hff,rfl,rfl⟩:=eH h1;simp only[run_pure,je,lN] at h;obtain⟨rfl,rfl,_⟩:=h;cases fz with
     |true=>have:=seen rows true hcell.1;rw[hf] at this;simpa[vw] using this
     |false=>
      have hfl:fl=true:=by simpa using hff
      subst hfl;rw[hf] at plain;simp only[sG] at hcell;rcases hcell with⟨rfl,hμ,_⟩|⟨b,cap,cs,T,N',h1,h2,h3,h4,h5,_⟩
      ·rw[hμ] at plain|-;exact plain [] [] (Src.slice (by simp) (by simp) (by simp)) (λ_=>trivial) (λe=>by cases e)
      ·rw[h1] at plain|-;have hle:rows.length * qO P e<=cs.toList.length:=by
        have hcl:cs.toList.length=cap * qO P e:=by simpa using h4
        rw[hcl];exact Nat.mul_le_mul_right _ h2
       refine plain rows (cs.toList.take (rows.length * qO P e)) (Src.slice (by rw[XE];omega) (λu hu=>YC h5.1 u hu) (λ_=>⟨b,0,rfl,λj v hj=> ?_⟩)) (λ_=>Tj (by rw[List.take_take,Nat.min_self]) h5.1) (λe=>by cases e);rw[List.getElem?_take] at hj;split at hj
       ·have:=full_cell (w:=w) h3 (0+j);rw[Nat.zero_add] at this|-;rw[hj] at this;exact this
       ·cases hj
    |false=>
     rw[hf] at h;simp only at h;replace h:=aj h;obtain⟨_,m1,l1,h1,h⟩:=h;obtain⟨hff,rfl,rfl⟩:=eH h1;have hfl:fl=false:=by simpa using hff
     subst hfl;cases fz with
     |true=>simp only[run_pure,je,lN] at h;obtain⟨rfl,rfl,_⟩:=h;have:=seen rows true hcell.1;rw[hf] at this;simpa[vw] using this
     |false=>
      simp only at h;replace h:=aj h;obtain⟨_,m1,l1,h1,h⟩:=h;rw[P7] at h1;cases h1;simp only[run_pure,je,lN] at h;obtain⟨rfl,rfl,_⟩:=h;obtain⟨k1,k2,k3⟩:=hA.ok.kill hc hro;have hold:∀j c,get j m1=some c->get j (put r .dead m1)=some c\/get j (put r .dead m1)=some .dead:=by
       intro j c hj
       by_cases e:j=r
       ·subst e;right;exact jV _ _ _
       ·left;rw[ng e];exact hj
      rcases k3 with⟨rfl,hμ,hF⟩|⟨b,cap,cs,T,N',h1,h2,h3,h4,h5,hF⟩
      ·refine⟨_,[],k1,k2,rfl,rfl, ?_, ?_,hold⟩
       ·rw[hμ];exact Src.slice (by simp) (by simp) (by simp)
       ·rw[hA.E,hF];simp[Ja,iK]
      ·have hnd:(b::N').Nodup:=by rw[<-hF];exact hA.ok.nd r
       obtain⟨q1,q2⟩:=k1.less N' (List.nodup_cons.1 hnd).2 (λx hx=>by rw[hA.E,hF];simp[hx]);have hle:rows.length * qO P e<=cs.toList.length:=by
        have hcl:cs.toList.length=cap * qO P e:=by simpa using h4
        rw[hcl];exact Nat.mul_le_mul_right _ h2
       refine⟨_,cs.toList.take (rows.length * qO P e),q1,k2.trans q2,rfl,rfl, ?_, ?_,hold⟩
       ·rw[h1];refine Src.slice (by rw[XE];omega) (λu hu=>ahU h5 u hu) (λ_=>⟨b,0,rfl,λj v hj=> ?_⟩);rw[List.getElem?_take] at hj;split at hj
        ·have:=full_cell (w:=w) h3 (0+j);rw[Nat.zero_add] at this|-;rw[hj] at this;exact this
        ·cases hj
       ·exact WU (by rw[List.take_take,Nat.min_self]) (aoi (k2.view.trans' q2.view) h5)
 |ptr _ _=>exact(ay h).elim
 |Ej _ _ _ _=>exact(ay h).elim
 |uN _ _=>exact(ay h).elim
 |Em _=>exact(ay h).elim
 |clo _ _ _=>exact(ay h).elim
 |agg _=>exact(ay h).elim
 |FQ _=>exact(ay h).elim
 |undef=>exact(ay h).elim
end
end Go.Vm
namespace Go.Vm
open Go
section
variable {base:Nat} {U:Nat->Prop} {M0:List Nat} {w0 w w':World} {m m':Mem} {G G' G1:GS} {P:Program}
def KR{b:Bool}{l:Log}{x:Unit}{l':Log}(h:(ck b).run m l=some (x,m',l')):b=true/\m=m'/\l=l':=by obtain⟨h1,h2,h3⟩:=eH h;exact⟨h1,h2.symm,h3.symm⟩
def acZ{a:Nat}(h:Nat.ble a acL=true):a<=140737488355328:=Nat.le_of_ble_eq_true h
def alu{M M':List Nat}(h:Keep M w w')(hs:∀b,b∈M->b∈M'):Keep M' w w':=⟨h.os,h.tape,h.output,h.size,λb hb hn=>h.block b hb (λhx=>hn (hs b hx))⟩
def abY{w1:World}{o:Obj}(h:Keep [] w w1):Keep [] w (w1.alloc o):=h.trans (Yz (M:=[])) (by simp)
def afq(hg:Iu base U w m G)(ho:G.out=[])(hfr:Fr M0 w0 w G){w1:World}(hw1:w1.heap=w.heap)(hk1:Keep [] w w1){k:Nat}{fl:Bool}{s cap:Nat}{rows:List Row}{arr:Array Value}{T:TypeId}(hq:Ja (dU w) (Gh U w G) fl s rows arr.toList G.E)
  (hcap:rows.length<=cap) (hsz:arr.size=cap * s) {u:Unit} {l l':Log} (h:(new k (.arr false fl 0 s rows)).run m l=some (u,m',l')):
  ∃G',Nx base U M0 w0 w m G (w1.alloc (.cells arr T)) m' G'/\aU G'.μ m' (Gh U (w1.alloc (.cells arr T)) G') (.own k 0) (.slice (some ⟨w.heap.size,0,none⟩) rows.length cap):=by
 obtain⟨hn,rfl⟩:=aaL h;have hsize:(w1.alloc (.cells arr T)).heap.size=w.heap.size+1:=by rw[World.size_alloc,hw1]
 have hkeep:Keep [] w (w1.alloc (.cells arr T)):=abY hk1;have hnE:w.heap.size ∉ G.E:=λhE=>by have:=(hg.lt _ (.inl hE)).1;omega
 refine⟨_,hg.fresh ho hfr (gv:=.slice (some ⟨w.heap.size,0,none⟩) rows.length cap) (N:=w.heap.size::G.E) hn hkeep (List.nodup_cons.2 ⟨hnE,hg.ndE⟩) ?_ ?_, ?_⟩
 ·intro b hb;simp only[List.mem_cons] at hb;rcases hb with rfl|hb
  ·exact⟨.inr (Nat.le_refl _),by rw[hsize];omega⟩
  ·exact⟨.inl hb,by rw[hsize];have:=(hg.lt b (.inl hb)).1;omega⟩
 ·intro h' hv hml aA7;simp only[sG,Uw];refine .inr ⟨w.heap.size,cap,arr,T,G.E,rfl,hcap,XM hw1,hsz, ?_,rfl⟩;have:=Pm (H':=dU (w1.alloc (.cells arr T))) hv (λb hb=>hkeep.block b (hg.lt b (.inl hb)).1 (by simp)) hq;cases fl with
  |true=>exact this
  |false=>exact this
 ·simp[aU,jV,abP]
def abZ{z:Value}{n s:Nat}(h:z.cells.size=s):(Builtin.zeroCells z.cells n).size=n * s:=by simp[Builtin.zeroCells,h]
def asD(hA:At base U M0 w0 w m G){dst:Nat}{t ty ry:TypeId}{x y:V}{gx gy:Value}(hx:aU G.μ m (Gh U w G) x gx)(hy:aU G.μ m (Gh U w G) y gy){v:V}{l l':Log}(h:(amP P dst t ty x y).run m l=some (v,m',l')):
  Qc base U M0 w0 w m G P (Builtin.append_ #[t,ty] ry #[gx,gy]) v m':=by
 simp only[amP] at h;replace h:=aj h;obtain⟨e,m1,l1,h1,h⟩:=h;obtain⟨he,rfl,rfl⟩:=lD h1;replace h:=aj h;obtain⟨_,m1,l1,h1,h⟩:=h;obtain⟨hs1,rfl,rfl⟩:=eH h1;replace h:=aj h;obtain⟨_,m1,l1,h1,h⟩:=h;obtain⟨hty,rfl,rfl⟩:=eH h1;replace h:=aj h;obtain⟨z,m1,l1,h1,h⟩:=h;obtain⟨hz,rfl,rfl⟩:=lD h1;replace h:=aj h;obtain⟨_,m1,l1,h1,h⟩:=h;obtain⟨hzs,rfl,rfl⟩:=eH h1;replace h:=aj h;obtain⟨ys,m2,l2,h2,h⟩:=h;have hs1:=Nat.le_of_ble_eq_true hs1;have hu:=XL he;have hty':(∃e',P.underlying ty=some (.slice e'))\/P.underlying ty=some .string:=by
  cases hq:P.underlying ty with
  |none=>simp[hq] at hty
  |some d=>rw[hq] at hty;cases d<;>simp at hty<;>simp
 obtain⟨G1,news,t1,t2,t3,t4,hsrc,hrows,hold⟩:=(aA8 hA hy hs1 h2).ex;have aon:Fr M0 w0 w G1:=hA.fr.less t2.ex;have ho1:G1.out=[]:=t3.trans hA.out;obtain⟨inf,zv,hi,hzv,aJv⟩:=VO (m:=m1) (μ:=G.μ) (h:=Gh U w G) hz;have hzs:zv.cells.size=qO P e:=by rw[<-Hy hzs,<-kT aJv,Array.length_toList]
 have hsz:qO P e=inf.size:=P9 hi;have hby:abI P e=inf.bytes:=by simp[abI,hi]
 rw[hsz] at hsrc;cases x with
 |nil s0=>
  simp only at h;replace h:=aj h;obtain⟨_,m3,l3,h3,h⟩:=h;obtain⟨hb1,rfl,rfl⟩:=eH h3;replace h:=aj h;obtain⟨_,m3,l3,h3,h⟩:=h;obtain⟨hb2,rfl,rfl⟩:=eH h3;replace h:=aj h;obtain⟨_,m3,l3,h3,h⟩:=h;simp only[run_pure,je,lN] at h;obtain⟨rfl,rfl,_⟩:=h;simp only[aU] at hx;subst hx;have hb1:=acZ hb1;have hb2:=acZ hb2;rw[hby] at hb1
  by_cases hy0:ys=[]
  ·subst hy0;obtain⟨hn,rfl⟩:=aaL h3;refine⟨_,w,_,Zg hu hty' hi hsrc,Nx.after t2 (t1.fresh ho1 aon (gv:=.slice none 0 0) (N:=[]) hn (Keep.refl _ _) (by simp) (by simp) (λh' hv hml _=> ?_)), ?_⟩
   ·simp only[sG,Uw];exact .inl ⟨rfl,rfl,rfl⟩
   ·simp[aU,jV,abP]
  ·have hm:ys.length≠0:=by simpa using hy0
   obtain⟨cap,hcap,hrun⟩:=Zf (w:=w) (ty:=ry) hu hty' hi hzv hsrc hm hb2 hb1;obtain⟨G2,hnx,Xq⟩:=afq (w1:=w.drew) (cap:=cap) (arr:=news.toArray++Builtin.zeroCells zv.cells (cap - ys.length)) (T:=e) t1 ho1 aon rfl aef (k:=dst) (fl:=Hz P e) (s:=qO P e) (rows:=ys)
    (SA (by
     have hnl:news.length=ys.length * qO P e:=by rw[hsz];exact hsrc.n
     simp only[Array.toList_append];rw[List.take_append_of_le_length ak]) hrows) hcap (by
     rw[Array.size_append,abZ hzs,hsz];have hnl:news.toArray.size=ys.length * inf.size:=by simpa using hsrc.n
     rw[hnl,<-Nat.add_mul];congr 1;omega) h3
   exact⟨_,_,G2,hrun,Nx.after t2 hnx,Xq⟩
 |own r ver=>
  simp only at h;replace h:=aj h;obtain⟨c,m3,l3,h3,h⟩:=h;rw[zD] at h3;cases h3;replace hx:=t2.aU hx;cases hc:get r m2 with
  |none=>rw[hc] at h;exact(ay h).elim
  |some c=>
  rw[hc] at h;cases c with
  |box _ _=>exact(ay h).elim
  |dead=>exact(ay h).elim
  |qN _ _=>exact(ay h).elim
  |arr fz fl uO s rows=>
  cases fz with
  |true=>exact(ay h).elim
  |false=>
  simp only at h;replace h:=aj h;obtain⟨_,m4,l4,h4,h⟩:=h;obtain⟨hb,rfl,rfl⟩:=KR h4;have hb:=Hy hb;subst hb;replace h:=aj h;obtain⟨_,m4,l4,h4,h⟩:=h;obtain⟨hs,rfl,rfl⟩:=KR h4;have hs:=Hy hs;subst hs;replace h:=aj h;obtain⟨_,m4,l4,h4,h⟩:=h;obtain⟨hfl,rfl,rfl⟩:=KR h4;have hfl:fl=Hz P e:=by cases fl<;>cases hq:Hz P e<;>simp_all
  rw[<-hfl] at hrows;replace h:=aj h;obtain⟨_,m4,l4,h4,h⟩:=h;obtain⟨hb1,rfl,rfl⟩:=KR h4;have hb1:=acZ hb1;rw[hby] at hb1;replace h:=aj h;obtain⟨_,m4,l4,h4,h⟩:=h;obtain⟨hb2,rfl,rfl⟩:=KR h4;have hb2:=acZ hb2;replace h:=aj h;obtain⟨_,m4,l4,h4,h⟩:=h;rw[P7] at h4;cases h4;simp only[run_pure,je,lN] at h;obtain⟨rfl,rfl,_⟩:=h;simp only[aU,hc] at hx;have hx:=hx.2.2 trivial;subst hx;have hcell:=t1.cell r _ hc (by rw[ho1];simp);have hnl:news.length=ys.length * qO P e:=by rw[hsz];exact hsrc.n
  have aF8:¬ver=ver+1:=ak;have hEd:∀b,b∈G1.F r->b ∉ G1.E:=λb=>t1.djE r b
  have fin:∀(w':World) (g:Value) (N:List Nat),Keep (G1.F r) w w'->N.Nodup->(∀b,b∈N->(b∈G1.F r\/b∈G1.E\/w.heap.size<=b)/\b<w'.heap.size)->
    (∀h':View,(Gh U w G1).le h'->abO (dU w') h' fl (qO P e) (rows++ys) g N)->(Builtin.append_ #[t,ty] ry #[G1.μ r,gy]).run P w=.ok g w'->abP g->
    Qc base U M0 w0 w m1 G P (Builtin.append_ #[t,ty] ry #[G1.μ r,gy]) (.own r (ver+1)) (put r (.arr false fl (ver+1) (qO P e) (rows++ys)) m2):=by
   intro w' g N hk hN hNs Xq hrun hone;refine⟨g,w',_,hrun,Nx.after t2 (t1.rewrite ho1 aon (μ':=upM G1.μ r g) (N:=N) hc hk hN hNs (λk hk=>Sl g hk) ⟨ak,rfl,λe=>absurd e aF8⟩ (λh' hv hml _=> ?_)), ?_⟩
   ·simp only[sG,Uw];exact Xq h' hv
   ·simp[aU,jV,hone]
  simp only[sG] at hcell;rcases hcell with⟨rfl,hμ,hF⟩|⟨b,cap,cs,T,N',k1,k2,k3,k4,k5,k6⟩
  ·
   by_cases hy0:ys=[]
   ·subst hy0;refine fin w (.slice none 0 0) [] (Keep.refl _ _) (by simp) (by simp) (λh' hv=> .inl ⟨rfl,rfl,rfl⟩) ?_ ⟨_,_,_,rfl⟩;rw[hμ];exact Zg hu hty' hi hsrc
   ·have hm:ys.length≠0:=by simpa using hy0
    obtain⟨cap,hcap,hrun⟩:=Zf (w:=w) (ty:=ry) hu hty' hi hzv hsrc hm (by simpa using hb2) (by simpa using hb1);have hkeep:Keep [] w (w.drew.alloc (.cells (news.toArray++Builtin.zeroCells zv.cells (cap - ys.length)) e)):=abY aef;have hsize:(w.drew.alloc (.cells (news.toArray++Builtin.zeroCells zv.cells (cap - ys.length)) e)).heap.size=w.heap.size+1:=by rw[World.size_alloc];rfl
    have hnE:w.heap.size ∉ G1.E:=λhE=>by have:=(t1.lt _ (.inl hE)).1;omega
    refine fin _ _ (w.heap.size::G1.E) (alu hkeep (by simp)) (List.nodup_cons.2 ⟨hnE,t1.ndE⟩) ?_ ?_ (by rw[hμ];exact hrun) ⟨_,_,_,rfl⟩
    ·intro k hk;simp only[List.mem_cons] at hk;rcases hk with rfl|hk
     ·exact⟨.inr (.inr (Nat.le_refl _)),by rw[hsize];omega⟩
     ·exact⟨.inr (.inl hk),by rw[hsize];have:=(t1.lt k (.inl hk)).1;omega⟩
    ·intro h' hv;refine .inr ⟨w.heap.size,cap,_,e,G1.E,rfl,by simpa using hcap,XM rfl, ?_, ?_,rfl⟩
     ·rw[Array.size_append,abZ hzs,hsz];have hnl:news.toArray.size=ys.length * inf.size:=by simpa using hsrc.n
      rw[hnl,<-Nat.add_mul];congr 1;omega
     ·have h1:=Pm hv (λb hb=>hkeep.block b (t1.lt b (.inl hb)).1 (by simp)) hrows;have h2:=SA (cs':=(news.toArray++Builtin.zeroCells zv.cells (cap - ys.length)).toList) (by simp only[Array.toList_append];rw[List.take_append_of_le_length ak]) h1;rw[List.nil_append];cases fl with
      |true=>exact h2
      |false=>exact h2
  ·have hbF:b∈G1.F r:=by rw[k6];simp
   have aF9:=t1.nd r;rw[k6] at aF9;have asE:∀k,k∈N'->k∈G1.F r:=λk hk=>by rw[k6];simp[hk]
   have aEw:(N'++G1.E).Nodup:=List.nodup_append.2 ⟨(List.nodup_cons.1 aF9).2,t1.ndE,λa ha c hc e=>hEd a (asE a ha) (e ▸ hc)⟩;have hcl:cs.toList.length=cap * qO P e:=by simpa using k4
   have hrl:rows.length * qO P e<=cs.toList.length:=by rw[hcl];exact Nat.mul_le_mul_right _ k2
   have k5':Ja (dU w) (Gh U w G1) fl (qO P e) rows cs.toList N':=by
    cases fl with
    |true=>exact k5
    |false=>exact k5
   by_cases hroom:rows.length+ys.length<=cap
   ·
    have hrun:=run_append_fits (ty:=ry) hu hty' hi hsrc k3 hroom (by rw[k4,hsz]);rw[<-hsz] at hrun;have hh:=setRow_heap w b cs (splice cs.toList (rows.length * qO P e) news).toArray T (0,0) k3;have hfit:rows.length * qO P e+news.length<=cs.toList.length:=by rw[hnl,hcl,<-Nat.add_mul];exact Nat.mul_le_mul_right _ hroom
    have hoth:∀k,k≠b->dU (w.setRow b (splice cs.toList (rows.length * qO P e) news).toArray) k=dU w k:=λk hk=>setRow_other w b k _ hk
    have hsz2:(w.setRow b (splice cs.toList (rows.length * qO P e) news).toArray).heap.size=w.heap.size:=by simp[World.setRow]
    have hbN:b ∉ N'++G1.E:=by
     intro hx;simp only[List.mem_append] at hx;rcases hx with hx|hx
     ·exact(List.nodup_cons.1 aF9).1 hx
     ·exact hEd b hbF hx
    refine fin _ (.slice (some ⟨b,0,none⟩) (rows.length+ys.length) cap) (b::(N'++G1.E)) (ZL hbF) (List.nodup_cons.2 ⟨hbN,aEw⟩) ?_ ?_ (by rw[k1];exact hrun) ⟨_,_,_,rfl⟩
    ·intro k hk;rw[hsz2];simp only[List.mem_cons,List.mem_append] at hk;rcases hk with rfl|hk|hk
     ·exact⟨.inl hbF,(t1.lt _ (.inr ⟨r,hbF⟩)).1⟩
     ·exact⟨.inl (asE k hk),(t1.lt _ (.inr ⟨r,asE k hk⟩)).1⟩
     ·exact⟨.inr (.inl hk),(t1.lt _ (.inl hk)).1⟩
    ·intro h' hv;refine .inr ⟨b,cap,_,T,N'++G1.E,by simp,by simpa using hroom,hh, ?_, ?_,rfl⟩
     ·have:=Ti (l:=cs.toList) (xs:=news) (o:=rows.length * qO P e) hfit;simp only[List.size_toArray];rw[this,hcl]
     ·have h1:=Pm (H':=dU (w.setRow b (splice cs.toList (rows.length * qO P e) news).toArray)) hv (λk hk=>hoth k (λe=>hbN (by rw[<-e];simp[hk]))) k5';have h2:=Pm (H':=dU (w.setRow b (splice cs.toList (rows.length * qO P e) news).toArray)) hv (λk hk=>hoth k (λe=>hbN (by rw[<-e];simp[hk]))) hrows;have h3:=acX (SA (cs':=splice cs.toList (rows.length * qO P e) news) (by
       simp only[splice,NI];rw[List.take_append_of_le_length (by simp;omega),List.take_take,Nat.min_self]) h1) (SA (cs':=(splice cs.toList (rows.length * qO P e) news).drop (rows.length * qO P e)) (by
       simp only[splice,NI];rw[List.drop_append_of_le_length (by simp;omega)];have:(cs.toList.take (rows.length * qO P e)).drop (rows.length * qO P e)=[]:=by simp
       rw[this,List.nil_append,List.take_append_of_le_length ak]) h2)
      cases fl with
      |true=>simpa[Ja] using h3
      |false=>simpa[Ja] using h3
   ·
    have hlt:cap<rows.length+ys.length:=ak;obtain⟨cap',hcap',hrun⟩:=af6 (ty:=ry) (olds:=cs.toList.take (rows.length * qO P e)) hu hty' hi hzv hsrc (by rw[XE,<-hsz];omega) (λj u hj=>by
     rw[List.getElem?_take] at hj;split at hj
     ·have:=full_cell (w:=w) k3 (0+j);rw[Nat.zero_add] at this|-;rw[hj] at this;exact this
     ·cases hj) hlt hb2 hb1
    have hkeep:Keep [] w (w.drew.alloc (.cells ((cs.toList.take (rows.length * qO P e)++news).toArray++Builtin.zeroCells zv.cells (cap' - (rows.length+ys.length))) e)):=abY aef;have hsize:(w.drew.alloc (.cells ((cs.toList.take (rows.length * qO P e)++news).toArray++Builtin.zeroCells zv.cells (cap' - (rows.length+ys.length))) e)).heap.size=w.heap.size+1:=by rw[World.size_alloc];rfl
    have aYL:w.heap.size ∉ N'++G1.E:=λhE=>by
     simp only[List.mem_append] at hE;rcases hE with hE|hE
     ·have:=(t1.lt _ (.inr ⟨r,asE _ hE⟩)).1;omega
     ·have:=(t1.lt _ (.inl hE)).1;omega
    refine fin _ (.slice (some ⟨w.heap.size,0,none⟩) (rows.length+ys.length) cap') (w.heap.size::(N'++G1.E)) (alu hkeep (by simp)) (List.nodup_cons.2 ⟨aYL,aEw⟩) ?_ ?_ (by rw[k1];exact hrun) ⟨_,_,_,rfl⟩
    ·intro k hk;rw[hsize];simp only[List.mem_cons,List.mem_append] at hk;rcases hk with rfl|hk|hk
     ·exact⟨.inr (.inr (Nat.le_refl _)),ak⟩
     ·exact⟨.inl (asE k hk),by have:=(t1.lt _ (.inr ⟨r,asE k hk⟩)).1;omega⟩
     ·exact⟨.inr (.inl hk),by have:=(t1.lt _ (.inl hk)).1;omega⟩
    ·intro h' hv;refine .inr ⟨w.heap.size,cap',_,e,N'++G1.E,by simp,by simpa using hcap',XM rfl, ?_, ?_,rfl⟩
     ·rw[Array.size_append,abZ hzs];simp only[List.size_toArray,qK,XE,hnl];rw[Nat.min_eq_left hrl,<-Nat.add_mul,<-Nat.add_mul];congr 1;omega
     ·have h1:=Pm hv (λb hb=>hkeep.block b (t1.lt b (.inr ⟨r,asE b hb⟩)).1 (by simp)) k5';have h2:=Pm hv (λb hb=>hkeep.block b (t1.lt b (.inl hb)).1 (by simp)) hrows;have l1:(cs.toList.take (rows.length * qO P e)).length=rows.length * qO P e:=by rw[XE];omega
      have h3:=acX (SA (cs':=((cs.toList.take (rows.length * qO P e)++news).toArray++Builtin.zeroCells zv.cells (cap' - (rows.length+ys.length))).toList) (by
       simp only[Array.toList_append,NI];rw[List.take_append_of_le_length ak,List.take_take,Nat.min_self]) h1) (SA (cs':=(((cs.toList.take (rows.length * qO P e)++news).toArray++Builtin.zeroCells zv.cells (cap' - (rows.length+ys.length))).toList).drop (rows.length * qO P e)) (by
       simp only[Array.toList_append,NI];rw[List.drop_append_of_le_length ak,List.drop_eq_nil_of_le ak,List.nil_append,List.take_append_of_le_length ak]) h2)
      cases fl with
      |true=>exact h3
      |false=>exact h3
 |d _=>exact(ay h).elim
 |ptr _ _=>exact(ay h).elim
 |Ej _ _ _ _=>exact(ay h).elim
 |uN _ _=>exact(ay h).elim
 |Em _=>exact(ay h).elim
 |clo _ _ _=>exact(ay h).elim
 |agg _=>exact(ay h).elim
 |FQ _=>exact(ay h).elim
 |undef=>exact(ay h).elim
end
end Go.Vm
namespace Go.Vm
open Go
section
variable {base:Nat} {U:Nat->Prop} {M0:List Nat} {w0 w w':World} {m m':Mem} {G G':GS} {P:Program}
def akB(hA:At base U M0 w0 w m G){T f:Nat}{a:V}{ga:Value}(ha:aU G.μ m (Gh U w G) a ga){v:V}{l l':Log}(h:(abE P T a f).run m l=some (v,m',l')):
  Qc base U M0 w0 w m G P (Instr.fieldAt T ga f) v m':=by
 simp only[abE] at h;replace h:=aj h;obtain⟨⟨o,n,t⟩,m1,l1,h1,h⟩:=h;obtain⟨hf,rfl,rfl⟩:=lD h1;simp only at h;replace h:=aj h;obtain⟨_,m2,l2,h2,h⟩:=h;obtain⟨hn,rfl,rfl⟩:=eH h2;have hn:=Nat.le_of_ble_eq_true hn;cases a with
 |ptr r off=>
  simp only[run_pure,je,lN] at h;obtain⟨rfl,rfl,_⟩:=h;simp only[aU] at ha;obtain⟨⟨b,o',rfl⟩,ha⟩:=ha;refine Qc.same hA (ZJ hf hn) ?_;simp only[aU];refine⟨⟨_,_,rfl⟩, ?_⟩;split at ha
  ·obtain⟨b1,hμ,e⟩:=ha;simp only[Value.pointer.injEq,je,Addr.mk.injEq] at e;obtain⟨rfl,rfl,_⟩:=e;exact⟨_,hμ,rfl⟩
  ·obtain⟨b1,hμ,e⟩:=ha;simp only[Value.pointer.injEq,je,Addr.mk.injEq] at e;obtain⟨rfl,rfl,_⟩:=e;exact⟨_,hμ,rfl⟩
  ·trivial
  ·exact ha
 |Em _=>exact(ay h).elim
 |uN row off=>simp only[run_pure,je,lN] at h;obtain⟨rfl,rfl,_⟩:=h;simp only[aU] at ha;obtain⟨b,o',rfl,hrow⟩:=ha;refine Qc.same hA (ZJ hf hn) ?_;simp only[aU];exact⟨b,o',by rw[Nat.add_assoc],hrow⟩
 |Ej r ver i off=>
  simp only[run_pure,je,lN] at h;obtain⟨rfl,rfl,_⟩:=h;simp only[aU] at ha;obtain⟨⟨b,o',rfl⟩,ha⟩:=ha;refine Qc.same hA (ZJ hf hn) ?_;simp only[aU];refine⟨⟨_,_,rfl⟩, ?_⟩;split at ha
  ·refine⟨ha.1,λe=> ?_⟩;obtain⟨b1,n1,cap,hμ,e1⟩:=ha.2 e;simp only[Value.pointer.injEq,je,Addr.mk.injEq] at e1;obtain⟨rfl,rfl,_⟩:=e1;exact⟨_,n1,cap,hμ,by rw[Nat.add_assoc]⟩
  ·trivial
  ·exact ha
 |d _=>exact(ay h).elim
 |nil _=>exact(ay h).elim
 |own _ _=>exact(ay h).elim
 |clo _ _ _=>exact(ay h).elim
 |agg _=>exact(ay h).elim
 |FQ _=>exact(ay h).elim
 |undef=>exact(ay h).elim
def ave(hA:At base U M0 w0 w m G){T f:Nat}{a:V}{ga:Value}(ha:aU G.μ m (Gh U w G) a ga){v:V}{l l':Log}(h:(asi P T a f).run m l=some (v,m',l')):
  Qc base U M0 w0 w m G P (Instr.field T ga f) v m':=by
 simp only[asi] at h;replace h:=aj h;obtain⟨⟨o,n,t⟩,m1,l1,h1,h⟩:=h;obtain⟨hf,rfl,rfl⟩:=lD h1;simp only at h;cases a with
 |agg cs=>
  simp only at h;replace h:=aj h;obtain⟨_,m2,l2,h2,h⟩:=h;obtain⟨hfit,rfl,rfl⟩:=eH h2;replace h:=aj h;obtain⟨_,m2,l2,h2,h⟩:=h;obtain⟨hok,rfl,rfl⟩:=eH h2;obtain⟨hv,rfl,rfl⟩:=lD h;simp only[aU] at ha;obtain⟨arr,rfl,hs⟩:=ha;have hfit:=Nat.le_of_ble_eq_true hfit;have hp:=ahO o n hs;have hal:arr.size=cs.length:=by simpa using kT hs
  obtain⟨g,hg⟩:=aol hv hp;refine Qc.same hA (g:=g) ?_ (Sr hv hp hg);unfold Yt at hf;cases hu:P.underlying T with
  |none=>simp[hu] at hf
  |some d=>
   rw[hu] at hf;cases d with
   |struct fs=>
    simp only at hf;cases hfd:fs[f]? with
    |none=>simp[hfd] at hf
    |some fd=>
     simp only[hfd,je,lN] at hf;obtain⟨rfl,rfl,rfl⟩:=hf;obtain⟨d',hd'⟩:=JR hok;obtain⟨i,hi⟩:=EJ hd';unfold Instr.field;simp only[Sem.run_bind,run_underlying hu,Result.andThen_ok,hfd];unfold Go.part;simp only[Sem.run_bind,asAgg,Sem.run_pure,Result.andThen_ok,aec hd'];unfold valOf at hg;cases hag:Us P fd.type with
     |true=>
      simp only[hag,if_true] at hg;subst hg;rw[P9 hi];have hex:arr.extract fd.offset (fd.offset+i.size)=(List.take i.size (List.drop fd.offset arr.toList)).toArray:=by apply Array.ext';simp[Array.toList_extract,List.extract_eq_take_drop]
      simp[sizeOf,typeInfo,hi,hex]
     |false=>
      simp only[hag,Bool.false_eq_true,if_false] at hg;have h0:arr[fd.offset]? =some g:=by
       have:(List.take (qO P fd.type) (List.drop fd.offset arr.toList))[0]? =some g:=by rw[hg];rfl
       rw[List.getElem?_take] at this;split at this
       ·rw[List.getElem?_drop,Nat.add_zero] at this;simpa using this
       ·cases this
      simp[h0]
   |_=>simp at hf
 |d _=>exact(ay h).elim
 |nil _=>exact(ay h).elim
 |own _ _=>exact(ay h).elim
 |ptr _ _=>exact(ay h).elim
 |Ej _ _ _ _=>exact(ay h).elim
 |uN _ _=>exact(ay h).elim
 |Em _=>exact(ay h).elim
 |clo _ _ _=>exact(ay h).elim
 |FQ _=>exact(ay h).elim
 |undef=>exact(ay h).elim
def ahW{α:Type}{l:List α}{i:Int}{x:α}(h:idx l i=some x):0<=i/\i.toNat<l.length/\l[i.toNat]? =some x:=by
 unfold idx at h
 by_cases h0:0<=i
 ·simp only[h0,decide_true,aK] at h;exact⟨h0,(PU.1 h).1,h⟩
 ·simp[h0] at h
def akC(hA:At base U M0 w0 w m G){t:TypeId}{x i:V}{gx gi:Value}(hx:aU G.μ m (Gh U w G) x gx)(hi:aU G.μ m (Gh U w G) i gi){v:V}{l l':Log}(h:(abG P t x i).run m l=some (v,m',l')):
  Qc base U M0 w0 w m G P (Instr.indexAt t gx gi) v m':=by
 simp only[abG] at h;replace h:=aj h;obtain⟨e,m1,l1,h1,h⟩:=h;obtain⟨he,rfl,rfl⟩:=lD h1;cases i with
 |d xi=>
  cases xi with
  |int k n=>
   simp only at h;simp only[aU,ro] at hi;subst hi;have seen:∀(rows:List Row) (o:Bool),ro (Gh U w G) (.sl o (qO P e) rows) gx->∀row,idx rows n=some row->1<=qO P e\/True->(∃inf,P.info? e=some inf)->Qc base U M0 w0 w m1 G P (Instr.indexAt t gx (.int k n)) (.uN row 0) m1:=by intro rows o hq row hrow _ Sz;obtain⟨inf,Sz⟩:=Sz;obtain⟨h0,hlt,hget⟩:=ahW hrow;simp only[ro] at hq;obtain⟨a,cap,rfl,hcap,hne⟩:=hq;obtain⟨b,o',rfl,hrows⟩:=hne (by intro e;subst e;simp at hlt);obtain⟨hl,hr⟩:=Pj hrows hget;refine Qc.same hA (run_indexAt he Sz h0 ak) ?_;simp only[aU];rw[<-P9 Sz];exact⟨b,o'+n.toNat * qO P e,rfl,hr⟩
   cases x with
   |d y=>
    cases y with
    |sl o s rows=>simp only at h;replace h:=aj h;obtain⟨_,m2,l2,h2,h⟩:=h;obtain⟨hs,rfl,rfl⟩:=eH h2;replace h:=aj h;obtain⟨_,m2,l2,h2,h⟩:=h;obtain⟨hok,rfl,rfl⟩:=eH h2;replace h:=aj h;obtain⟨row,m2,l2,h2,h⟩:=h;obtain⟨hrow,rfl,rfl⟩:=lD h2;simp only[run_pure,je,lN] at h;obtain⟨rfl,rfl,_⟩:=h;have hs:=Hy hs;subst hs;simp only[aU] at hx;obtain⟨d',hd'⟩:=JR hok;exact seen rows o hx row hrow (.inr trivial) (EJ hd')
    |int _ _=>exact(ay h).elim
    |bool _=>exact(ay h).elim
    |str _=>exact(ay h).elim
    |VG=>exact(ay h).elim
   |own r ver=>
    simp only at h;replace h:=aj h;obtain⟨c,m2,l2,h2,h⟩:=h;rw[zD] at h2;cases h2;cases hc:get r m1 with
    |none=>rw[hc] at h;exact(ay h).elim
    |some c=>
     rw[hc] at h;cases c with
     |box _ _=>exact(ay h).elim
     |dead=>exact(ay h).elim
     |qN _ _=>exact(ay h).elim
     |arr fz fl uO s rows=>
      simp only at h;replace h:=aj h;obtain⟨_,m2,l2,h2,h⟩:=h;obtain⟨hb,rfl,rfl⟩:=KR h2;have hb:=Hy hb;subst hb;replace h:=aj h;obtain⟨_,m2,l2,h2,h⟩:=h;obtain⟨hs,rfl,rfl⟩:=KR h2;have hs:=Hy hs;subst hs;replace h:=aj h;obtain⟨_,m2,l2,h2,h⟩:=h;obtain⟨hok,rfl,rfl⟩:=KR h2;obtain⟨d',hd'⟩:=JR hok;obtain⟨inf,Sz⟩:=EJ hd';simp only[aU,hc] at hx;have hx:=hx.2.2 trivial;subst hx;have hcell:=hA.ok.cell r _ hc (by rw[hA.out];simp);cases fz with
      |true=>simp only at h;replace h:=aj h;obtain⟨row,m2,l2,h2,h⟩:=h;obtain⟨hrow,rfl,rfl⟩:=lD h2;simp only[run_pure,je,lN] at h;obtain⟨rfl,rfl,_⟩:=h;exact seen (vw fl rows) false (ahA hcell.1) row hrow (.inr trivial) ⟨inf,Sz⟩
      |false=>simp only at h;replace h:=aj h;obtain⟨row,m2,l2,h2,h⟩:=h;obtain⟨hrow,rfl,rfl⟩:=lD h2;simp only[run_pure,je,lN] at h;obtain⟨rfl,rfl,_⟩:=h;obtain⟨h0,hlt,hget⟩:=ahW hrow;obtain⟨b,o,cap,hμ,ho,hl,_⟩:=atM hcell (vO _ _ _) hget;have ho:=ho rfl;subst ho;rw[hμ];refine Qc.same hA (run_indexAt he Sz h0 ak) ?_;simp only[aU,hc,hμ];exact⟨⟨_,_,rfl⟩,Nat.le_refl _,λ_=>⟨b,_,_,rfl,by rw[P9 Sz];simp⟩⟩
   |nil _=>exact(ay h).elim
   |ptr _ _=>exact(ay h).elim
   |Ej _ _ _ _=>exact(ay h).elim
   |uN _ _=>exact(ay h).elim
   |Em _=>exact(ay h).elim
   |clo _ _ _=>exact(ay h).elim
   |agg _=>exact(ay h).elim
   |FQ _=>exact(ay h).elim
   |undef=>exact(ay h).elim
  |bool _=>exact(ay h).elim
  |str _=>exact(ay h).elim
  |VG=>exact(ay h).elim
  |sl _ _ _=>exact(ay h).elim
 |nil _=>exact(ay h).elim
 |own _ _=>exact(ay h).elim
 |ptr _ _=>exact(ay h).elim
 |Ej _ _ _ _=>exact(ay h).elim
 |uN _ _=>exact(ay h).elim
 |Em _=>exact(ay h).elim
 |clo _ _ _=>exact(ay h).elim
 |agg _=>exact(ay h).elim
 |FQ _=>exact(ay h).elim
 |undef=>exact(ay h).elim
def aoo{t e:TypeId}{n:Nat}(h:arT P t=some (n,e)):P.underlying t=some (.array n e):=by
 unfold arT at h;cases hu:P.underlying t with
 |none=>simp[hu] at h
 |some d=>rw[hu] at h;cases d<;>simp at h;obtain⟨rfl,rfl⟩:=h;rfl
def ac0{t e:TypeId}{k:IntKind}{i:Int}{b o n:Nat}(hu:P.underlying t=some (.array n e)){inf:TypeInfo}(hi:P.info? e=some inf)(h0:0<=i)(hn:i<n):
  (Instr.indexAt t (.pointer (some ⟨b,o,none⟩)) (.int k i)).run P w=.ok (.pointer (some ⟨b,o+i.toNat * inf.size,none⟩)) w:=by
 have hc:0<=i/\i<(n:Int):=⟨h0,hn⟩
 unfold Instr.indexAt;simp[asIntOf,run_underlying hu,hc,sizeOf,typeInfo,hi,Xo,Instr.sureAddr]
def akD(hA:At base U M0 w0 w m G){t:TypeId}{x i:V}{gx gi:Value}(hx:aU G.μ m (Gh U w G) x gx)(hi:aU G.μ m (Gh U w G) i gi){v:V}{l l':Log}(h:(abH P t x i).run m l=some (v,m',l')):
  Qc base U M0 w0 w m G P (Instr.indexAt t gx gi) v m':=by
 unfold abH at h;cases ha:arT P t with
 |none=>rw[ha] at h;exact akC hA hx hi h
 |some q=>
  obtain⟨n,e⟩:=q;rw[ha] at h;have hu:=aoo ha;cases i<;>try exact(ay h).elim
  rename_i y;cases y<;>try exact(ay h).elim
  rename_i k j;simp only[aU,ro] at hi;subst hi;simp only[aoc] at h;replace h:=aj h;obtain⟨_,m1,l1,h1,h⟩:=h;obtain⟨hok,rfl,rfl⟩:=eH h1;replace h:=aj h;obtain⟨_,m1,l1,h1,h⟩:=h;obtain⟨hj,rfl,rfl⟩:=eH h1;simp only[MS,decide_eq_true_eq] at hj;obtain⟨d',hd'⟩:=JR hok;obtain⟨inf,Sz⟩:=EJ hd';have hsz:=P9 Sz;cases x<;>try exact(ay h).elim
  ·rename_i r off;simp only[run_pure,je,lN] at h;obtain⟨rfl,rfl,_⟩:=h;simp only[aU] at hx;obtain⟨⟨b,o,rfl⟩,hx⟩:=hx;refine Qc.same hA (ac0 hu Sz hj.1 hj.2) ?_;simp only[aU];refine⟨⟨b,_,rfl⟩, ?_⟩;cases hc:get r m1 with
   |none=>rw[hc] at hx;exact hx.elim
   |some c=>
    rw[hc] at hx;cases c with
    |box T cs=>obtain⟨b',h1,h2⟩:=hx;simp only[Value.pointer.injEq,je,Addr.mk.injEq] at h2;obtain⟨rfl,rfl,_⟩:=h2;exact⟨b,h1,by rw[hsz]⟩
    |qN T cs=>obtain⟨b',h1,h2⟩:=hx;simp only[Value.pointer.injEq,je,Addr.mk.injEq] at h2;obtain⟨rfl,rfl,_⟩:=h2;exact⟨b,h1,by rw[hsz]⟩
    |arr _ _ _ _ _=>exact hx.elim
    |dead=>trivial
  ·rename_i row off;simp only[run_pure,je,lN] at h;obtain⟨rfl,rfl,_⟩:=h;simp only[aU] at hx;obtain⟨b,o,rfl,hr⟩:=hx;refine Qc.same hA (ac0 hu Sz hj.1 hj.2) ?_;simp only[aU];exact⟨b,o,by rw[hsz,Nat.add_assoc],hr⟩
def alv{μ:Nat->Value}{mm:Mem}{hh:View}:∀{cs:List V} {row:Row} {gs:List Value},alb cs=some row->dn μ mm hh cs gs->∀i:Nat,i<cs.length->∃g,gs[i]? =some g/\ro hh (nth row i) g
 |[],row,gs,h,q,i,hi=>by simp at hi
 |v::cs,row,gs,h,q,i,hi=>by
  simp only[dn] at q;obtain⟨g,gs',rfl,q1,q2⟩:=q;cases v<;>simp only[alb] at h<;>try cases h
  rename_i x;cases hr:alb cs with
  |none=>rw[hr] at h;cases h
  |some r=>
   rw[hr] at h;cases h;cases i with
   |zero=>exact⟨g,rfl,by simpa[nth,aU] using q1⟩
   |succ i=>obtain⟨g',h1,h2⟩:=alv hr q2 i (by simpa using hi);exact⟨g',by simpa using h1,by simpa[nth] using h2⟩
def am0(hA:At base U M0 w0 w m G){t e:TypeId}{n:Nat}{k:IntKind}{j:Int}{cs:List V}{gx:Value}(hu:P.underlying t=some (.array n e))(hx:aU G.μ m (Gh U w G) (.agg cs) gx){v:V}{l l':Log} (h:(do
  ck (Nat.beq (qO P e) 1 &&(Nat.beq cs.length n &&(I8 P e && !(Us P e))))
  ck (decide (0<=j) && decide (j<(n:Int)))
  let row<-op' (alb cs)
  ahq (match RS P e with|[c]=>c|_=> .other) row j.toNat:Acc V).run m l=some (v,m',l')):
  Qc base U M0 w0 w m G P (Instr.index t gx (.int k j)) v m':=by
 replace h:=aj h;obtain⟨_,m1,l1,h1,h⟩:=h;obtain⟨hk,rfl,rfl⟩:=eH h1;simp only[MS,Bool.not_eq_true',Nat.beq_eq] at hk;obtain⟨hsz,hlen,hok,hagg⟩:=hk;replace h:=aj h;obtain⟨_,m1,l1,h1,h⟩:=h;obtain⟨hj,rfl,rfl⟩:=eH h1;simp only[MS,decide_eq_true_eq] at hj;replace h:=aj h;obtain⟨row,m1,l1,h1,h⟩:=h;obtain⟨hrow,rfl,rfl⟩:=lD h1;simp only[aU] at hx;obtain⟨arr,rfl,hs⟩:=hx;obtain⟨g,hg,hr⟩:=alv hrow hs j.toNat ak;obtain⟨d',hd'⟩:=JR hok;obtain⟨inf,Sz⟩:=EJ hd';have hone:=P9 Sz;have hrun:(Instr.index t (.agg arr) (.int k j)).run P w=.ok g w:=by
  unfold Instr.index;have hg':arr[j.toNat * inf.size]? =some g:=by rw[<-hone,hsz,Nat.mul_one];simpa using hg
  simp[asIntOf,run_underlying hu,hj.1,hj.2,sizeOf,typeInfo,Sz];unfold Go.part;simp[aec hd',hagg,hg']
 have fin:v=.d (nth row j.toNat)/\m'=m1:=by
  generalize (match RS P e with|[c]=>c|_=>CT.other)=c at h;cases hx:nth row j.toNat<;>cases c<;>simp[ahq,bK,RU,cStr,hx,asInt,asBool,ala,Acc.run] at h
  ·rename_i k1 n1 k2
   by_cases e:k1=k2
   ·subst e;simp[Acc.run] at h;exact⟨h.1.symm,h.2.1.symm⟩
   ·simp[e,Acc.run] at h
  ·exact⟨h.1.symm,h.2.1.symm⟩
  ·exact⟨h.1.symm,h.2.1.symm⟩
 obtain⟨rfl,rfl⟩:=fin;exact Qc.same hA hrun (by simpa[aU] using hr)
end
end Go.Vm
namespace Go.Vm
open Go
section
variable {base:Nat} {U:Nat->Prop} {M0:List Nat} {w0 w w':World} {m m':Mem} {G G':GS} {P:Program}
def avf(hA:At base U M0 w0 w m G){t:TypeId}{x i:V}{gx gi:Value}(hx:aU G.μ m (Gh U w G) x gx)(hi:aU G.μ m (Gh U w G) i gi){v:V}{l l':Log}(h:(asj P t x i).run m l=some (v,m',l')):
  Qc base U M0 w0 w m G P (Instr.index t gx gi) v m':=by
 unfold asj at h;cases hu:P.underlying t with
 |none=>rw[hu] at h;exact(ay h).elim
 |some d=>
  rw[hu] at h
  by_cases harr:∃n e,d=.array n e
  ·obtain⟨n,e,rfl⟩:=harr;cases x<;>try exact(ay h).elim
   cases i<;>try exact(ay h).elim
   rename_i y;cases y<;>try exact(ay h).elim
   simp only[aU,ro] at hi;subst hi;exact am0 hA hu hx h
  cases d<;>first|exact(ay h).elim|exact(harr ⟨_,_,rfl⟩).elim|skip
  cases x<;>try exact(ay h).elim
  rename_i y;cases y<;>try exact(ay h).elim
  rename_i s;cases i<;>try exact(ay h).elim
  rename_i y;cases y<;>try exact(ay h).elim
  rename_i k n;simp only[aU,ro] at hx hi;subst hx hi;dsimp only at h;cases hb:idx s n with
  |none=>rw[hb] at h;simp[Acc.run] at h
  |some b=>
   rw[hb] at h;change some (_,_,_)=_ at h;simp only[je,lN] at h;obtain⟨rfl,rfl,_⟩:=h;obtain⟨h0,hlt,hget⟩:=ahW hb;refine Qc.same hA (g:=.int .u8 b.toNat) ?_ (by simp[aU,ro]);have hg:(ByteArray.mk ⟨s⟩)[n.toNat]? =some b:=by
    have hsz:n.toNat<(ByteArray.mk ⟨s⟩).size:=hlt;rw[getElem?_pos (ByteArray.mk ⟨s⟩) n.toNat hsz];have:s[n.toNat]=b:=by have:=List.getElem?_eq_getElem hlt;rw[this] at hget;exact Option.some.inj hget
    exact congrArg some this
   simp[Instr.index,asIntOf,run_underlying hu,h0,hg]
def aA9(hA:At base U M0 w0 w m G){t ty:TypeId}{x:V}{gx:Value}(hx:aU G.μ m (Gh U w G) x gx)
  (hk:∀s,x=.d (.str s)->P.underlying t=some .string) (hk':(∀s,x≠.d (.str s))->∃e,P.underlying t=some (.slice e)) {v:V} {l l':Log} (h:(lenV x).run m l=some (v,m',l')):
  Qc base U M0 w0 w m G P (Builtin.len_ #[t] ty #[gx]) v m':=by
 have slice:∀(a:Option Addr) (n c:Nat),(∃e,P.underlying t=some (.slice e))->Qc base U M0 w0 w m G P (Builtin.len_ #[t] ty #[.slice a n c]) (.d (.int .i64 n)) m:=by intro a n c ⟨e,he⟩;refine Qc.same hA (g:=.int .i64 n) ?_ (by simp[aU,ro]);simp[Builtin.len_,run_underlying he,goInt]
 cases x with
 |d y=>
  cases y with
  |str s=>change some (_,_,_)=_ at h;simp only[je,lN] at h;obtain⟨rfl,rfl,_⟩:=h;simp only[aU,ro] at hx;subst hx;refine Qc.same hA (g:=.int .i64 s.length) ?_ (by simp[aU,ro]);have hsz:(ByteArray.mk ⟨s⟩).size=s.length:=rfl;simp[Builtin.len_,run_underlying (hk s rfl),goInt,hsz]
  |sl o s rows=>change some (_,_,_)=_ at h;simp only[je,lN] at h;obtain⟨rfl,rfl,_⟩:=h;simp only[aU,ro] at hx;obtain⟨a,cap,rfl,_⟩:=hx;exact slice a rows.length cap (hk' (by simp))
  |int _ _=>exact(ay h).elim
  |bool _=>exact(ay h).elim
  |VG=>exact(ay h).elim
 |nil s=>change some (_,_,_)=_ at h;simp only[je,lN] at h;obtain⟨rfl,rfl,_⟩:=h;simp only[aU] at hx;subst hx;exact slice none 0 0 (hk' (by simp))
 |own r ver=>
  simp only[lenV] at h;replace h:=aj h;obtain⟨c,m2,l2,h2,h⟩:=h;rw[zD] at h2;cases h2;cases hc:get r m with
  |none=>rw[hc] at h;exact(ay h).elim
  |some c=>
   rw[hc] at h;cases c with
   |box _ _=>exact(ay h).elim
   |dead=>exact(ay h).elim
   |qN _ _=>exact(ay h).elim
   |arr fz fl uO s rows=>simp only at h;replace h:=aj h;obtain⟨_,m2,l2,h2,h⟩:=h;obtain⟨hb,rfl,rfl⟩:=KR h2;have hb:=Hy hb;subst hb;simp only[run_pure,je,lN] at h;obtain⟨rfl,rfl,_⟩:=h;have hro:=hA.ok.look hc (by rw[hA.out];simp) false;simp only[aU,hc] at hx;rw[<-hx.2.2 trivial] at hro;simp only[ro] at hro;obtain⟨a,cap,rfl,_⟩:=hro;exact slice a rows.length cap (hk' (by simp))
 |ptr _ _=>exact(ay h).elim
 |Ej _ _ _ _=>exact(ay h).elim
 |uN _ _=>exact(ay h).elim
 |Em _=>exact(ay h).elim
 |clo _ _ _=>exact(ay h).elim
 |agg _=>exact(ay h).elim
 |FQ _=>exact(ay h).elim
 |undef=>exact(ay h).elim
def aGa{H:Heap}{h:View}{c:CT}{g:Value}{x:D}{l l':Log}(hr:(toD (ad8 c g)).run m l=some (x,m',l')):m'=m/\ow H h x g []:=by
 unfold ad8 at hr;split at hr
 all_goals first
  |exact(ay hr).elim
  |(simp only[toD,roD,run_pure,je,lN] at hr
    obtain⟨rfl,rfl,_⟩:=hr;exact⟨rfl,by simp[ow]⟩)
def aop{H:Heap}{h:View}:∀{cs:List CT} {gs:List Value} {xs:Row} {m m':Mem} {l l':Log},(PZ (I7 cs gs)).run m l=some (xs,m',l')->m'=m/\jE H h xs gs []/\xs.length=gs.length
 |c::cs,g::gs,xs,m,m',l,l',hr=>by simp only[I7,PZ] at hr;replace hr:=aj hr;obtain⟨x,m1,l1,h1,hr⟩:=hr;replace hr:=aj hr;obtain⟨ys,m2,l2,h2,hr⟩:=hr;simp only[run_pure,je,lN] at hr;obtain⟨rfl,rfl,_⟩:=hr;obtain⟨rfl,q1⟩:=aGa (H:=H) (h:=h) h1;obtain⟨rfl,q2,q3⟩:=aop (H:=H) (h:=h) h2;exact⟨rfl,by simp only[jE];exact⟨g,gs,[],[],rfl,rfl,q1,q2⟩,by simp[q3]⟩
 |[],g::gs,xs,m,m',l,l',hr=>by simp only[I7,PZ] at hr;replace hr:=aj hr;obtain⟨x,m1,l1,h1,hr⟩:=hr;exact(ay h1).elim
 |c::cs,[],xs,m,m',l,l',hr=>by simp only[I7,PZ,run_pure,je,lN] at hr;obtain⟨rfl,rfl,_⟩:=hr;exact⟨rfl,by simp[jE],rfl⟩
 |[],[],xs,m,m',l,l',hr=>by simp only[I7,PZ,run_pure,je,lN] at hr;obtain⟨rfl,rfl,_⟩:=hr;exact⟨rfl,by simp[jE],rfl⟩
def alx{H:Heap}{h:View}{row:Row}{z L:List Value}{cap:Nat}(hz:z.length=row.length)(hL:L.length=cap * row.length)(hj:∀i j,i<cap->j<row.length->L[i * row.length+j]? =z[j]?)(hq:jE H h row z []):
  ∀(n i:Nat),i+n<=cap->iK H h row.length (List.replicate n row) (L.drop (i * row.length)) []
 |0,i,_=>by simp[iK]
 |n+1,i,hi=>by
  rw[List.replicate_succ];simp only[iK];refine⟨trivial,[],[],rfl, ?_, ?_⟩
  ·refine Sv ?_ hq;apply List.ext_getElem?;intro j
   by_cases hjl:j<row.length
   ·rw[List.getElem?_take_of_lt hjl,List.getElem?_take_of_lt hjl,List.getElem?_drop,hj i j ak hjl]
   ·rw[List.getElem?_eq_none (by rw[XE];omega),List.getElem?_eq_none (by rw[XE];omega)]
  ·rw[List.drop_drop];have:=alx hz hL hj hq n (i+1) ak
   rwa [Nat.add_mul,Nat.one_mul] at this
def akE(hA:At base U M0 w0 w m G){dst:Nat}{t:TypeId}{x y:V}{gx gy:Value}(hx:aU G.μ m (Gh U w G) x gx)(hy:aU G.μ m (Gh U w G) y gy){v:V}{l l':Log}(h:(abJ P dst t x y).run m l=some (v,m',l')):
  Qc base U M0 w0 w m G P (Instr.makeSlice t gx gy) v m':=by
 simp only[abJ,aod] at h;replace h:=aj h;obtain⟨e,m1,l1,h1,h⟩:=h;obtain⟨he,rfl,rfl⟩:=lD h1;have he:=XL he;replace h:=aj h;obtain⟨_,m1,l1,h1,h⟩:=h;obtain⟨hs,rfl,rfl⟩:=KR h1;have hs:=Nat.le_of_ble_eq_true hs;replace h:=aj h;obtain⟨row,m1,l1,h1,h⟩:=h;replace h1:=aj h1;obtain⟨z,m2,l2,h2,h1⟩:=h1;obtain⟨hz,rfl,rfl⟩:=lD h2;unfold Tc at hz;cases hi:P.info? e with
 |none=>simp[hi] at hz
 |some i=>
  simp only[hi] at hz;cases hzz:i.zero with
  |none=>simp[hzz] at hz
  |some zv=>
   simp only[hzz,je] at hz;subst hz;obtain⟨rfl,hrow,hlen⟩:=aop (H:=dU w) (h:=Gh U w G) h1;replace h:=aj h;obtain⟨_,m2,l2,h2,h⟩:=h;obtain⟨hlr,rfl,rfl⟩:=KR h2;have hlr:=Hy hlr;have hsz:=P9 hi;have hzs:zv.cells.size=i.size:=by
    have:zv.cells.toList.length=zv.cells.size:=by simp
    omega
   split at h
   next k1 n1 k2 n2=>
    replace h:=aj h;obtain⟨_,m3,l3,h3,h⟩:=h;obtain⟨hck,rfl,rfl⟩:=KR h3;simp only[MS,decide_eq_true_eq] at hck;obtain⟨⟨⟨h0,hle⟩,hby⟩,hc⟩:=hck;replace h:=aj h;obtain⟨u,m4,l4,h4,h⟩:=h;simp only[run_pure,je,lN] at h;obtain⟨rfl,rfl,_⟩:=h;simp only[aU,ro] at hx hy;subst hx hy;have hbt:abI P e=i.bytes:=by simp[abI,hi]
    rw[hbt] at hby;have hroom:(acL:Int)=140737488355328:=rfl;rw[hroom] at hby hc;have hrun:=run_make (P:=P) w t e i zv he hi hzz k1 k2 n1 n2 h0 hle (by rw[Int.mul_comm];omega) ak;have hE:=hA.E;have hrl:row.length=i.size:=ak;have hq:iK (dU w) (Gh U w G) (qO P e) (List.replicate n1.toNat row) (madeCells zv.cells (n2.toNat * i.size)).toList []:=by
     rw[hsz,<-hrl];have:=alx (H:=dU w) (h:=Gh U w G) (row:=row) (z:=zv.cells.toList) (L:=(madeCells zv.cells (n2.toNat * i.size)).toList) (cap:=n2.toNat) hlen.symm (by simp[size_madeCells,hrl]) ?_ hrow n1.toNat 0 ak
     ·simpa[hrl] using this
     ·intro a b ha hb;have hlt:a * row.length+b<n2.toNat * i.size:=by
       rw[hrl] at hb|-
       calc a * i.size+b<a * i.size+i.size:=ak
        _=(a+1) * i.size:=by rw[Nat.add_mul,Nat.one_mul]
        _<=n2.toNat * i.size:=Nat.mul_le_mul_right _ ha
      have hbz:b<zv.cells.size:=ak;have hmod:(a * row.length+b) % zv.cells.size=b:=by rw[hzs,<-hrl,Nat.mul_comm,Nat.mul_add_mod];exact Nat.mod_eq_of_lt hb
      simp only[madeCells,Array.toList_map,Array.toList_range,List.getElem?_map];rw[List.getElem?_range hlt];simp[hmod,hbz]
    have hqS:Ja (dU w) (Gh U w G) (Hz P e) (qO P e) (List.replicate n1.toNat row) (madeCells zv.cells (n2.toNat * i.size)).toList G.E:=by
     unfold Ja;rw[hE];split
     ·exact⟨PD (View.le_refl _) _ _ _ [] (by intro b hb;simp at hb) hq,rfl⟩
     ·exact hq
    obtain⟨G',hnx,Xq⟩:=afq hA.ok hA.out hA.fr (w1:=w) rfl (Keep.refl _ _) (cap:=n2.toNat) (T:=e) hqS (by simp;omega) (by simp[size_madeCells,hsz]) h4;refine⟨_,_,G',hrun,hnx, ?_⟩;simpa using Xq
   next=>exact(ay h).elim
end
end Go.Vm
namespace Go.Vm
open Go
section
variable {base:Nat} {U:Nat->Prop} {M0:List Nat} {w0 w w':World} {m m':Mem} {G G':GS} {P:Program}
def asF(μ:Nat->Value)(m:Mem)(h:View):Option V->Option Value->Prop
 |none,g=>g=none
 |some v,g=>∃x,g=some x/\aU μ m h v x
def ZN{μ:Nat->Value}{h:View}{o:Option V}{g:Option Value}{d n:Int}{l l':Log}(hq:asF μ m h o g)(hr:(bound o d).run m l=some (n,m',l')):
  m'=m/\((g=none/\n=d)\/∃k,g=some (.int k n)):=by
 unfold bound at hr;split at hr
 ·change some (_,_,_)=_ at hr;simp only[je,lN] at hr;obtain⟨rfl,rfl,_⟩:=hr;exact⟨rfl,.inl ⟨hq,rfl⟩⟩
 ·change some (_,_,_)=_ at hr;simp only[je,lN] at hr;obtain⟨rfl,rfl,_⟩:=hr;obtain⟨x,rfl,hx⟩:=hq;simp only[aU,ro] at hx;exact⟨rfl,.inr ⟨_,by rw[hx]⟩⟩
 ·exact(ay hr).elim
def aoq{α:Type}{l r:List α}{a b:Int}(h:cut l a b=some r):0<=a/\a<=b/\b<=l.length/\r=(l.drop a.toNat).take (b.toNat - a.toNat):=by
 unfold cut at h;cases hc:(decide (0<=a) && decide (a<=b) && decide (b<=(l.length:Int))) with
 |false=>simp[hc] at h
 |true=>simp only[hc,aK,je] at h;simp only[MS,decide_eq_true_eq] at hc;exact⟨hc.1.1,hc.1.2,hc.2,h.symm⟩
def VP{abP:Bool}{len cap:Nat}{lo hi:Option Value}{a b:Int}(ha:(lo=none/\a=0)\/∃k,lo=some (.int k a))(hb:(hi=none/\b=len)\/∃k,hi=some (.int k b))
  (h0:0<=a) (h1:a<=b) (h2:b<=len) (h3:len<=cap):(Instr.sliceBounds abP len cap lo hi none).run P w=.ok (a.toNat,b.toNat,cap) w:=by
 have hbc:b<=cap:=ak;have h0b:0<=b:=ak;rcases ha with⟨rfl,rfl⟩|⟨k,rfl⟩<;>rcases hb with⟨rfl,rfl⟩|⟨k',rfl⟩
 ·simp[Instr.sliceBounds]
 ·simp[Instr.sliceBounds,Instr.sliceBound,asIntOf,h0b,hbc]
 ·simp[Instr.sliceBounds,Instr.sliceBound,asIntOf,h0,h2,h1]
 ·have:(a:Int)<=(b.toNat:Int):=ak;simp[Instr.sliceBounds,Instr.sliceBound,asIntOf,h0b,hbc,h0,this];omega
def afr{h:View}{s:Nat}:∀{rows:List Row} {b o:Nat} (n:Nat),oV h s rows b o->oV h s (rows.drop n) b (o+n * s)
 |rows,b,o,0,q=>by simpa using q
 |[],b,o,n+1,q=>by simp[oV]
 |r::rows,b,o,n+1,q=>by simp only[oV] at q;have:=afr n q.2.2;rw[List.drop_succ_cons,Nat.add_mul,Nat.one_mul,show o+(n * s+s)=o+s+n * s by omega];exact this
def afs{h:View}{s:Nat}:∀{rows:List Row} {b o:Nat} (n:Nat),oV h s rows b o->oV h s (rows.take n) b o
 |rows,b,o,0,q=>by simp[oV]
 |[],b,o,n+1,q=>by simp[oV]
 |r::rows,b,o,n+1,q=>by simp only[oV] at q;simp only[List.take_succ_cons,oV];exact⟨q.1,q.2.1,afs n q.2.2⟩
def aw3{h:View}{o:Bool}{s:Nat}{rows rows':List Row}{t e:TypeId}{inf:TypeInfo}{g:Value}{lo hi:Option Value}{a b:Int}(hu:P.underlying t=some (.slice e))(hi':P.info? e=some inf)(hs:s=inf.size)
  (hq:ro h (.sl o s rows) g) (ha:(lo=none/\a=0)\/∃k,lo=some (.int k a)) (hb:(hi=none/\b=rows.length)\/∃k,hi=some (.int k b)) (hc:cut rows a b=some rows'):
  ∃g',(Instr.sliceAt t g lo hi none).run P w=.ok g' w/\ro h (.sl false s rows') g':=by
 obtain⟨h0,h1,h2,rfl⟩:=aoq hc;simp only[ro] at hq;obtain⟨ad,cap,rfl,hcap,hne⟩:=hq;have hrun:=VP (P:=P) (w:=w) (abP:=true) ha hb h0 h1 ak hcap;have hlen:(List.take (b.toNat - a.toNat) (List.drop a.toNat rows)).length=b.toNat - a.toNat:=by simp;omega
 refine⟨.slice (if cap=a.toNat then ad else ad.map (·.add (a.toNat * inf.size))) (b.toNat - a.toNat) (cap - a.toNat), ?_, ?_⟩
 ·simp only[Instr.sliceAt,Sem.run_bind,run_underlying hu,Result.andThen_ok,Instr.slice,hrun,sizeOf,typeInfo];simp[hi']
 ·simp only[ro];refine⟨_,cap - a.toNat,by rw[hlen],by rw[hlen];omega, ?_⟩;intro hne';have hpos:0<b.toNat - a.toNat:=by rw[<-hlen];exact List.length_pos_iff.2 hne'
  have hrows:rows≠[]:=by intro e;subst e;simp at hne'
  obtain⟨bb,oo,rfl,hr⟩:=hne hrows;have hca:¬cap=a.toNat:=ak;refine⟨bb,oo+a.toNat * s, ?_,afs _ (afr _ hr)⟩;subst hs;simp[hca,Addr.add]
def akF(s:List UInt8)(a b:Nat)(h:a<=b)(hb:b<=s.length):(ByteArray.mk ⟨s⟩).extract a b=⟨⟨(s.drop a).take (b - a)⟩⟩:=by
 have:((ByteArray.mk ⟨s⟩).extract a b).data=⟨(s.drop a).take (b - a)⟩:=by rw[ByteArray.data_extract];apply Array.ext';simp[Array.toList_extract,List.extract_eq_take_drop]
 exact congrArg ByteArray.mk this
def avg(hA:At base U M0 w0 w m G){t:TypeId}{x:V}{gx:Value}{lo hi:Option V}{glo ghi:Option Value}(hx:aU G.μ m (Gh U w G) x gx)(hlo:asF G.μ m (Gh U w G) lo glo)(hhi:asF G.μ m (Gh U w G) hi ghi)
  {v:V} {l l':Log} (hh0:(asl P t x lo hi).run m l=some (v,m',l')):Qc base U M0 w0 w m G P (Instr.sliceAt t gx glo ghi none) v m':=by
 have gen:∀(x:V),aU G.μ m (Gh U w G) x gx->(do
   let e<-op' (elT P t)
   ck (I8 P e)
   let(s,rows)<-seen x
   ck (Nat.beq s (qO P e))
   let l<-bound lo 0
   let h<-bound hi rows.length
   let rows'<-op' (cut rows l h)
   match x with
   | .own r ver=>do
    match<-rd r with
    |some (.arr _ fl uO s rows)=>do
     ck (Nat.beq ver uO)
     wr r (.arr true fl ver s rows)
     pure (.d (.sl false s rows'))
    |_=> .fail
   |_=>pure (.d (.sl false s rows')):Acc V).run m l=some (v,m',l')->Qc base U M0 w0 w m G P (Instr.sliceAt t gx glo ghi none) v m':=by
  intro x hx h;replace h:=aj h;obtain⟨e,m1,l1,h1,h⟩:=h;obtain⟨he,rfl,rfl⟩:=lD h1;have he:=XL he;replace h:=aj h;obtain⟨_,m1,l1,h1,h⟩:=h;obtain⟨hok,rfl,rfl⟩:=eH h1;obtain⟨d',hd'⟩:=JR hok;obtain⟨inf,Sz⟩:=EJ hd';have hsz:=P9 Sz;replace h:=aj h;obtain⟨⟨s,rows⟩,m1,l1,h1,h⟩:=h;obtain⟨rfl,hfull⟩:=atL hA.ok hx hA.out h1;simp only at h;replace h:=aj h;obtain⟨_,m2,l2,h2,h⟩:=h;obtain⟨hs,rfl,rfl⟩:=eH h2;have hs:=Hy hs;replace h:=aj h;obtain⟨a,m2,l2,h2,h⟩:=h;obtain⟨rfl,ha⟩:=ZN hlo h2;replace h:=aj h;obtain⟨b,m3,l3,h3,h⟩:=h;obtain⟨rfl,hb⟩:=ZN hhi h3;replace h:=aj h;obtain⟨rows',m4,l4,h4,h⟩:=h;obtain⟨hcut,rfl,rfl⟩:=lD h4;have aw4:∀{h':View} {G1:GS} {m1':Mem} {o:Bool},Nx base U M0 w0 w m4 G w m1' G1->h'=Gh U w G1->ro h' (.sl o s rows) gx->Qc base U M0 w0 w m4 G P (Instr.sliceAt t gx glo ghi none) (.d (.sl false s rows')) m1':=by intro h' G1 m1' o hnx hh hro;subst hh;obtain⟨g',hrun,hg'⟩:=aw3 (w:=w) he Sz (hs.trans hsz) hro ha hb hcut;exact⟨g',w,G1,hrun,hnx,hg'⟩
  cases x with
  |own r ver=>
   simp only at h;replace h:=aj h;obtain⟨c,m5,l5,h5,h⟩:=h;rw[zD] at h5;cases h5;cases hc:get r m4 with
   |none=>rw[hc] at h;exact(ay h).elim
   |some c=>
    rw[hc] at h;cases c with
    |box _ _=>exact(ay h).elim
    |dead=>exact(ay h).elim
    |qN _ _=>exact(ay h).elim
    |arr fz fl uO s2 aJw=>simp only at h;replace h:=aj h;obtain⟨_,m5,l5,h5,h⟩:=h;obtain⟨hbq,rfl,rfl⟩:=eH h5;have hbq:=Hy hbq;subst hbq;replace h:=aj h;obtain⟨_,m5,l5,h5,h⟩:=h;rw[P7] at h5;simp only[je,lN] at h5;obtain⟨_,rfl,_⟩:=h5;simp only[run_pure,je,lN] at h;obtain⟨rfl,rfl,_⟩:=h;simp only[seen] at h1;replace h1:=aj h1;obtain⟨c,m6,l6,h6,h1⟩:=h1;rw[zD] at h6;cases h6;rw[hc] at h1;simp only at h1;replace h1:=aj h1;obtain⟨_,m6,l6,h6,h1⟩:=h1;obtain⟨_,rfl,rfl⟩:=eH h6;simp only[run_pure,je,lN] at h1;obtain⟨⟨rfl,rfl⟩,_⟩:=h1;obtain⟨k1,k2,k3⟩:=hA.ok.freeze hc (by rw[hA.out];simp);simp only[aU,hc] at hx;have hgx:=hx.2.2 trivial;rw[<-hgx] at k3;rw[hA.E] at k3;exact aw4 (hA.still k1 k2 hA.out) rfl (ahA (fl:=fl) k3)
  |d y=>
   cases y with
   |sl o s2 aJw=>simp only[seen,run_pure,je,lN] at h1 h;obtain⟨⟨rfl,rfl⟩,_⟩:=h1;obtain⟨rfl,rfl,_⟩:=h;exact aw4 (o:=o) hA.nx rfl hx
   |_=>exact(ay h1).elim
  |nil s2=>simp only[seen,run_pure,je,lN] at h1 h;obtain⟨⟨rfl,rfl⟩,_⟩:=h1;obtain⟨rfl,rfl,_⟩:=h;refine aw4 (o:=false) hA.nx rfl ?_;simp only[aU] at hx;subst hx;simp[ro]
  |_=>exact(ay h1).elim
 have h:=hh0;cases x with
 |d y=>
  cases y with
  |str s=>
   simp only[asl] at h;replace h:=aj h;obtain⟨_,m1,l1,h1,h⟩:=h;obtain⟨hu,rfl,rfl⟩:=eH h1;replace h:=aj h;obtain⟨a,m2,l2,h2,h⟩:=h;obtain⟨rfl,ha⟩:=ZN hlo h2;replace h:=aj h;obtain⟨b,m3,l3,h3,h⟩:=h;obtain⟨rfl,hb⟩:=ZN hhi h3;replace h:=aj h;obtain⟨s',m4,l4,h4,h⟩:=h;obtain⟨hcut,rfl,rfl⟩:=lD h4;simp only[run_pure,je,lN] at h;obtain⟨rfl,rfl,_⟩:=h;obtain⟨h0,h1,h2,rfl⟩:=aoq hcut;simp only[aU,ro] at hx;subst hx;have hu:P.underlying t=some .string:=by
    cases hd:P.underlying t with
    |none=>simp[hd] at hu
    |some d=>rw[hd] at hu;cases d<;>simp at hu;rfl
   have hrun:=VP (P:=P) (w:=w) (abP:=false) (len:=s.length) (cap:=s.length) ha hb h0 h1 h2 (Nat.le_refl _);have hsize:(ByteArray.mk ⟨s⟩).size=s.length:=rfl;refine Qc.same hA (g:=.string ((ByteArray.mk ⟨s⟩).extract a.toNat b.toNat)) ?_ ?_
   ·simp only[Instr.sliceAt,Sem.run_bind,run_underlying hu,Result.andThen_ok,Instr.slice];simp[hsize,hrun]
   ·simp only[aU,ro];rw[akF s _ _ ak ak]
  |sl o s rows=>exact gen _ hx h
  |int _ _=>exact gen _ hx h
  |bool _=>exact gen _ hx h
  |VG=>exact gen _ hx h
 |nil _=>exact gen _ hx h
 |own _ _=>exact gen _ hx h
 |ptr _ _=>exact gen _ hx h
 |Ej _ _ _ _=>exact gen _ hx h
 |uN _ _=>exact gen _ hx h
 |Em _=>exact gen _ hx h
 |clo _ _ _=>exact gen _ hx h
 |agg _=>exact gen _ hx h
 |FQ _=>exact gen _ hx h
 |undef=>exact gen _ hx h
def avh(hA:At base U M0 w0 w m G){t:TypeId}{x:V}{gx:Value}{lo hi:Option V}{glo ghi:Option Value}(hx:aU G.μ m (Gh U w G) x gx)(hlo:asF G.μ m (Gh U w G) lo glo)(hhi:asF G.μ m (Gh U w G) hi ghi)
  {v:V} {l l':Log} (h:(amQ P t x lo hi).run m l=some (v,m',l')):Qc base U M0 w0 w m G P (Instr.sliceAt t gx glo ghi none) v m':=by
 cases x with
 |uN row off=>
  simp only[amQ] at h;replace h:=aj h;obtain⟨q,m1,l1,h1,h⟩:=h;obtain⟨ha,rfl,rfl⟩:=lD h1;obtain⟨n,e⟩:=q;simp only at h;replace h:=aj h;obtain⟨_,m1,l1,h1,h⟩:=h;obtain⟨hok,rfl,rfl⟩:=eH h1;replace h:=aj h;obtain⟨_,m1,l1,h1,h⟩:=h;obtain⟨hk,rfl,rfl⟩:=eH h1;simp only[MS,Nat.beq_eq] at hk;obtain⟨hsz,rfl,hlen⟩:=hk;cases lo<;>try exact(ay h).elim
  cases hi<;>try exact(ay h).elim
  simp only[run_pure,je,lN] at h;obtain⟨rfl,rfl,_⟩:=h;simp only[asF] at hlo hhi;subst hlo hhi;simp only[aU] at hx;obtain⟨b,o,rfl,hr⟩:=hx;have hu:=aoo ha;obtain⟨d',hd'⟩:=JR hok;obtain⟨inf,Sz⟩:=EJ hd';have hrun:=VP (P:=P) (w:=w) (abP:=false) (len:=n) (cap:=n) (lo:=none) (hi:=none) (a:=0) (b:=n) (.inl ⟨rfl,rfl⟩) (.inl ⟨rfl,rfl⟩) ak ak ak (Nat.le_refl _);refine Qc.same hA (g:=.slice (some ⟨b,o,none⟩) n n) ?_ ?_
  ·simp only[Instr.sliceAt,Sem.run_bind,run_underlying hu,Result.andThen_ok,Instr.sureAddr,sizeOf,typeInfo];simp only[Sem.run_pure,Result.andThen_ok];rw[hrun];simp[Sz,Xo]
  ·simp only[aU,ro];refine⟨_,n,by simp[hlen],by simp[hlen],λ_=>⟨b,o,rfl,ahz row b o hr⟩⟩
 |_=>exact avg hA hx hlo hhi h
def YD{H:Heap}{h:View}{fl:Bool}{s:Nat}:∀{rows:List Row} {cs:List Value} {N:List Nat} (n:Nat),Ja H h fl s rows cs N->∃N' N2,N=N'++N2/\Ja H h fl s (rows.take n) cs N'
 |rows,cs,N,0,q=>⟨[],N,by simp,by cases fl<;>simp[Ja,jm,iK]⟩
 |[],cs,N,n+1,q=>⟨N,[],by simp,by simpa using q⟩
 |r::rs,cs,N,n+1,q=>by
  cases fl with
  |true=>simp only[Ja,jm] at q;obtain⟨⟨q1,q2,q3⟩,rfl⟩:=q;obtain⟨N',N2,e,k⟩:=YD (H:=H) (fl:=true) n (show Ja H h true s rs (cs.drop s) [] from⟨q3,rfl⟩);obtain⟨rfl,rfl⟩:=List.append_eq_nil_iff.1 e.symm;exact⟨[],[],rfl,⟨⟨q1,q2,k.1⟩,rfl⟩⟩
  |false=>simp only[Ja,iK] at q;obtain⟨q1,N1,N3,rfl,q2,q3⟩:=q;obtain⟨N',N2,rfl,k⟩:=YD (fl:=false) n (show Ja H h false s rs (cs.drop s) N3 from q3);refine⟨N1++N',N2,by simp, ?_⟩;simp only[Ja,List.take_succ_cons,iK];exact⟨q1,N1,N',rfl,q2,k⟩
def avi(hA:At base U M0 w0 w m G){t:TypeId}{x:V}{gx:Value}{hi:Option V}{ghi:Option Value}(hx:aU G.μ m (Gh U w G) x gx)(hhi:asF G.μ m (Gh U w G) hi ghi)
  {v:V} {l l':Log} (h:(asn P t x hi).run m l=some (v,m',l')):Qc base U M0 w0 w m G P (Instr.sliceAt t gx none ghi none) v m':=by
 simp only[asn] at h;replace h:=aj h;obtain⟨e,m1,l1,h1,h⟩:=h;obtain⟨he,rfl,rfl⟩:=lD h1;have hu:=XL he;replace h:=aj h;obtain⟨_,m2,l2,h2,h⟩:=h;obtain⟨hok,rfl,rfl⟩:=eH h2;obtain⟨d',hd'⟩:=JR hok;obtain⟨inf,Sz⟩:=EJ hd';have hsz:=P9 Sz;cases x<;>try exact(ay h).elim
 rename_i r ver;simp only at h;replace h:=aj h;obtain⟨c,m3,l3,h3,h⟩:=h;rw[zD] at h3;cases h3;cases hc:get r m2 with
 |none=>rw[hc] at h;exact(ay h).elim
 |some c=>
 rw[hc] at h;cases c with
 |box _ _=>exact(ay h).elim
 |dead=>exact(ay h).elim
 |qN _ _=>exact(ay h).elim
 |arr fz fl uO s rows=>
 cases fz with
 |true=>exact(ay h).elim
 |false=>
 simp only at h;replace h:=aj h;obtain⟨_,m3,l3,h3,h⟩:=h;obtain⟨hb,rfl,rfl⟩:=eH h3;have hb:=Hy hb;subst hb;replace h:=aj h;obtain⟨_,m4,l4,h4,h⟩:=h;obtain⟨hs,rfl,rfl⟩:=eH h4;have hs:=Hy hs;subst hs;replace h:=aj h;obtain⟨k,m5,l5,h5,h⟩:=h;obtain⟨rfl,hb⟩:=ZN hhi h5;replace h:=aj h;obtain⟨_,m6,l6,h6,h⟩:=h;obtain⟨hk,rfl,rfl⟩:=eH h6;simp only[MS,decide_eq_true_eq] at hk;replace h:=aj h;obtain⟨_,m7,l7,h7,h⟩:=h;rw[P7] at h7;simp only[je,lN] at h7;obtain⟨_,rfl,_⟩:=h7;simp only[run_pure,je,lN] at h;obtain⟨rfl,rfl,_⟩:=h;simp only[aU,hc] at hx;have hx:=hx.2.2 trivial;subst hx;have hcell:=hA.ok.cell r _ hc (by rw[hA.out];simp);simp only[sG] at hcell;have aF8:¬ver=ver+1:=ak;have hlen:(rows.take k.toNat).length=k.toNat:=by rw[XE];omega
 have fin:∀(g:Value) (N:List Nat),N.Nodup->(∀b,b∈N->b∈G.F r)->(∀h':View,(Gh U w G).le h'->abO (dU w) h' fl (qO P e) (rows.take k.toNat) g N)->(Instr.sliceAt t (G.μ r) none ghi none).run P w=.ok g w->abP g->
   Qc base U M0 w0 w m6 G P (Instr.sliceAt t (G.μ r) none ghi none) (.own r (ver+1)) (put r (.arr false fl (ver+1) (qO P e) (rows.take k.toNat)) m6):=by
  intro g N hN hNs Xq hrun hone;refine⟨g,w,_,hrun,hA.ok.rewrite hA.out hA.fr (μ':=upM G.μ r g) (N:=N) hc (Keep.refl _ _) hN (λb hb=>⟨.inl (hNs b hb),(hA.ok.lt b (.inr ⟨r,hNs b hb⟩)).1⟩) (λj hj=>Sl g hj) ⟨ak,rfl,λe=>absurd e aF8⟩ (λh' hv hml _=> ?_), ?_⟩
  ·simp only[sG,Uw];exact Xq h' hv
  ·simp[aU,jV,hone]
 rcases hcell with⟨rfl,hμ,hF⟩|⟨b,cap,cs,T,N',k1,k2,k3,k4,k5,k6⟩
 ·have hrun:=VP (P:=P) (w:=w) (abP:=true) (len:=0) (cap:=0) (lo:=none) (hi:=ghi) (a:=0) (b:=k) (.inl ⟨rfl,rfl⟩) hb ak hk.1 hk.2 (Nat.le_refl _);have hk0:k.toNat=0:=by have:=hk.2;simp at this;omega
  refine fin (.slice none 0 0) [] (by simp) (by simp) (λh' hv=> .inl ⟨by simp,rfl,rfl⟩) ?_ ⟨_,_,_,rfl⟩;rw[hμ];simp only[Instr.sliceAt,Sem.run_bind,run_underlying hu,Result.andThen_ok,Instr.slice,hrun,sizeOf,typeInfo];simp[Sz,hk0]
 ·have hrun:=VP (P:=P) (w:=w) (abP:=true) (len:=rows.length) (cap:=cap) (lo:=none) (hi:=ghi) (a:=0) (b:=k) (.inl ⟨rfl,rfl⟩) hb ak hk.1 hk.2 k2;have k5':Ja (dU w) (Gh U w G) fl (qO P e) rows cs.toList N':=by
   cases fl with
   |true=>exact k5
   |false=>exact k5
  obtain⟨N1,N2,aJx,hq⟩:=YD k.toNat k5';have hnd:=hA.ok.nd r;rw[k6,aJx,<-Yr] at hnd;refine fin (.slice (some ⟨b,0,none⟩) k.toNat cap) (b::N1) (List.nodup_append.1 hnd).1 (λj hj=> ?_) (λh' hv=> .inr ⟨b,cap,cs,T,N1,by rw[hlen],by rw[hlen];have:=hk.2;omega,k3,k4, ?_,rfl⟩) ?_ ⟨_,_,_,rfl⟩
  ·rw[k6,aJx,<-Yr];exact List.mem_append_left _ hj
  ·have:=Pm hv (λ_ _=>rfl) hq;cases fl with
   |true=>exact this
   |false=>exact this
  ·rw[k1];simp only[Instr.sliceAt,Sem.run_bind,run_underlying hu,Result.andThen_ok,Instr.slice,hrun,sizeOf,typeInfo];simp[Sz,Xo]
def aw5(hA:At base U M0 w0 w m G){t:TypeId}{x lo:V}{gx glo:Value}(hx:aU G.μ m (Gh U w G) x gx)(hlo:aU G.μ m (Gh U w G) lo glo)
  {v:V} {l l':Log} (h:(aEr P t x lo).run m l=some (v,m',l')):Qc base U M0 w0 w m G P (Instr.sliceAt t gx (some glo) none none) v m':=(ay h).elim
end
end Go.Vm
namespace Go.Vm
open Go
section
variable {base:Nat} {U:Nat->Prop} {M0:List Nat} {w0 w w':World} {m m':Mem} {G G':GS} {P:Program}
def gvD:D->Value
 | .int k n=> .int k n
 | .bool b=> .bool b
 | .str s=> .string ⟨⟨s⟩⟩
 |_=> .nilFunc
def aJy{h:View}{x:D}(hf:x.flat=true):ro h x (gvD x):=by
 cases x with
 |sl _ _ _=>simp[D.flat] at hf
 |_=>simp[gvD,ro]
def aBa{op:BinOp}{k:IntKind}{a b:Int}{v:V}{t:TypeId}(ho:shiftOp op=false)(hz:nz op b=true)(h:aF2 op k a b=some v):∃x,v=.d x/\x.flat=true/\(binOp op t (.int k a) (.int k b)).run P w=.ok (gvD x) w:=by
 cases op
 case add=>cases h;exact⟨_,rfl,rfl,by simp[binOp,Op.intArith,gvD]⟩
 case sub=>cases h;exact⟨_,rfl,rfl,by simp[binOp,Op.intArith,gvD]⟩
 case mul=>cases h;exact⟨_,rfl,rfl,by simp[binOp,Op.intArith,gvD]⟩
 case and=>cases h;exact⟨_,rfl,rfl,by simp[binOp,Op.intBits,gvD]⟩
 case or=>cases h;exact⟨_,rfl,rfl,by simp[binOp,Op.intBits,gvD]⟩
 case xor=>cases h;exact⟨_,rfl,rfl,by simp[binOp,Op.intBits,gvD]⟩
 case eql=>cases h;exact⟨_,rfl,rfl,by simp[binOp,Op.intCmp,gvD]⟩
 case neq=>cases h;exact⟨_,rfl,rfl,by simp[binOp,Op.intCmp,gvD]⟩
 case lss=>cases h;exact⟨_,rfl,rfl,by simp[binOp,Op.intCmp,gvD]⟩
 case leq=>cases h;exact⟨_,rfl,rfl,by simp[binOp,Op.intCmp,gvD]⟩
 case gtr=>cases h;exact⟨_,rfl,rfl,by simp[binOp,Op.intCmp,gvD]⟩
 case geq=>cases h;exact⟨_,rfl,rfl,by simp[binOp,Op.intCmp,gvD]⟩
 case quo=>
  have hb:¬b=0:=by simpa[nz] using hz
  ·cases h;exact⟨_,rfl,rfl,by simp[binOp,Op.intDiv,hb,gvD]⟩
 case rem=>
  have hb:¬b=0:=by simpa[nz] using hz
  ·cases h;exact⟨_,rfl,rfl,by simp[binOp,Op.intDiv,hb,gvD]⟩
 all_goals first|(cases ho;done)|(cases h;done)
def aor{op:BinOp}{k k':IntKind}{a b:Int}{v:V}{t:TypeId}(h:acK op k a b=some v):∃x,v=.d x/\x.flat=true/\(binOp op t (.int k a) (.int k' b)).run P w=.ok (gvD x) w:=by
 unfold acK at h
 by_cases hb:b<0
 ·simp[hb] at h
 ·simp only[hb,decide_false,bn] at h;cases op<;>simp only at h<;>first|(cases h;done)|skip
  all_goals
   cases h;exact⟨_,rfl,rfl,by simp[binOp,Op.shift,hb,gvD]⟩
def toList_mk(s:List UInt8):(ByteArray.mk ⟨s⟩).toList=s:=by rw[ByteArray.toList_eq]
def avj(a b:List UInt8):ByteArray.mk ⟨a⟩++ByteArray.mk ⟨b⟩=⟨⟨a++b⟩⟩:=by
 have:(ByteArray.mk ⟨a⟩++ByteArray.mk ⟨b⟩).data=⟨a++b⟩:=by rw[ByteArray.data_append];simp
 exact congrArg ByteArray.mk this
def aBb{op:BinOp}{a b:List UInt8}{v:V}{t:TypeId}{l l':Log}(h:(aF3 op a b).run m l=some (v,m',l')):
  m'=m/\∃x,v=.d x/\x.flat=true/\(binOp op t (.string ⟨⟨a⟩⟩) (.string ⟨⟨b⟩⟩)).run P w=.ok (gvD x) w:=by
 cases op<;>simp only[aF3] at h<;>try exact(ay h).elim
 case add=>
  cases hc:Nat.ble (a.length+b.length) asf with
  |false=>rw[hc] at h;simp[Acc.run] at h
  |true=>
   rw[hc] at h;change some (_,_,_)=_ at h;simp only[je,lN] at h;obtain⟨rfl,rfl,_⟩:=h;have hc:=Nat.le_of_ble_eq_true hc;have hm:IntKind.i64.max=(asf:Int):=by decide
   have hn:¬((((ByteArray.mk ⟨a⟩).size+(ByteArray.mk ⟨b⟩).size:Nat):Int)>IntKind.i64.max):=by rw[hm];have h1:(ByteArray.mk ⟨a⟩).size=a.length:=rfl;have h2:(ByteArray.mk ⟨b⟩).size=b.length:=rfl;rw[h1,h2];omega
   refine⟨rfl,_,rfl,rfl, ?_⟩;simp only[binOp,Op.stringOp,if_neg hn,Sem.run_pure,avj,gvD]
 all_goals
  change some (_,_,_)=_ at h;simp only[je,lN] at h;obtain⟨rfl,rfl,_⟩:=h;refine⟨rfl,_,rfl,rfl, ?_⟩;simp[binOp,Op.stringOp,toList_mk,gvD]
def asG{t:TypeId}(h:boolT P t=true):P.underlying t=some .bool:=by
 unfold boolT at h;cases hd:P.underlying t with
 |none=>simp[hd] at h
 |some d=>rw[hd] at h;cases d<;>simp at h;rfl
def aos{op:BinOp}{t:TypeId}{ox oy:Operand}{a b:Value}(h:∀c,a≠.agg c)(hn:a≠.nilIface):(eqGuard op t ox oy a b).run P w=.ok () w:=by
 unfold eqGuard;cases op<;>simp
 all_goals cases a<;>first|exact absurd rfl (h _)|exact absurd rfl hn|simp
def akG{t:TypeId}(h:P.underlying t=some .bool)(a b:Bool):(Op.equalIn Op.maxDepth t (.bool a) (.bool b)).run P w=.ok (a==b) w:=by
 have:∀d,(Op.equalIn (d+1) t (.bool a) (.bool b)).run P w=.ok (a==b) w:=by intro d;simp[Op.equalIn,run_underlying h]
 exact this 9999
def aGb(hA:At base U M0 w0 w m G){op:BinOp}{t:TypeId}{ox oy:Operand}{x y:V}{gx gy:Value}(hx:aU G.μ m (Gh U w G) x gx)(hy:aU G.μ m (Gh U w G) y gy){v:V}{l l':Log}(h:(bin (boolT P t) op x y).run m l=some (v,m',l')):
  Qc base U M0 w0 w m G P (do eqGuard op t ox oy gx gy;binOp op t gx gy) v m':=by
 have close:∀{x:D},(∀c,gx≠.agg c)->gx≠.nilIface->x.flat=true->(binOp op t gx gy).run P w=.ok (gvD x) w->Qc base U M0 w0 w m G P (do eqGuard op t ox oy gx gy;binOp op t gx gy) (.d x) m:=by intro x h1 h2 hq hr;refine Qc.same hA (g:=gvD x) ?_ (by simp only[aU];exact aJy hq);simp only[Sem.run_bind,aos h1 h2,Result.andThen_ok,hr]
 unfold bin at h;split at h
 ·simp only[aU,ro] at hx hy;subst hx hy;split at h
  ·rename_i ho;cases hb:acK op _ _ _ with
   |none=>rw[hb] at h;simp[Acc.run] at h
   |some r=>rw[hb] at h;change some (_,_,_)=_ at h;simp only[je,lN] at h;obtain⟨rfl,rfl,_⟩:=h;obtain⟨x,rfl,hq,hr⟩:=aor (P:=P) (w:=w) (t:=t) hb;exact close (by simp) (by simp) hq hr
  ·rename_i ho;split at h
   ·rename_i hk;have hk:=of_decide_eq_true hk;subst hk;cases hz:nz op _ with
    |false=>rw[hz] at h;cases h
    |true=>
    rw[hz] at h;simp only[Acc.run] at h;cases hb:aF2 op _ _ _ with
    |none=>rw[hb] at h;simp[Acc.run] at h
    |some r=>rw[hb] at h;change some (_,_,_)=_ at h;simp only[je,lN] at h;obtain⟨rfl,rfl,_⟩:=h;obtain⟨x,rfl,hq,hr⟩:=aBa (P:=P) (w:=w) (t:=t) ho hz hb;exact close (by simp) (by simp) hq hr
   ·exact(ay h).elim
 ·simp only[aU,ro] at hx hy;subst hx hy;obtain⟨rfl,x,rfl,hq,hr⟩:=aBb (P:=P) (w:=w) (t:=t) h;exact close (by simp) (by simp) hq hr
 ·simp only[aU,ro] at hx hy;subst hx hy;split at h
  ·rename_i hbt;have hbt:=asG hbt;cases op<;>simp only[aJk] at h<;>try(simp[Acc.run] at h;done)
   all_goals
    change some (_,_,_)=_ at h;simp only[je,lN] at h;obtain⟨rfl,rfl,_⟩:=h;refine close (by simp) (by simp) rfl ?_;simp only[binOp,Op.equal,Sem.run_bind,akG hbt,Result.andThen_ok,Sem.run_pure,gvD]
  ·exact(ay h).elim
 ·exact(ay h).elim
def aBd(hA:At base U M0 w0 w m G){op:BinOp}{t:TypeId}{ox oy:Operand}{x y:V}{gx gy:Value}(hx:aU G.μ m (Gh U w G) x gx)(hy:aU G.μ m (Gh U w G) y gy){v:V}{l l':Log}(h:(aJl P t op x y).run m l=some (v,m',l')):
  Qc base U M0 w0 w m G P (do eqGuard op t ox oy gx gy;binOp op t gx gy) v m':=aGb hA hx hy h
def aJz(hA:At base U M0 w0 w m G){op:UnOp}{x:V}{gx:Value}(hx:aU G.μ m (Gh U w G) x gx){v:V}{l l':Log}(h:(un op x).run m l=some (v,m',l')):
  Qc base U M0 w0 w m G P (Op.unary op gx) v m':=by
 unfold un at h;split at h
 ·change some (_,_,_)=_ at h;simp only[je,lN] at h;obtain⟨rfl,rfl,_⟩:=h;simp only[aU,ro] at hx;subst hx;refine Qc.same hA (g:=.int _ _) (by simp only[Op.unary,Op.intArith,Sem.run_pure];rfl) (by simp[aU,ro])
 ·change some (_,_,_)=_ at h;simp only[je,lN] at h;obtain⟨rfl,rfl,_⟩:=h;simp only[aU,ro] at hx;subst hx;refine Qc.same hA (g:=.bool _) (by simp only[Op.unary,Sem.run_pure];rfl) (by simp[aU,ro])
 ·exact(ay h).elim
def aw6(hA:At base U M0 w0 w m G){c x y:V}{gc gx gy:Value}(hc:aU G.μ m (Gh U w G) c gc)(hx:aU G.μ m (Gh U w G) x gx)(hy:aU G.μ m (Gh U w G) y gy){v:V}{l l':Log}(h:(awL c x y).run m l=some (v,m',l')):
  Qc base U M0 w0 w m G P (do pure (if<-Go.asBool gc then gx else gy)) v m':=by
 unfold awL at h;split at h
 ·rename_i c;simp only[aU,ro] at hc;subst hc;split at h
  ·rename_i a b;change some (_,_,_)=_ at h;simp only[je,lN] at h;obtain⟨rfl,rfl,_⟩:=h;simp only[aU,ro] at hx hy;subst hx hy;refine Qc.same hA (g:=.bool (bif c then a else b)) ?_ (by simp[aU,ro]);cases c<;>simp[Go.asBool]
  ·split at h
   ·change some (_,_,_)=_ at h;simp only[je,lN] at h;obtain⟨rfl,rfl,_⟩:=h;exact Qc.same hA (g:=gx) (by simp[Go.asBool]) hx
   ·change some (_,_,_)=_ at h;simp only[je,lN] at h;obtain⟨rfl,rfl,_⟩:=h;exact Qc.same hA (g:=gy) (by simp[Go.asBool]) hy
 ·exact(ay h).elim
end
end Go.Vm
namespace Go.Vm
open Go
section
variable {base:Nat} {U:Nat->Prop} {M0:List Nat} {w0 w w':World} {m m':Mem} {G G':GS} {P:Program}
def aft{h:View}:∀{rows:List Row} {cs:List Value} {bs:List UInt8},bytesOf rows=some bs->jm h 1 rows cs->cs.length=rows.length->
  ∃ns:List Int,cs=ns.map (Value.int .u8)/\bs=ns.map (λn=>UInt8.ofNat n.toNat)
 |[],cs,bs,hb,_,hl=>by simp only[bytesOf,je] at hb;subst hb;have:cs=[]:=List.length_eq_zero_iff.1 hl;subst this;exact⟨[],rfl,rfl⟩
 |r::rs,cs,bs,hb,hs,hl=>by
  simp only[bytesOf] at hb;cases ha:asByte r with
  |none=>simp[ha] at hb
  |some b=>
   cases hb2:bytesOf rs with
   |none=>simp[ha,hb2] at hb
   |some bs2=>
    simp only[ha,hb2,je] at hb;subst hb;simp only[jm] at hs;obtain⟨_,h1,h2⟩:=hs;cases cs with
    |nil=>simp at hl
    |cons c cs=>
     obtain⟨ns,e1,e2⟩:=aft hb2 (by simpa using h2) (by simpa using hl);unfold asByte at ha;split at ha
     ·rename_i n _;simp only[je] at ha;subst ha;simp only[jq] at h1;obtain⟨v,cs',e,hv,_⟩:=h1;simp only[ro] at hv;simp only[List.cons.injEq] at e;obtain⟨rfl,rfl⟩:=e;exact⟨n::ns,by rw[hv,RQ,e1],by rw[RQ,e2]⟩
     ·cases ha
def foldl_push:∀(ns:List Int) (acc:List UInt8),ns.foldl (λr n=>r.push (UInt8.ofNat n.toNat)) (ByteArray.mk ⟨acc⟩)=⟨⟨acc++ns.map (λn=>UInt8.ofNat n.toNat)⟩⟩
 |[],acc=>by simp
 |n::ns,acc=>by
  rw[List.foldl_cons];have:(ByteArray.mk ⟨acc⟩).push (UInt8.ofNat n.toNat)=⟨⟨acc++[UInt8.ofNat n.toNat]⟩⟩:=by simp[ByteArray.push]
  rw[this,foldl_push ns];simp
def aot(hA:At base U M0 w0 w m G){src dst:TypeId}{x:V}{gx:Value}(hx:aU G.μ m (Gh U w G) x gx){v:V}{l l':Log}(h:(ahr P src dst x).run m l=some (v,m',l')):
  Qc base U M0 w0 w m G P (convert src dst gx) v m':=by
 unfold ahr at h;split at h
 next hs hd=>
  split at h
  ·change some (_,_,_)=_ at h;simp only[je,lN] at h;obtain⟨rfl,rfl,_⟩:=h;simp only[aU,ro] at hx;subst hx;refine Qc.same hA (g:=.int _ _) ?_ (by simp only[aU,ro];rfl);simp[convert,run_underlying hs,run_underlying hd,Conv.intToInt]
  ·exact(ay h).elim
 next hs hd=>
  split at h
  ·change some (_,_,_)=_ at h;simp only[je,lN] at h;obtain⟨rfl,rfl,_⟩:=h;have hx0:=hx;simp only[aU,ro] at hx;subst hx;refine Qc.same hA (g:=.string _) ?_ hx0;simp[convert,run_underlying hs,run_underlying hd]
  ·exact(ay h).elim
 next e hs hd=>
  replace h:=aj h;obtain⟨_,m1,l1,h1,h⟩:=h;obtain⟨he,rfl,rfl⟩:=KR h1;have he:P.underlying e=some (.int .u8):=by
   cases hu:P.underlying e with
   |none=>simp[hu] at he
   |some d=>rw[hu] at he;cases d<;>first|(simp at he;done)|(rename_i k;cases k<;>first|rfl|(simp at he;done))
  replace h:=aj h;obtain⟨⟨s,rows⟩,m1,l1,h1,h⟩:=h;obtain⟨rfl,hq⟩:=atL hA.ok hx hA.out h1;simp only at h;replace h:=aj h;obtain⟨_,m2,l2,h2,h⟩:=h;obtain⟨hs1,rfl,rfl⟩:=eH h2;have hs1:=Hy hs1;subst hs1;replace h:=aj h;obtain⟨bs,m2,l2,h2,h⟩:=h;obtain⟨hb,rfl,rfl⟩:=lD h2;simp only[run_pure,je,lN] at h;obtain⟨rfl,rfl,_⟩:=h;simp only[ro] at hq;obtain⟨a,cap,rfl,hcap,hne⟩:=hq;refine Qc.same hA (g:=.string ⟨⟨bs⟩⟩) ?_ (by simp only[aU,ro]);rw[run_convert_bytes_string w src dst e a rows.length cap hs he hd]
  by_cases hr:rows=[]
  ·subst hr;simp only[bytesOf,je] at hb;subst hb;cases a with
   |none=>simp[Conv.bytesToString];rfl
   |some a=>have hl:=run_loadCells_list (P:=P) w a [] (by simp);have:=run_bytesToString (P:=P) w a 0 cap [] (by simpa using hl);exact this
  ·obtain⟨b,o,rfl,hrr⟩:=hne hr;obtain⟨cs,hl,hc,hss⟩:=YB rows o hrr;rw[Nat.mul_one] at hl;obtain⟨ns,rfl,rfl⟩:=aft hb hss hl;have hlc:=run_loadCells_list (P:=P) w ⟨b,o,none⟩ (ns.map (Value.int .u8)) (λj v hj=>by rw[Xo];exact hc j v hj);rw[hl] at hlc;rw[run_bytesToString w _ rows.length cap ns hlc];have:=foldl_push ns [];rw[List.nil_append] at this;rw[<-this];rfl
 next=>exact(ay h).elim
def aw7{μ:Nat->Value}{h:View}{vs:List V}{a:Array Value}{i:Nat}{v:V}(q:dn μ m h vs a.toList)(hi:vs[i]? =some v):∃x,a[i]? =some x/\aU μ m h v x:=by obtain⟨x,h1,h2⟩:=aln q hi;exact⟨x,by simpa using h1,h2⟩
end
end Go.Vm
