import Derived.Test.YtbpldgeajbfgnaaGreatDoorVm1
import Derived.Great.BuildSlice
set_option linter.unusedVariables false
set_option linter.unusedSimpArgs false
namespace Go.Vm
open Go
structure Fr(M0:List Nat)(w0 w:World)(G:GS):Prop where
 keep:Keep M0 w0 w
 fr:∀b,excl G.F G.E b→b∈M0∨w0.heap.size≤b
structure Nx(base:Nat)(U:Nat→Prop)(M0:List Nat)(w0 w:World)(m:Mem)(G:GS)(w':World)(m':Mem)(G':GS):Prop where
 ok:BL base U w' m' G'
 E:G'.E=[]
 out:G'.out=[]
 mem:EF G.μ m G'.μ m'
 view:(Gh U w G).le (Gh U w' G')
 fr:Fr M0 w0 w' G'
structure At(base:Nat)(U:Nat→Prop)(M0:List Nat)(w0 w:World)(m:Mem)(G:GS):Prop where
 ok:BL base U w m G
 E:G.E=[]
 out:G.out=[]
 fr:Fr M0 w0 w G
theorem ET{P:Program}{o:Oper}{a:Act}{w w':World}{K:Act→World→Prop}{Q:Exit→Act→World→Prop}{g:Value}(h:(execOp a.eval o).run P w=.ok (.value g) w')(hn:K (a.put o.dst g) w'):o.wp P a w K Q:=by
 unfold Oper.wp
 rw[h]
 exact hn
theorem wp_skip{P:Program}{o:Oper}{a:Act}{w w':World}{K:Act→World→Prop}{Q:Exit→Act→World→Prop}(h:(execOp a.eval o).run P w=.ok .skip w')(hn:K (a.put o.dst undef) w'):o.wp P a w K Q:=by
 unfold Oper.wp
 rw[h]
 exact hn
section
variable {base:Nat} {U:Nat→Prop} {M0:List Nat} {w0 w w':World} {m m':Mem} {G G':GS} {P:Program}
theorem At.nx(h:At base U M0 w0 w m G):Nx base U M0 w0 w m G w m G:=⟨h.ok,h.E,h.out,sO _ _,View.le_refl _,h.fr⟩
theorem Nx.at_(h:Nx base U M0 w0 w m G w' m' G'):At base U M0 w0 w' m' G':=⟨h.ok,h.E,h.out,h.fr⟩
theorem Nx.trans{w2:World}{m2:Mem}{G2:GS}(h:Nx base U M0 w0 w m G w' m' G')(k:Nx base U M0 w0 w' m' G' w2 m2 G2):Nx base U M0 w0 w m G w2 m2 G2:=
 ⟨k.ok,k.E,k.out,rC h.mem k.mem,h.view.trans' k.view,k.fr⟩
theorem Nx.bJ(h:Nx base U M0 w0 w m G w' m' G'){v:V}{g:Value}(q:bJ G.μ m (Gh U w G) v g):bJ G'.μ m' (Gh U w' G') v g:=Js h.mem h.view v g q
theorem Nx.dO(h:Nx base U M0 w0 w m G w' m' G'){v:List V}{g:List Value}(q:dO G.μ m (Gh U w G) v g):dO G'.μ m' (Gh U w' G') v g:=qw h.mem h.view v g q
theorem Fr.less(h:Fr M0 w0 w G)(hx:∀b,excl G'.F G'.E b→excl G.F G.E b):Fr M0 w0 w G':=⟨h.keep,fun b hb=>h.fr b (hx b hb)⟩
theorem At.still(h:At base U M0 w0 w m G)(hg:BL base U w m' G')(hl:QM m G m' G')(ho:G'.out=[]):
  Nx base U M0 w0 w m G w m' {G' with E:=[]}:=by
 obtain⟨k1,k2⟩:=hg.less [] (by simp) (by simp)
 have:=hl.trans k2
 exact⟨k1,rfl,ho,this.mem,this.view,h.fr.less this.ex⟩
theorem Hq{μ:Nat→Value}{h:View}:∀{a b:List V} {g k:List Value},dO μ m h a g→dO μ m h b k→dO μ m h (a++b) (g++k)
 |[],b,g,k,ha,hb=>by simp only[dO] at ha;subst ha;simpa using hb
 |v::a,b,g,k,ha,hb=>by
  obtain⟨g0,g',rfl,h1,h2⟩:=oG ha
  simp only[List.cons_append,dO]
  exact⟨g0,g'++k,rfl,h1,Hq h2 hb⟩
theorem UF{μ:Nat→Value}{h:View}:∀{a:List V} {g:List Value} (n:Nat),dO μ m h a g→dO μ m h (a.drop n) (g.drop n)
 |a,g,0,ha=>by simpa using ha
 |[],g,n+1,ha=>by simp only[dO] at ha;subst ha;simp[dO]
 |v::a,g,n+1,ha=>by
  obtain⟨g0,g',rfl,h1,h2⟩:=oG ha
  simpa using UF n h2
theorem UG{μ:Nat→Value}{h:View}:∀{a:List V} {g:List Value} (n:Nat),dO μ m h a g→dO μ m h (a.take n) (g.take n)
 |a,g,0,ha=>by simp[dO]
 |[],g,n+1,ha=>by simp only[dO] at ha;subst ha;simp[dO]
 |v::a,g,n+1,ha=>by
  obtain⟨g0,g',rfl,h1,h2⟩:=oG ha
  simp only[List.take_succ_cons,dO]
  exact⟨g0,g'.take n,rfl,h1,UG n h2⟩
theorem aaR{μ:Nat→Value}{h:View}{a:List V}{g:List Value}(o n:Nat)(q:dO μ m h a g):dO μ m h (part a o n) ((g.drop o).take n):=UG n (UF o q)
theorem PG{μ:Nat→Value}{h:View}{a b:List V}{g k:List Value}(o:Nat)(q:dO μ m h a g)(q':dO μ m h b k):dO μ m h (splice a o b) (splice g o k):=by
 have hl:k.length=b.length:=jQ q'
 unfold splice
 rw[hl]
 exact Hq (Hq (UG o q) q') (UF _ q)
theorem SH{μ:Nat→Value}{h:View}:∀{a:List V} {g:List Value} {i:Nat} {v:V},dO μ m h a g→a[i]? =some v→∃x,g[i]? =some x∧bJ μ m h v x
 |[],g,i,v,ha,hi=>by simp at hi
 |v0::a,g,i,v,ha,hi=>by
  obtain⟨g0,g',rfl,h1,h2⟩:=oG ha
  cases i with
  |zero=>simp at hi;subst hi;exact⟨g0,rfl,h1⟩
  |succ i=>simpa using SH h2 (by simpa using hi)
theorem afX{t:TypeId}{vs:List V}{v:V}(h:JO P t vs=some v){μ:Nat→Value}{hh:View}{cs:List Value}(hq:dO μ m hh vs cs):∃g,valOf P t cs g:=by
 unfold JO at h
 unfold valOf
 cases ha:Jk P t with
 |true=>exact⟨_,by simp;rfl⟩
 |false=>
  simp only[ha,cond_false] at h
  split at h
  ·obtain⟨g',gs',e,q1,q2⟩:=oG hq
   simp only[dO] at q2
   subst q2
   exact⟨g',by simpa using e⟩
  ·cases h
theorem Ol{h:View}{x:D}{g:Value}(q:ro h x g):g.oneCell'=true:=by
 cases x with
 |sl o s rows=>simp only[ro] at q;obtain⟨a,cap,rfl,_⟩:=q;rfl
 |_=>simp only[ro] at q;subst q;rfl
theorem am0{row:Row}{j:Nat}{x:D}(h:nth row j=x)(hx:x≠.MG):row[j]? =some x:=by
 unfold nth at h
 cases hr:row[j]? with
 |none=>rw[hr] at h;exact absurd h.symm hx
 |some y=>rw[hr] at h;exact congrArg some h
theorem anW{s:Nat}{x:D}{rows:List Row}(h:as4 s x=some rows):∃o,x=.sl o s rows∧(o=false∨rows=[]):=by
 cases x<;>simp[as4] at h
 rename_i o s' rows'
 by_cases e:s'=s
 ·subst e
  simp at h
  cases o with
  |false=>simp at h;subst h;exact⟨false,rfl,.inl rfl⟩
  |true=>
   cases rows' with
   |nil=>simp at h;subst h;exact⟨true,rfl,.inr rfl⟩
   |cons _ _=>simp at h
 ·rw[uN e] at h;simp at h
theorem SI{strict:Bool}{row:Row}{μ:Nat→Value}{h:View}(cell:Nat→Option Value)(Rel:D→Value→Prop)(hrow:∀k x,row[k]? =some x→∃g,cell k=some g∧Rel x g)
  (hint:∀k n g,Rel (.int k n) g→g=.int k n) (auN:∀b g,Rel (.bool b) g→g=.bool b) (hstr:∀s g,Rel (.str s) g→g=.string ⟨⟨s⟩⟩)
  (hsl:∀o s rs g,Rel (.sl o s rs) g→(strict=true→o=false∨rs=[])→ro h (.sl false s rs) g):
  ∀(cts:List CT) (j:Nat) (c:List V→Acc V) (m0:Mem) (l:Log) (r:V×Mem×Log),(He strict cts row j c).run m0 l=some r→
   ∃vs cs,(c vs).run m0 l=some r∧cs.length=cts.length∧dO μ m h vs cs∧∀i g,cs[i]? =some g→cell (j+i)=some g
 |[],j,c,m0,l,r,hr=>⟨[],[],hr,rfl,by simp[dO],by simp⟩
 |ct::cts,j,c,m0,l,r,hr=>by
  have go:∀(x:D) (y:V),nth row j=x→x≠.MG→(∀g,Rel x g→bJ μ m h y g)→(He strict cts row (j+1) fun vs=>c (y::vs)).run m0 l=some r→
    ∃vs cs,(c vs).run m0 l=some r∧cs.length=(ct::cts).length∧dO μ m h vs cs∧∀i g,cs[i]? =some g→cell (j+i)=some g:=by
   intro x y hx hxn hs hr
   obtain⟨g,hg,hrel⟩:=hrow j x (am0 hx hxn)
   obtain⟨vs,cs,h1,h2,h3,h4⟩:=SI cell Rel hrow hint auN hstr hsl cts (j+1) _ m0 l r hr
   refine⟨y::vs,g::cs,h1,by simp[h2],by simp only[dO];exact⟨g,cs,rfl,hs g hrel,h3⟩, ?_⟩
   intro i g' hi
   cases i with
   |zero=>simp at hi;subst hi;exact hg
   |succ i=>
    have:=h4 i g' (by simpa using hi)
    rw[show j+(i+1)=j+1+i from by omega]
    exact this
  cases ct with
  |int k=>
   simp only[He,Acc.run,dn] at hr
   cases ha:asInt k (nth row j) with
   |none=>simp[ha,Acc.run] at hr
   |some n=>
    simp only[ha,Acc.run] at hr
    exact go _ _ (aaK ha) (by simp) (fun g hg=>by rw[hint _ _ g hg];simp[bJ,ro]) hr
  |bool=>
   simp only[He,Acc.run,ady] at hr
   cases ha:asBool (nth row j) with
   |none=>simp[ha,Acc.run] at hr
   |some n=>
    simp only[ha,Acc.run] at hr
    exact go _ _ (Yu ha) (by simp) (fun g hg=>by rw[auN _ g hg];simp[bJ,ro]) hr
  |str=>
   simp only[He,Acc.run,cStr] at hr
   cases ha:adx (nth row j) with
   |none=>simp[ha,Acc.run] at hr
   |some n=>
    simp only[ha,Acc.run] at hr
    exact go _ _ (aaL ha) (by simp) (fun g hg=>by rw[hstr _ g hg];simp[bJ,ro]) hr
  |other=>simp[He,Acc.run] at hr
  |sl s=>
   simp only[He,Acc.run,cRo,BK] at hr
   cases strict with
   |true=>
    simp only[cond_true] at hr
    cases ha:as4 s (nth row j) with
    |none=>simp[ha,Acc.run] at hr
    |some n=>
     simp only[ha,Acc.run] at hr
     obtain⟨o,hx,ho⟩:=anW ha
     exact go _ _ hx (by simp) (fun g hg=>by simp only[bJ];exact hsl _ _ _ g hg (fun _=>ho)) hr
   |false=>
    simp only[cond_false] at hr
    cases ha:apb s (nth row j) with
    |none=>simp[ha,Acc.run] at hr
    |some n=>
     simp only[ha,Acc.run] at hr
     obtain⟨o,hx⟩:=adE ha
     exact go _ _ hx (by simp) (fun g hg=>by simp only[bJ];exact hsl _ _ _ g hg (fun h=>by cases h)) hr
theorem XA{h:View}{b:Nat}:∀{r:Row} {o k:Nat} {x:D},uM h r b o→r[k]? =some x→∃g,h b (o+k)=some g∧ro h x g
 |[],_,_,_,_,hk=>by simp at hk
 |y::r,o,0,x,q,hk=>by
  simp only[uM] at q
  simp at hk;subst hk
  simpa using q.1
 |y::r,o,k+1,x,q,hk=>by
  simp only[uM] at q
  have:=XA q.2 (by simpa using hk)
  rwa [show o+(k+1)=o+1+k from by omega]
theorem QU{h:View}:∀{r:Row} {cs:List Value} {k:Nat} {x:D},jc h r cs→r[k]? =some x→∃g,cs[k]? =some g∧ro h x g
 |[],_,_,_,_,hk=>by simp at hk
 |y::r,cs,0,x,⟨v,cs',e,h1,h2⟩,hk=>by simp at hk;subst hk;subst e;exact⟨v,rfl,h1⟩
 |y::r,cs,k+1,x,⟨v,cs',e,h1,h2⟩,hk=>by subst e;simpa using QU h2 (by simpa using hk)
theorem adH{H:Heap}{h:View}:∀{r:Row} {cs:List Value} {N:List Nat} {k:Nat} {x:D},iI H h r cs N→r[k]? =some x→∃g N1,cs[k]? =some g∧ow H h x g N1
 |[],_,_,_,_,_,hk=>by simp at hk
 |y::r,cs,N,0,x,q,hk=>by
  obtain⟨v,cs',N1,N2,rfl,rfl,h1,h2⟩:=Gj q
  simp at hk;subst hk;exact⟨v,N1,rfl,h1⟩
 |y::r,cs,N,k+1,x,q,hk=>by
  obtain⟨v,cs',N1,N2,rfl,rfl,h1,h2⟩:=Gj q
  simpa using adH h2 (by simpa using hk)
theorem Gl{h:View}{s b:Nat}:∀{rs:List Row} {o k:Nat} {r:Row},mW h s rs b o→rs[k]? =some r→r.length=s∧uM h r b (o+k * s)
 |[],_,_,_,_,hk=>by simp at hk
 |y::rs,o,0,x,q,hk=>by
  simp only[mW] at q
  simp at hk;subst hk
  simpa using⟨q.1,q.2.1⟩
 |y::rs,o,k+1,x,q,hk=>by
  simp only[mW] at q
  have:=Gl q.2.2 (by simpa using hk)
  rwa [show o+(k+1) * s=o+s+k * s from by rw[Nat.add_mul];omega]
theorem PI{h:View}{s:Nat}:∀{rs:List Row} {cs:List Value} {k:Nat} {r:Row},fQ h s rs cs→rs[k]? =some r→r.length=s∧jc h r (cs.drop (k * s))
 |[],_,_,_,_,hk=>by simp at hk
 |y::rs,cs,0,x,q,hk=>by
  simp at hk;subst hk
  simpa using⟨q.1,q.2.1⟩
 |y::rs,cs,k+1,x,q,hk=>by
  have:=PI q.2.2 (by simpa using hk)
  rw[List.drop_drop] at this
  rwa [show(k+1) * s=s+k * s from by rw[Nat.add_mul];omega]
theorem aaS{H:Heap}{h:View}{s:Nat}:∀{rs:List Row} {cs:List Value} {N:List Nat} {k:Nat} {r:Row},fO H h s rs cs N→rs[k]? =some r→r.length=s∧∃N1,iI H h r (cs.drop (k * s)) N1
 |[],_,_,_,_,_,hk=>by simp at hk
 |y::rs,cs,N,0,x,q,hk=>by
  simp only[fO] at q
  obtain⟨h1,N1,N2,rfl,h2,h3⟩:=q
  simp at hk;subst hk
  exact⟨h1,N1,by simpa using h2⟩
 |y::rs,cs,N,k+1,x,q,hk=>by
  simp only[fO] at q
  obtain⟨h1,N1,N2,rfl,h2,h3⟩:=q
  have:=aaS h3 (by simpa using hk)
  rw[List.drop_drop] at this
  rwa [show(k+1) * s=s+k * s from by rw[Nat.add_mul];omega]
theorem am1{h:View}{fz fl:Bool}{ver s:Nat}{rows:List Row}{r i:Nat}{row:Row}{N:List Nat}(hq:lW G.μ m (dR w) h r (.arr fz fl ver s rows) N)(hl:h.le (full w))(hi:rows[i]? =some row):
  ∃b o cap,G.μ r=.slice (some ⟨b,o,none⟩) rows.length cap∧(fz=false→o=0)∧row.length=s∧
   ∃Rel:D→Value→Prop,(∀k x,row[k]? =some x→∃g,full w b (o+i * s+k)=some g∧Rel x g)∧
   (∀k n g,Rel (.int k n) g→g=.int k n)∧(∀b g,Rel (.bool b) g→g=.bool b)∧(∀s g,Rel (.str s) g→g=.string ⟨⟨s⟩⟩)∧
   (∀o s rs g,Rel (.sl o s rs) g→(o=false∨rs=[])→ro h (.sl false s rs) g):=by
 have hne:rows≠[]:=by intro e;subst e;simp at hi
 cases fz with
 |true=>
  obtain⟨h1,_⟩:=hq
  simp only[ro] at h1
  obtain⟨a,cap,h2,h3,h4⟩:=h1
  obtain⟨b,o,rfl,h5⟩:=h4 hne
  obtain⟨h6,h7⟩:=Gl h5 hi
  refine⟨b,o,cap,h2,by simp,h6,ro h,fun k x hk=> ?_, ?_, ?_, ?_, ?_⟩
  ·obtain⟨g,hg1,hg2⟩:=XA h7 hk
   exact⟨g,hl _ _ _ hg1,hg2⟩
  ·intro k n g hg;simpa[ro] using hg
  ·intro b g hg;simpa[ro] using hg
  ·intro s g hg;simpa[ro] using hg
  ·intro o s rs g hg _;exact QO hg
 |false=>
  simp only[lW] at hq
  rcases hq with⟨rfl,_,_⟩|⟨b,cap,cs,t,N',h1,h2,h3,h4,h5,_⟩
  ·exact absurd rfl hne
  ·have hfull:∀k g,(cs.toList.drop (i * s))[k]? =some g→full w b (0+i * s+k)=some g:=by
    intro k g hg
    rw[List.getElem?_drop] at hg
    rw[full_cell h3,Nat.zero_add]
    exact hg
   cases fl with
   |true=>
    obtain⟨h6,h7⟩:=PI h5.1 hi
    refine⟨b,0,cap,h1,by simp,h6,ro h,fun k x hk=> ?_, ?_, ?_, ?_, ?_⟩
    ·obtain⟨g,hg1,hg2⟩:=QU h7 hk
     exact⟨g,hfull k g hg1,hg2⟩
    ·intro k n g hg;simpa[ro] using hg
    ·intro b g hg;simpa[ro] using hg
    ·intro s g hg;simpa[ro] using hg
    ·intro o s rs g hg _;exact QO hg
   |false=>
    obtain⟨h6,N1,h7⟩:=aaS h5 hi
    refine⟨b,0,cap,h1,by simp,h6,fun x g=>∃N,ow (dR w) h x g N,fun k x hk=> ?_, ?_, ?_, ?_, ?_⟩
    ·obtain⟨g,N2,hg1,hg2⟩:=adH h7 hk
     exact⟨g,hfull k g hg1,N2,hg2⟩
    ·rintro k n g ⟨N,hg⟩;simp only[ow] at hg;exact hg.1
    ·rintro b g ⟨N,hg⟩;simp only[ow] at hg;exact hg.1
    ·rintro s g ⟨N,hg⟩;simp only[ow] at hg;exact hg.1
    ·rintro o s rs g ⟨N,hg⟩ ho
     cases o with
     |false=>simp only[ow] at hg;exact hg.2
     |true=>
      rcases ho with ho|rfl
      ·cases ho
      ·simp only[ow] at hg
       rcases hg with⟨_,rfl,_⟩|⟨b,cap,cs,t,N',e1,e2,_⟩
       ·simp[ro]
       ·simp only[ro];exact⟨_,cap,e1,by simp,fun e=>absurd rfl e⟩
theorem am2{h:View}{s:Nat}{rows:List Row}{g:Value}{i:Nat}{row:Row}{N:List Nat}(hq:ac1 (dR w) h s rows g N)(hi:rows[i]? =some row):
  ∃b o cap,g=.slice (some ⟨b,o,none⟩) rows.length cap∧row.length=s∧∀k x,row[k]? =some x→∃v,full w b (o+i * s+k)=some v∧ro h x v:=by
 rcases hq with⟨rfl,_,_⟩|⟨b,o,cap,cs,t,h1,h2,h3,h4,h5,_⟩
 ·simp at hi
 ·obtain⟨h6,h7⟩:=PI h5 hi
  refine⟨b,o,cap,h1,h6,fun k x hk=> ?_⟩
  obtain⟨v,hv1,hv2⟩:=QU h7 hk
  refine⟨v, ?_,hv2⟩
  rw[full_cell (w:=w) h3]
  rw[List.getElem?_drop,List.getElem?_drop,←Nat.add_assoc] at hv1
  exact hv1
theorem apv(hA:At base U M0 w0 w m G){t:TypeId}{a:V}{ga:Value}(ha:bJ G.μ m (Gh U w G) a ga){v:V}{l l':Log}(h:(ape P t a).run m l=some (v,m',l')):
  ∃g,(Instr.loadAt t ga).run P w=.ok g w∧m'=m∧bJ G.μ m (Gh U w G) v g:=by
 simp only[ape] at h
 replace h:=aj h;obtain⟨_,m1,l1,h1,h⟩:=h
 obtain⟨hok,rfl,rfl⟩:=eF h1
 simp only[Bool.and_eq_true] at hok
 obtain⟨hok,hsz⟩:=hok
 have hsz:=Nat.eq_of_beq_eq_true hsz
 cases a with
 |ptr r off=>
  simp only at h
  replace h:=aj h;obtain⟨c,m2,l2,h2,h⟩:=h
  rw[uO] at h2
  cases h2
  cases hc:get r m1 with
  |none=>rw[hc] at h;exact(au h).elim
  |some c=>
   rw[hc] at h
   cases c with
   |arr _ _ _ _ _=>exact(au h).elim
   |dead=>exact(au h).elim
   |DJ _ _ _=>exact(au h).elim
   |box T cs=>
    simp only at h
    replace h:=aj h;obtain⟨_,m2,l2,h2,h⟩:=h
    obtain⟨hfit,rfl,rfl⟩:=eF h2
    obtain⟨hv,rfl,rfl⟩:=gU h
    simp only[bJ,hc] at ha
    obtain⟨_,b,hμ,rfl⟩:=ha
    obtain⟨b',arr,e1,e2,e3,e4⟩:=hA.ok.cell r _ hc (by rw[hA.out];simp)
    rw[hμ] at e1
    cases e1
    have hp:=aaR off (lC P t) e3
    have hlen:arr.size=cs.length:=by simpa using jQ e3
    have hfit:=Nat.le_of_ble_eq_true hfit
    obtain⟨g,hg⟩:=afX hv hp
    refine⟨g,Jv hok (by simp;omega) ?_ hg,rfl,Ju hv hp hg⟩
    intro j x hj
    have hj':j<lC P t:=by
     have:=(List.getElem?_eq_some_iff.1 hj).1
     simp at this
     omega
    rw[List.getElem?_take,if_pos hj',List.getElem?_drop] at hj
    have:=full_cell (w:=w) e2 (off+j)
    rw[hj] at this
    exact this
 |sJ row off=>
  simp only at h
  simp only[bJ] at ha
  obtain⟨b,o,rfl,hrow⟩:=ha
  obtain⟨vs,cs,h2,h3,h4,h5⟩:=SI (m:=m1) (μ:=G.μ) (h:=Gh U w G) (fun k=>Gh U w G b (o+k)) (ro (Gh U w G)) (fun k x hk=>XA hrow hk)
   (fun k n g hg=>by simpa[ro] using hg) (fun b g hg=>by simpa[ro] using hg) (fun s g hg=>by simpa[ro] using hg) (fun _ s rs g hg _=>QO hg) _ _ _ _ _ _ h
  obtain⟨hv,rfl,rfl⟩:=gU h2
  obtain⟨g,hg⟩:=afX hv h4
  refine⟨g,Jv hok (by rw[h3,hsz]) ?_ hg,rfl,Ju hv h4 hg⟩
  intro j x hj
  have:=h5 j x hj
  rw[Nat.add_assoc]
  exact wz _ _ _ _ _ _ this
 |sS r ver i off=>
  simp only at h
  replace h:=aj h;obtain⟨c,m2,l2,h2,h⟩:=h
  rw[uO] at h2
  cases h2
  cases hc:get r m1 with
  |none=>rw[hc] at h;exact(au h).elim
  |some c=>
   rw[hc] at h
   cases c with
   |box _ _=>exact(au h).elim
   |dead=>exact(au h).elim
   |DJ iU s rows=>
    simp only at h
    replace h:=aj h;obtain⟨_,m2,l2,h2,h⟩:=h
    obtain⟨hb,rfl,rfl⟩:=eF h2
    have hb:=Nat.eq_of_beq_eq_true hb
    subst hb
    replace h:=aj h;obtain⟨row,m2,l2,h2,h⟩:=h
    obtain⟨hrow,rfl,rfl⟩:=gU h2
    simp only[bJ,hc] at ha
    obtain⟨b,o,n,cap,hμ,rfl⟩:=ha.2.2 trivial
    have hcell:=hA.ok.cell r _ hc (by rw[hA.out];simp)
    obtain⟨b',o',cap',e1,e3,q1⟩:=am2 hcell hrow
    rw[hμ] at e1
    simp only[Value.slice.injEq,Option.some.injEq,Addr.mk.injEq] at e1
    obtain⟨⟨rfl,rfl,_⟩,_,_⟩:=e1
    obtain⟨vs,cs,h2,h3,h4,h5⟩:=SI (m:=_) (μ:=G.μ) (h:=Gh U w G) (fun k=>full w b (o+i * s+k)) (ro (Gh U w G)) q1
     (fun k n g hg=>by simpa[ro] using hg) (fun b g hg=>by simpa[ro] using hg) (fun s g hg=>by simpa[ro] using hg) (fun _ s rs g hg _=>QO hg) _ _ _ _ _ _ h
    obtain⟨hv,rfl,rfl⟩:=gU h2
    obtain⟨g,hg⟩:=afX hv h4
    refine⟨g,Jv hok (by rw[h3,hsz]) ?_ hg,rfl,Ju hv h4 hg⟩
    intro j x hj
    have:=h5 j x hj
    rw[show o+(i * s+off)+j=o+i * s+(off+j) from by omega]
    exact this
   |arr fz fl iU s rows=>
    simp only at h
    replace h:=aj h;obtain⟨_,m2,l2,h2,h⟩:=h
    obtain⟨hb,rfl,rfl⟩:=eF h2
    have hb:=Nat.eq_of_beq_eq_true hb
    subst hb
    replace h:=aj h;obtain⟨row,m2,l2,h2,h⟩:=h
    obtain⟨hrow,rfl,rfl⟩:=gU h2
    simp only[bJ,hc] at ha
    obtain⟨b,n,cap,hμ,rfl⟩:=ha.2.2 trivial
    have hcell:=hA.ok.cell r _ hc (by rw[hA.out];simp)
    obtain⟨b',o,cap',e1,e2,e3,Rel,q1,q2,q3,q4,q5⟩:=am1 hcell (wz _ _ _) hrow
    rw[hμ] at e1
    simp only[Value.slice.injEq,Option.some.injEq,Addr.mk.injEq] at e1
    obtain⟨⟨rfl,ho,_⟩,_,_⟩:=e1
    subst ho
    obtain⟨vs,cs,h2,h3,h4,h5⟩:=SI (m:=_) (μ:=G.μ) (h:=Gh U w G) (fun k=>full w b (0+i * s+k)) Rel q1 q2 q3 q4 (fun o s rs g hg hs=>q5 o s rs g hg (hs rfl)) _ _ _ _ _ _ h
    obtain⟨hv,rfl,rfl⟩:=gU h2
    obtain⟨g,hg⟩:=afX hv h4
    refine⟨g,Jv hok (by rw[h3,hsz]) ?_ hg,rfl,Ju hv h4 hg⟩
    intro j x hj
    have:=h5 j x hj
    rw[show i * s+off+j=0+i * s+(off+j) from by omega]
    exact this
 |d _=>exact(au h).elim
 |nil _=>exact(au h).elim
 |own _ _=>exact(au h).elim
 |clo _ _ _=>exact(au h).elim
 |agg _=>exact(au h).elim
 |yE _=>exact(au h).elim
 |undef=>exact(au h).elim
end
end Go.Vm
namespace Go.Vm
open Go
section
variable {base:Nat} {U:Nat→Prop} {M0:List Nat} {w0 w w':World} {m m':Mem} {G G':GS} {P:Program}
theorem oH{μ:Nat→Value}{h:View}{v:V}{g:Value}(h1:one v=true)(q:bJ μ m h v g):g.oneCell'=true:=by
 cases v with
 |d x=>simp only[bJ] at q;exact Ol q
 |nil s=>simp only[bJ] at q;subst q;rfl
 |own _ _=>simp only[bJ] at q;obtain⟨⟨a,n,c,rfl⟩,_⟩:=q;rfl
 |ptr _ _=>simp only[bJ] at q;obtain⟨⟨b,o,rfl⟩,_⟩:=q;rfl
 |sS _ _ _ _=>simp only[bJ] at q;obtain⟨⟨b,o,rfl⟩,_⟩:=q;rfl
 |sJ _ _=>simp only[bJ] at q;obtain⟨b,o,rfl,_⟩:=q;rfl
 |clo _ _ _=>simp only[bJ] at q;obtain⟨a,c,rfl,_⟩:=q;rfl
 |agg _=>simp[one] at h1
 |yE _=>simp[one] at h1
 |undef=>simp[one] at h1
theorem cells_one{g:Value}(h:g.oneCell'=true):g.cells=#[g]:=by cases g<;>first|rfl|simp[Value.oneCell'] at h
theorem adI{μ:Nat→Value}{h:View}:∀{vs:List V} {gs:List Value},vs.all one=true→dO μ m h vs gs→∀x∈gs,x.oneCell'=true
 |[],gs,_,q=>by simp only[dO] at q;subst q;simp
 |v::vs,gs,h1,q=>by
  obtain⟨g,gs',rfl,q1,q2⟩:=oG q
  simp only[List.all_cons,Bool.and_eq_true] at h1
  intro x hx
  simp only[List.mem_cons] at hx
  rcases hx with rfl|hx
  ·exact oH h1.1 q1
  ·exact adI h1.2 q2 x hx
theorem cells_ok{μ:Nat→Value}{h:View}{v:V}{g:Value}(h1:v.cells.all one=true)(q:bJ μ m h v g):dO μ m h v.cells g.cells.toList∧∀x∈g.cells.toList,x.oneCell'=true:=by
 have single:one v=true→v.cells=[v]→dO μ m h v.cells g.cells.toList∧∀x∈g.cells.toList,x.oneCell'=true:=by
  intro ho hv
  have:=oH ho q
  rw[cells_one this,hv]
  exact⟨by simp only[dO];exact⟨g,[],rfl,q,rfl⟩,by simpa using this⟩
 cases v with
 |agg cs=>
  simp only[bJ] at q
  obtain⟨a,rfl,q⟩:=q
  exact⟨q,adI h1 q⟩
 |yE _=>simp[V.cells,one] at h1
 |undef=>simp[V.cells,one] at h1
 |_=>exact single rfl rfl
theorem adJ{μ:Nat→Value}{h:View}(c:CT)(g:Value):bJ μ m h (Xr c g) g:=by
 unfold Xr
 split<;>simp[bJ,ro]
theorem PK{μ:Nat→Value}{h:View}:∀(cs:List CT) (gs:List Value),dO μ m h (BJ cs gs) gs
 |[],[]=>by simp[BJ,dO]
 |_::_,[]=>by simp[BJ,dO]
 |[],g::gs=>by simp only[BJ,dO];exact⟨g,gs,rfl,by simp[bJ],PK [] gs⟩
 |c::cs,g::gs=>by simp only[BJ,dO];exact⟨g,gs,rfl,adJ c g,PK cs gs⟩
theorem azM{μ:Nat→Value}{h:View}(t:TypeId)(g:Value):bJ μ m h (cv P t g) g:=by
 unfold cv
 split
 ·simp only[bJ];exact⟨_,rfl,PK _ _⟩
 ·split
  ·exact adJ _ _
  ·simp[bJ]
def VN(μ:Nat→Value)(m:Mem)(h:View)(tm:jP)(a:Act):Prop:=∀t v,get t tm=some v→t<a.tmps.size∧bJ μ m h v (a.tmps.getD t undef)
theorem OI{μ:Nat→Value}{h:View}{tm:jP}{a:Act}(hT:VN μ m h tm a)(t:TypeId)(x:Operand):bJ μ m h (ev P tm t x) (a.eval x):=by
 cases x with
 |tmp i=>
  simp only[ev,Px]
  cases hg:get i tm with
  |none=>simp[bJ]
  |some v=>exact(hT i v hg).2
 |const v=>exact azM t v
 |global g=>simp[ev,bJ]
 |func f=>simp only[ev,bJ];exact⟨#[],#[],rfl,by simp[dO],by simp[dO]⟩
theorem SK{μ:Nat→Value}{h:View}{tm:jP}{a:Act}(hT:VN μ m h tm a):∀(xs:List Operand) (ts:List TypeId),dO μ m h (ru P tm xs ts) (xs.map a.eval)
 |[],_=>by simp[ru,dO]
 |x::xs,ts=>by simp only[ru,dO,List.map_cons];exact⟨_,_,rfl,OI hT _ x,SK hT xs _⟩
theorem ML{μ:Nat→Value}{h:View}{t:TypeId}{z:List V}(hz:JM P t=some z):∃i zv,P.info? t=some i∧i.zero=some zv∧dO μ m h z zv.cells.toList:=by
 unfold JM at hz
 cases hi:P.info? t with
 |none=>simp[hi] at hz
 |some i=>
  simp only[hi] at hz
  cases hzv:i.zero with
  |none=>simp[hzv] at hz
  |some zv=>
   simp only[hzv,Option.some.injEq] at hz
   subst hz
   exact⟨i,zv,rfl,hzv,PK _ _⟩
theorem BL.rewrite(hg:BL base U w m G)(ho:G.out=[])(hfr:Fr M0 w0 w G){r:Nat}{c c':Cell}{μ':Nat→Value}{N:List Nat}(hc:get r m=some c)(hk:Keep (G.F r) w w')(hN:N.Nodup)
  (hNs:∀b,b∈N→(b∈G.F r∨b∈G.E∨w.heap.size≤b)∧b<w'.heap.size) (hμ:∀k,k≠r→μ' k=G.μ k) (hle:Gi G.μ μ' r c c')
  (hcell:∀h':View,(Gh U w G).le h'→EF G.μ m μ' (put r c' m)→(∀k,k∈G.E→k ∉ N→Xv h' (dR w) [k])→lW μ' (put r c' m) (dR w') h' r c' N):
  Nx base U M0 w0 w m G w' (put r c' m) ⟨μ',Vr G.F r N,[],[]⟩:=by
 have hro:r ∉ G.out:=by rw[ho];simp
 obtain⟨k1,k2⟩:=hg.auM hc hro
 have hk':Keep (G.E++G.F r) w w':=⟨hk.os,hk.tape,hk.output,hk.size,fun b hb hn=>hk.block b hb (fun h=>hn (by simp[h]))⟩
 obtain⟨q1,q2⟩:=BL.world k1 hk' (E':=N) hN (fun b hb=>by
  have:=hNs b hb
  refine⟨?_,this.2⟩
  rcases this.1 with h|h|h
  ·left;simp[h]
  ·left;simp[h]
  ·exact .inr h)
 have hup:Vr (Vr G.F r []) r N=Vr G.F r N:=by
  funext k
  by_cases e:k=r
  ·subst e;simp
  ·simp[jJ _ e]
 have hml:EF G.μ m μ' (put r c' m):=GK hμ (fun c0 h0=>by rw[hc] at h0;cases h0;exact hle)
 have hset:=BL.set (U:=U) (w:=w') q1 r c' μ' N [] [] (by simpa using hN) (by simp) hml hμ (fun k hkr=>by simp[ho,hkr]) (by simp)
  (fun hv _=>hcell _ (k2.view.trans' (q2.trans' hv)) hml (fun k hkE hkN b hb cs t fr hH o v hv=>by
   simp only[List.mem_singleton] at hb
   subst hb
   have hbF:∀j,b ∉ G.F j:=fun j hj=>hg.djE j b hj hkE
   have hlt:=hg.lt b (.inl hkE)
   have hsame:dR w' b=dR w b:=hk.block b hlt.1 (hbF r)
   refine Me (w:=w') (N:=[b]) (fun x hx=> ?_) b (by simp) cs t fr (hsame.trans hH) o v hv
   simp only[List.mem_singleton] at hx
   subst hx
   refine⟨hlt.2.2, ?_⟩
   rintro(h|⟨j,h⟩)
   ·simp at h
   ·rw[hup] at h
    by_cases e:j=r
    ·subst e;rw[AU] at h;exact hkN h
    ·rw[jJ _ e] at h;exact hbF j h))
 simp only[hup] at hset
 obtain⟨s1,s2⟩:=hset
 refine⟨s1,rfl,rfl,hml,k2.view.trans' (q2.trans' s2.view), ?_⟩
 refine⟨hfr.keep.trans hk (fun x hx=>hfr.fr x (.inr ⟨r,hx⟩)), ?_⟩
 rintro b (hb|⟨k,hb⟩)
 ·simp at hb
 ·by_cases e:k=r
  ·subst e
   simp only[AU] at hb
   rcases(hNs b hb).1 with h|h|h
   ·exact hfr.fr b (.inr ⟨_,h⟩)
   ·exact hfr.fr b (.inl h)
   ·exact .inr (Nat.le_trans hfr.keep.size h)
  ·simp only[jJ _ e] at hb
   exact hfr.fr b (.inr ⟨k,hb⟩)
theorem At.rewrite(hA:At base U M0 w0 w m G){r:Nat}{c c':Cell}{μ':Nat→Value}{N:List Nat}(hc:get r m=some c)(hk:Keep (G.F r) w w')(hN:N.Nodup)
  (hNs:∀b,b∈N→(b∈G.F r∨w.heap.size≤b)∧b<w'.heap.size) (hμ:∀k,k≠r→μ' k=G.μ k) (hle:Gi G.μ μ' r c c')
  (hcell:∀h':View,(Gh U w G).le h'→EF G.μ m μ' (put r c' m)→lW μ' (put r c' m) (dR w') h' r c' N):
  Nx base U M0 w0 w m G w' (put r c' m) ⟨μ',Vr G.F r N,[],[]⟩:=
 hA.ok.rewrite hA.out hA.fr hc hk hN (fun b hb=>⟨(hNs b hb).1.imp id .inr,(hNs b hb).2⟩) hμ hle (fun h' h1 h2 _=>hcell h' h1 h2)
theorem Nx.after{G1:GS}{m1:Mem}(hl:QM m G m1 G1)(h:Nx base U M0 w0 w m1 G1 w' m' G'):Nx base U M0 w0 w m G w' m' G':=
 ⟨h.ok,h.E,h.out,rC hl.mem h.mem,hl.view.trans' h.view,h.fr⟩
theorem NT{b:Nat}{cs:Array Value}{M:List Nat}(hb:b∈M):Keep M w (w.setRow b cs):=
 ⟨rfl,rfl,rfl,by simp[World.setRow],fun k _ hk=>setRow_other w b k cs (fun e=>hk (e ▸ hb))⟩
theorem UH{o:Obj}{M:List Nat}:Keep M w (w.alloc o):=⟨rfl,rfl,rfl,by simp,fun k hk _=>heap_alloc_old w o k hk⟩
theorem SL{M:List Nat}:Keep M w w.drew:=⟨rfl,rfl,rfl,Nat.le_refl _,fun _ _ _=>rfl⟩
theorem Jw{H:Heap}{h:View}:∀{r:Row} {cs cs':List Value} {N:List Nat},cs.take r.length=cs'.take r.length→iI H h r cs N→iI H h r cs' N
 |[],_,_,_,_,q=>by simpa[iI] using q
 |x::r,cs,cs',N,e,q=>by
  obtain⟨v,cs1,N1,N2,rfl,rfl,h1,h2⟩:=Gj q
  cases cs' with
  |nil=>simp at e
  |cons v' avF=>
   simp only[List.length_cons,List.take_succ_cons,List.cons.injEq] at e
   obtain⟨rfl,e⟩:=e
   simp only[iI]
   exact⟨v,avF,N1,N2,rfl,rfl,h1,Jw e h2⟩
theorem wB{H:Heap}{h:View}:∀{a b:Row} {cs:List Value} {N:List Nat},iI H h (a++b) cs N↔∃N1 N2,N=N1++N2∧iI H h a cs N1∧iI H h b (cs.drop a.length) N2
 |[],b,cs,N=>by
  simp only[List.nil_append,iI,List.length_nil,List.drop_zero]
  constructor
  ·intro q;exact⟨[],N,rfl,rfl,q⟩
  ·rintro⟨N1,N2,rfl,rfl,q⟩;simpa using q
 |x::a,b,cs,N=>by
  simp only[List.cons_append,iI]
  constructor
  ·rintro⟨v,cs',N1,N2,rfl,rfl,h1,h2⟩
   obtain⟨N3,N4,rfl,h3,h4⟩:=wB.1 h2
   exact⟨N1++N3,N4,by simp,⟨v,cs',N1,N3,rfl,rfl,h1,h3⟩,by simpa using h4⟩
  ·rintro⟨N1,N2,rfl,⟨v,cs',N3,N4,rfl,rfl,h1,h3⟩,h4⟩
   exact⟨v,cs',N3,N4++N2,rfl,by simp,h1,wB.2 ⟨N4,N2,rfl,h3,by simpa using h4⟩⟩
theorem aaT{H:Heap}{h:View}:∀{r:Row} {cs:List Value} {N:List Nat},iI H h r cs N→r.length≤cs.length
 |[],_,_,_=>by simp
 |x::r,cs,N,q=>by
  obtain⟨v,cs',N1,N2,rfl,rfl,_,h2⟩:=Gj q
  have:=aaT h2
  simp;omega
theorem Bq{α:Type}{l xs:List α}{o:Nat}(h:o+xs.length≤l.length):(splice l o xs).length=l.length:=by
 simp[splice];omega
theorem aeO{H:Heap}{h:View}{row xs:Row}{cs gs:List Value}{N N1:List Nat}{o:Nat}(q:iI H h row cs N)(q1:iI H h xs gs N1)(hl:xs.length=gs.length)(ho:o+xs.length≤row.length):
  ∃N' Dr,iI H h (splice row o xs) (splice cs o gs) N'∧(N'++Dr).Perm (N++N1):=by
 have hrow:row=row.take o++((row.drop o).take xs.length++row.drop (o+xs.length)):=by
  rw[←List.drop_drop,List.take_append_drop,List.take_append_drop]
 have hcl:=aaT q
 rw[hrow] at q
 obtain⟨Na,Nb,rfl,qa,qb⟩:=wB.1 q
 obtain⟨Nc,Nd,rfl,qc,qd⟩:=wB.1 qb
 have l1:(row.take o).length=o:=by simp;omega
 have l2:((row.drop o).take xs.length).length=xs.length:=by simp;omega
 rw[l1,List.drop_drop,l2] at qd
 refine⟨Na++(N1++Nd),Nc, ?_, ?_⟩
 ·have e:splice row o xs=row.take o++(xs++row.drop (o+xs.length)):=by simp[splice]
  rw[e]
  refine wB.2 ⟨Na,N1++Nd,rfl, ?_, ?_⟩
  ·refine Jw ?_ qa
   rw[l1]
   simp only[splice,List.append_assoc]
   rw[List.take_append_of_le_length (by simp;omega)]
   rw[List.take_take];congr 1;omega
  ·rw[l1]
   have hd:(splice cs o gs).drop o=gs++cs.drop (o+gs.length):=by
    simp only[splice,List.append_assoc]
    rw[List.drop_append_of_le_length (by simp;omega)]
    have:(cs.take o).drop o=[]:=by simp
    rw[this];rfl
   rw[hd]
   refine wB.2 ⟨N1,Nd,rfl, ?_, ?_⟩
   ·refine Jw ?_ q1
    rw[hl];simp
   ·rw[hl];rw[hl] at qd;simpa using qd
 ·simp only[List.append_assoc]
  refine List.Perm.append_left Na ?_
  have h1:(N1++(Nd++Nc)).Perm ((Nd++Nc)++N1):=List.perm_append_comm
  have h2:((Nd++Nc)++N1).Perm ((Nc++Nd)++N1):=List.Perm.append_right N1 List.perm_append_comm
  simpa using h1.trans h2
theorem NU{H:Heap}{h:View}{s:Nat}:∀{rs:List Row} {cs cs':List Value} {N:List Nat},cs.take (rs.length * s)=cs'.take (rs.length * s)→fO H h s rs cs N→fO H h s rs cs' N
 |[],_,_,_,_,q=>by simpa[fO] using q
 |r::rs,cs,cs',N,e,q=>by
  simp only[fO] at q⊢
  obtain⟨h1,N1,N2,rfl,h2,h3⟩:=q
  have hs:(r::rs).length * s=s+rs.length * s:=by simp[Nat.add_mul];omega
  rw[hs] at e
  refine⟨h1,N1,N2,rfl,Jw ?_ h2,NU ?_ h3⟩
  ·rw[h1]
   have:=congrArg (List.take s) e
   simpa[List.take_take,Nat.min_eq_left] using this
  ·have:=congrArg (List.drop s) e
   simpa[List.drop_take] using this
theorem xY{H:Heap}{h:View}{s:Nat}:∀{a b:List Row} {cs:List Value} {N:List Nat},fO H h s (a++b) cs N↔∃N1 N2,N=N1++N2∧fO H h s a cs N1∧fO H h s b (cs.drop (a.length * s)) N2
 |[],b,cs,N=>by
  simp only[List.nil_append,fO,List.length_nil,Nat.zero_mul,List.drop_zero]
  constructor
  ·intro q;exact⟨[],N,rfl,rfl,q⟩
  ·rintro⟨N1,N2,rfl,rfl,q⟩;simpa using q
 |x::a,b,cs,N=>by
  have hs:(x::a).length * s=s+a.length * s:=by simp[Nat.add_mul];omega
  simp only[List.cons_append,fO,hs]
  constructor
  ·rintro⟨h0,N1,N2,rfl,h1,h2⟩
   obtain⟨N3,N4,rfl,h3,h4⟩:=xY.1 h2
   exact⟨N1++N3,N4,by simp,⟨h0,N1,N3,rfl,h1,h3⟩,by simpa using h4⟩
  ·rintro⟨N1,N2,rfl,⟨h0,N3,N4,rfl,h1,h3⟩,h4⟩
   exact⟨h0,N3,N4++N2,by simp,h1,xY.2 ⟨N4,N2,rfl,h3,by simpa using h4⟩⟩
theorem Hr{h:View}:∀{r:Row} {cs cs':List Value},cs.take r.length=cs'.take r.length→jc h r cs→jc h r cs'
 |[],_,_,_,_=>trivial
 |x::r,cs,cs',e,⟨v,cs1,e1,h1,h2⟩=>by
  subst e1
  cases cs' with
  |nil=>simp at e
  |cons v' avF=>
   simp only[List.length_cons,List.take_succ_cons,List.cons.injEq] at e
   obtain⟨rfl,e⟩:=e
   exact⟨v,avF,rfl,h1,Hr e h2⟩
theorem yM{h:View}:∀{a b:Row} {cs:List Value},jc h (a++b) cs↔jc h a cs∧jc h b (cs.drop a.length)
 |[],b,cs=>by simp[jc]
 |x::a,b,cs=>by
  simp only[List.cons_append,jc]
  constructor
  ·rintro⟨v,cs',rfl,h1,h2⟩
   obtain⟨h3,h4⟩:=yM.1 h2
   exact⟨⟨v,cs',rfl,h1,h3⟩,by simpa using h4⟩
  ·rintro⟨⟨v,cs',rfl,h1,h3⟩,h4⟩
   exact⟨v,cs',rfl,h1,yM.2 ⟨h3,by simpa using h4⟩⟩
theorem UJ{h:View}:∀{r:Row} {cs:List Value},jc h r cs→r.length≤cs.length
 |[],_,_=>by simp
 |x::r,cs,⟨v,cs',e,_,h2⟩=>by subst e;have:=UJ h2;simp;omega
theorem aaU{h:View}{row xs:Row}{cs gs:List Value}{o:Nat}(q:jc h row cs)(q1:jc h xs gs)(hl:xs.length=gs.length)(ho:o+xs.length≤row.length):jc h (splice row o xs) (splice cs o gs):=by
 have hrow:row=row.take o++((row.drop o).take xs.length++row.drop (o+xs.length)):=by
  rw[←List.drop_drop,List.take_append_drop,List.take_append_drop]
 have hcl:=UJ q
 rw[hrow] at q
 obtain⟨qa,qb⟩:=yM.1 q
 obtain⟨qc,qd⟩:=yM.1 qb
 have l1:(row.take o).length=o:=by simp;omega
 have l2:((row.drop o).take xs.length).length=xs.length:=by simp;omega
 rw[l1,List.drop_drop,l2] at qd
 have e:splice row o xs=row.take o++(xs++row.drop (o+xs.length)):=by simp[splice]
 rw[e]
 refine yM.2 ⟨?_, ?_⟩
 ·refine Hr ?_ qa
  rw[l1]
  simp only[splice,List.append_assoc]
  rw[List.take_append_of_le_length (by simp;omega)]
  rw[List.take_take];congr 1;omega
 ·rw[l1]
  have hd:(splice cs o gs).drop o=gs++cs.drop (o+gs.length):=by
   simp only[splice,List.append_assoc]
   rw[List.drop_append_of_le_length (by simp;omega)]
   have:(cs.take o).drop o=[]:=by simp
   rw[this];rfl
  rw[hd]
  refine yM.2 ⟨Hr (by rw[hl];simp) q1, ?_⟩
  rw[hl];rw[hl] at qd;simpa using qd
theorem qJ{h:View}{s:Nat}:∀{rs:List Row} {cs cs':List Value},cs.take (rs.length * s)=cs'.take (rs.length * s)→fQ h s rs cs→fQ h s rs cs'
 |[],_,_,_,_=>trivial
 |r::rs,cs,cs',e,⟨h1,h2,h3⟩=>by
  have hs:(r::rs).length * s=s+rs.length * s:=by simp[Nat.add_mul];omega
  rw[hs] at e
  refine⟨h1,Hr ?_ h2,qJ ?_ h3⟩
  ·rw[h1]
   have:=congrArg (List.take s) e
   simpa[List.take_take,Nat.min_eq_left] using this
  ·have:=congrArg (List.drop s) e
   simpa[List.drop_take] using this
theorem vU{h:View}{s:Nat}:∀{a b:List Row} {cs:List Value},fQ h s (a++b) cs↔fQ h s a cs∧fQ h s b (cs.drop (a.length * s))
 |[],b,cs=>by simp[fQ]
 |x::a,b,cs=>by
  have hs:(x::a).length * s=s+a.length * s:=by simp[Nat.add_mul];omega
  simp only[List.cons_append,fQ,hs]
  rw[vU,List.drop_drop]
  constructor
  ·rintro⟨h0,h1,h2,h3⟩;exact⟨⟨h0,h1,h2⟩,h3⟩
  ·rintro⟨⟨h0,h1,h2⟩,h3⟩;exact⟨h0,h1,h2,h3⟩
end
end Go.Vm
namespace Go.Vm
open Go
section
variable {base:Nat} {U:Nat→Prop} {M0:List Nat} {w0 w w':World} {m m':Mem} {G G':GS} {P:Program}
theorem KO{α:Type}{l:List α}{i:Nat}{a b:α}(h:l[i]? =some a):l.set i b=l.take i++(b::l.drop (i+1))∧l=l.take i++(a::l.drop (i+1)):=by
 have hi:=(List.getElem?_eq_some_iff.1 h).1
 have ha:=(List.getElem?_eq_some_iff.1 h).2
 refine⟨?_, ?_⟩
 ·rw[List.set_eq_take_append_cons_drop,if_pos hi]
 ·rw[←ha,List.getElem_cons_drop,List.take_append_drop]
theorem alY{H:Heap}{h:View}{s i o:Nat}{rows:List Row}{row xs:Row}{cs gs:List Value}{N N1:List Nat}(q:fO H h s rows cs N)(hi:rows[i]? =some row)(q1:iI H h xs gs N1)(hl:xs.length=gs.length)(ho:o+xs.length≤s):
  ∃N' Dr,fO H h s (rows.set i (splice row o xs)) (splice cs (i * s+o) gs) N'∧(N'++Dr).Perm (N++N1):=by
 obtain⟨e1,e2⟩:=KO (b:=splice row o xs) hi
 have hil:=(List.getElem?_eq_some_iff.1 hi).1
 rw[e2] at q
 obtain⟨Na,Nb,rfl,qa,qb⟩:=xY.1 q
 have l1:(rows.take i).length=i:=by simp;omega
 rw[l1] at qb
 simp only[fO] at qb
 obtain⟨h0,Nc,Nd,rfl,qc,qd⟩:=qb
 have hcl:=aaT qc
 simp only[List.length_drop] at hcl
 obtain⟨N',Dr,qe,hp⟩:=aeO (o:=o) qc q1 hl (by omega)
 have alZ:(splice row o xs).length=s:=by rw[Bq (l:=row) (xs:=xs) (o:=o) (by omega)];exact h0
 have his:i * s≤cs.length:=by
  rcases Nat.eq_zero_or_pos s with e|e
  ·rw[e];simp
  ·omega
 refine⟨Na++(N'++Nd),Dr, ?_, ?_⟩
 ·rw[e1]
  refine xY.2 ⟨Na,N'++Nd,rfl, ?_, ?_⟩
  ·refine NU ?_ qa
   rw[l1]
   simp only[splice,List.append_assoc]
   rw[List.take_append_of_le_length (by simp;omega),List.take_take]
   congr 1;omega
  ·rw[l1]
   have hd:(splice cs (i * s+o) gs).drop (i * s)=splice (cs.drop (i * s)) o gs:=by
    simp only[splice]
    rw[List.append_assoc,List.drop_append_of_le_length (by simp;omega),List.drop_take,List.drop_drop]
    rw[show i * s+o - i * s=o from by omega,List.append_assoc,Nat.add_assoc]
   simp only[fO,hd]
   refine⟨alZ,N',Nd,rfl,qe, ?_⟩
   have hd2:(splice (cs.drop (i * s)) o gs).drop s=(cs.drop (i * s)).drop s:=by
    simp only[splice]
    rw[List.drop_append,List.drop_eq_nil_of_le (by simp;omega)]
    simp only[List.nil_append,List.drop_drop,List.length_append,List.length_take,List.length_drop]
    congr 1
    omega
   rw[hd2]
   exact qd
 ·simp only[List.append_assoc]
  refine List.Perm.append_left Na ?_
  have h1:(N'++(Nd++Dr)).Perm (N'++(Dr++Nd)):=List.Perm.append_left N' List.perm_append_comm
  have h2:((N'++Dr)++Nd).Perm ((Nc++N1)++Nd):=List.Perm.append_right Nd hp
  have h3:(Nc++(N1++Nd)).Perm (Nc++(Nd++N1)):=List.Perm.append_left Nc List.perm_append_comm
  have h2':(N'++(Dr++Nd)).Perm (Nc++(N1++Nd)):=by simpa using h2
  exact h1.trans (h2'.trans h3)
theorem aeP{h:View}{s i o:Nat}{rows:List Row}{row xs:Row}{cs gs:List Value}(q:fQ h s rows cs)(hi:rows[i]? =some row)(q1:jc h xs gs)(hl:xs.length=gs.length)(ho:o+xs.length≤s):
  fQ h s (rows.set i (splice row o xs)) (splice cs (i * s+o) gs):=by
 obtain⟨e1,e2⟩:=KO (b:=splice row o xs) hi
 have hil:=(List.getElem?_eq_some_iff.1 hi).1
 rw[e2] at q
 obtain⟨qa,qb⟩:=vU.1 q
 have l1:(rows.take i).length=i:=by simp;omega
 rw[l1] at qb
 obtain⟨h0,qc,qd⟩:=qb
 have hcl:=UJ qc
 simp only[List.length_drop] at hcl
 have qe:=aaU (o:=o) qc q1 hl (by omega)
 have alZ:(splice row o xs).length=s:=by rw[Bq (l:=row) (xs:=xs) (o:=o) (by omega)];exact h0
 have his:i * s≤cs.length:=by
  rcases Nat.eq_zero_or_pos s with e|e
  ·rw[e];simp
  ·omega
 rw[e1]
 refine vU.2 ⟨?_, ?_⟩
 ·refine qJ ?_ qa
  rw[l1]
  simp only[splice,List.append_assoc]
  rw[List.take_append_of_le_length (by simp;omega),List.take_take]
  congr 1;omega
 ·rw[l1]
  have hd:(splice cs (i * s+o) gs).drop (i * s)=splice (cs.drop (i * s)) o gs:=by
   simp only[splice]
   rw[List.append_assoc,List.drop_append_of_le_length (by simp;omega),List.drop_take,List.drop_drop]
   rw[show i * s+o - i * s=o from by omega,List.append_assoc,Nat.add_assoc]
  rw[hd]
  refine⟨alZ,qe, ?_⟩
  have hd2:(splice (cs.drop (i * s)) o gs).drop s=(cs.drop (i * s)).drop s:=by
   simp only[splice]
   rw[List.drop_append,List.drop_eq_nil_of_le (by simp;omega)]
   simp only[List.nil_append,List.drop_drop,List.length_append,List.length_take,List.length_drop]
   congr 1
   omega
  rw[hd2]
  exact qd
theorem At.took(hA:At base U M0 w0 w m G){N:List Nat}(ht:Jl base U w m G m' G' N):G'.E=N∧G'.out=[]∧Fr M0 w0 w G':=
 ⟨by rw[ht.E,hA.E];rfl,ht.out.trans hA.out,hA.fr.less ht.le.ex⟩
theorem anX(hA:At base U M0 w0 w m G){t:TypeId}{a x:V}{ga gx:Value}(ha:bJ G.μ m (Gh U w G) a ga)(hx:bJ G.μ m (Gh U w G) x gx){u:Unit}{l l':Log}(h:(alP P t a x).run m l=some (u,m',l')):
  ∃w' G',(Instr.storeAt t ga gx).run P w=.ok () w'∧Nx base U M0 w0 w m G w' m' G':=by
 simp only[alP] at h
 replace h:=aj h;obtain⟨_,m1,l1,h1,h⟩:=h
 obtain⟨hok,rfl,rfl⟩:=eF h1
 replace h:=aj h;obtain⟨_,m1,l1,h1,h⟩:=h
 obtain⟨hlen,rfl,rfl⟩:=eF h1
 replace h:=aj h;obtain⟨_,m1,l1,h1,h⟩:=h
 obtain⟨hone,rfl,rfl⟩:=eF h1
 have hlen:=Nat.eq_of_beq_eq_true hlen
 obtain⟨hxs,hx1⟩:=cells_ok hone hx
 have hgl:gx.cells.size=lC P t:=by rw[←hlen,←jQ hxs,Array.length_toList]
 cases a with
 |ptr r off=>
  simp only at h
  replace h:=aj h;obtain⟨c,m2,l2,h2,h⟩:=h
  rw[uO] at h2
  cases h2
  cases hc:get r m1 with
  |none=>rw[hc] at h;exact(au h).elim
  |some c=>
   rw[hc] at h
   cases c with
   |arr _ _ _ _ _=>exact(au h).elim
   |dead=>exact(au h).elim
   |DJ _ _ _=>exact(au h).elim
   |box T cs=>
    simp only at h
    replace h:=aj h;obtain⟨_,m2,l2,h2,h⟩:=h
    obtain⟨hfit,rfl,rfl⟩:=eF h2
    simp only[CZ,Option.some.injEq,Prod.mk.injEq] at h
    obtain⟨_,rfl,_⟩:=h
    simp only[bJ,hc] at ha
    obtain⟨_,b,hμ,rfl⟩:=ha
    obtain⟨b',arr,e1,e2,e3,e4⟩:=hA.ok.cell r _ hc (by rw[hA.out];simp)
    rw[hμ] at e1
    cases e1
    have hal:arr.size=cs.length:=by simpa using jQ e3
    have hfit:=Nat.le_of_ble_eq_true hfit
    have hrun:=Yy (P:=P) hok e2 hgl (off:=off) (by omega) hx1
    have hb:b∈G.F r:=by rw[e4];simp
    refine⟨_,_,hrun,hA.rewrite (μ':=G.μ) (N:=[b]) hc (NT hb) (by simp) (fun k hk=> ?_) (fun _ _=>rfl) ⟨rfl,rfl⟩ (fun h' hv hml=> ?_)⟩
    ·simp at hk;subst hk
     refine⟨.inl hb, ?_⟩
     have:=(hA.ok.lt _ (.inr ⟨r,hb⟩)).1
     simpa[World.setRow] using this
    ·refine⟨b,_,hμ,setRow_heap w b arr _ T (0,0) e2, ?_,rfl⟩
     have:=PG off e3 hxs
     simpa using qw hml hv _ _ this
 |sS r ver i off=>
  simp only at h
  replace h:=aj h;obtain⟨xs,m2,l2,h2,h⟩:=h
  obtain⟨G1,N1,t1,hrow,hxl⟩:=OD hA.ok hxs hA.out h2
  obtain⟨hE1,ho1,aaV⟩:=hA.took t1
  replace h:=aj h;obtain⟨c,m3,l3,h3,h⟩:=h
  rw[uO] at h3
  cases h3
  replace ha:=t1.le.bJ ha
  cases hc:get r m2 with
  |none=>rw[hc] at h;exact(au h).elim
  |some c=>
   rw[hc] at h
   cases c with
   |box _ _=>exact(au h).elim
   |dead=>exact(au h).elim
   |DJ _ _ _=>exact(au h).elim
   |arr fz fl iU s rows=>
    cases fz with
    |true=>exact(au h).elim
    |false=>
    simp only at h
    replace h:=aj h;obtain⟨_,m4,l4,h4,h⟩:=h
    obtain⟨hb,rfl,rfl⟩:=eF h4
    have hb:=Nat.eq_of_beq_eq_true hb
    subst hb
    replace h:=aj h;obtain⟨_,m4,l4,h4,h⟩:=h
    obtain⟨hfit,rfl,rfl⟩:=eF h4
    have hfit:=Nat.le_of_ble_eq_true hfit
    replace h:=aj h;obtain⟨row,m4,l4,h4,h⟩:=h
    obtain⟨hrw,rfl,rfl⟩:=gU h4
    simp only[CZ,Option.some.injEq,Prod.mk.injEq] at h
    obtain⟨_,rfl,_⟩:=h
    simp only[bJ,hc] at ha
    obtain⟨b,n,cap,hμ,rfl⟩:=ha.2.2 trivial
    have hcell:=t1.ok.cell r _ hc (by rw[ho1];simp)
    have hne:rows≠[]:=by intro e;subst e;simp at hrw
    have hil:=(List.getElem?_eq_some_iff.1 hrw).1
    simp only[lW] at hcell
    rcases hcell with⟨e,_,_⟩|⟨b',cap',cs,T,N',k1,k2,k3,k4,k5,k6⟩
    ·exact absurd e hne
    rw[hμ] at k1
    simp only[Value.slice.injEq,Option.some.injEq,Addr.mk.injEq] at k1
    obtain⟨⟨rfl,_⟩,rfl,rfl⟩:=k1
    have hbF:b∈G1.F r:=by rw[k6];simp
    have apw:xs.length=gx.cells.toList.length:=by rw[hxl,jQ hxs]
    have hsz:i * s+off+gx.cells.size≤cs.size:=by
     rw[k4,hgl]
     have:(i+1) * s≤cap * s:=Nat.mul_le_mul_right s (by omega)
     rw[Nat.add_mul] at this
     omega
    have hrun:=Yy (P:=P) hok k3 hgl (off:=i * s+off) hsz hx1
    have hh:=setRow_heap w b cs (splice cs.toList (i * s+off) gx.cells.toList).toArray T (0,0) k3
    have azN:off+xs.length≤s:=by rw[apw,Array.length_toList,hgl];exact hfit
    have azO:(splice cs.toList (i * s+off) gx.cells.toList).length=cs.size:=by rw[Bq (by simpa using hsz)];simp
    have key:∃N2,N2.Nodup∧(fl=true→N2=[])∧(∀k,k∈N2→k∈G1.F r∨k∈G1.E)∧∀h':View,(Gh U w G1).le h'→(fl=true→Xv h' (dR w) N1)→Qo (dR (w.setRow b (splice cs.toList (i * s+off) gx.cells.toList).toArray)) h' fl s (rows.set i (splice row off xs)) (G1.μ r) (b::N2)∧b ∉ N2:=by
     have hoth:∀k,k≠b→dR (w.setRow b (splice cs.toList (i * s+off) gx.cells.toList).toArray) k=dR w k:=fun k hk=>setRow_other w b k _ hk
     cases fl with
     |true=>
      refine⟨[],by simp,fun _=>rfl,by simp,fun h' hv hs=>⟨.inr ⟨b,cap,_,T,[], ?_, ?_,hh, ?_,⟨?_,rfl⟩,rfl⟩,by simp⟩⟩
      ·rw[hμ];simp
      ·simpa using k2
      ·simpa[azO] using k4
      ·have q1:jc h' xs gx.cells.toList:=Uz hv xs _ N1 (hs rfl) hrow
       simpa using aeP (mX hv s rows _ k5.1) hrw q1 apw azN
     |false=>
      obtain⟨N2,Dr,q1,hp⟩:=alY k5 hrw hrow apw azN
      have aKi:(N'++N1).Nodup:=by
       have h1:=t1.ok.nd r
       rw[k6] at h1
       have h2:=t1.ok.ndE
       rw[hE1] at h2
       exact List.nodup_append.2 ⟨(List.nodup_cons.1 h1).2,h2,fun x hx y hy e=>t1.ok.djE r x (by rw[k6];simp[hx]) (by rw[hE1,e];exact hy)⟩
      have hnd:=List.nodup_append.1 (hp.nodup_iff.2 aKi)
      have hmem:∀k,k∈N2→k∈N'∨k∈N1:=fun k hk=>by simpa using hp.mem_iff.1 (List.mem_append_left Dr hk)
      have hbn:b ∉ N2:=by
       intro hb2
       rcases hmem b hb2 with h|h
       ·have:=t1.ok.nd r;rw[k6] at this;exact(List.nodup_cons.1 this).1 h
       ·exact t1.ok.djE r b hbF (by rw[hE1];exact h)
      refine⟨N2,hnd.1,(fun e=>by cases e),fun k hk=> ?_,fun h' hv _=>⟨.inr ⟨b,cap,_,T,N2, ?_, ?_,hh, ?_, ?_,rfl⟩,hbn⟩⟩
      ·rcases hmem k hk with h|h
       ·left;rw[k6];simp[h]
       ·right;rw[hE1];exact h
      ·rw[hμ];simp
      ·simpa using k2
      ·simpa[azO] using k4
      ·have:=wu hv s _ _ N2 (fun k hk=>hoth k (fun e=>hbn (e ▸ hk))) q1
       simpa using this
    obtain⟨N2,hN2,aKj,aKk,Lh⟩:=key
    refine⟨_,_,hrun,Nx.after t1.le (t1.ok.rewrite ho1 aaV (μ':=G1.μ) (N:=b::N2) hc (NT hbF) ?_ ?_ (fun _ _=>rfl) ⟨Nat.le_refl _,rfl,fun _=>⟨rfl,rfl⟩⟩ ?_)⟩
    ·exact List.nodup_cons.2 ⟨(Lh (full w) (wz _ _ _) (fun _=>adB)).2,hN2⟩
    ·intro k hk
     have hsz':(w.setRow b (splice cs.toList (i * s+off) gx.cells.toList).toArray).heap.size=w.heap.size:=by simp[World.setRow]
     rw[hsz']
     simp only[List.mem_cons] at hk
     rcases hk with rfl|hk
     ·exact⟨.inl hbF,(t1.ok.lt _ (.inr ⟨r,hbF⟩)).1⟩
     ·rcases aKk k hk with h|h
      ·exact⟨.inl h,(t1.ok.lt _ (.inr ⟨r,h⟩)).1⟩
      ·exact⟨.inr (.inl h),(t1.ok.lt _ (.inl h)).1⟩
    ·intro h' hv hml ate
     refine(Lh h' hv (fun hfl=> ?_)).1
     intro k hk
     have hkE:k∈G1.E:=by rw[hE1];exact hk
     refine ate k hkE ?_ k (by simp)
     rw[aKj hfl]
     simp only[List.mem_singleton]
     intro e
     subst e
     exact t1.ok.djE r _ hbF hkE
 |d _=>exact(au h).elim
 |nil _=>exact(au h).elim
 |own _ _=>exact(au h).elim
 |sJ _ _=>exact(au h).elim
 |clo _ _ _=>exact(au h).elim
 |agg _=>exact(au h).elim
 |yE _=>exact(au h).elim
 |undef=>exact(au h).elim
end
end Go.Vm
namespace Go.Vm
open Go
section
variable {base:Nat} {U:Nat→Prop} {M0:List Nat} {w0 w w':World} {m m':Mem} {G G':GS} {P:Program}
theorem BL.fresh(hg:BL base U w m G)(ho:G.out=[])(hfr:Fr M0 w0 w G){k:Nat}{c':Cell}{gv:Value}{N:List Nat}(hn:get k m=none)(hk:Keep [] w w')(hN:N.Nodup)
  (hNs:∀b,b∈N→(b∈G.E∨w.heap.size≤b)∧b<w'.heap.size)
  (hcell:∀h':View,(Gh U w G).le h'→EF G.μ m (upM G.μ k gv) (put k c' m)→(∀j,j∈G.E→j ∉ N→Xv h' (dR w) [j])→lW (upM G.μ k gv) (put k c' m) (dR w') h' k c' N):
  Nx base U M0 w0 w m G w' (put k c' m) ⟨upM G.μ k gv,Vr G.F k N,[],[]⟩:=by
 have hk':Keep G.E w w':=⟨hk.os,hk.tape,hk.output,hk.size,fun b hb _=>hk.block b hb (by simp)⟩
 obtain⟨q1,q2⟩:=BL.world hg hk' (E':=N) hN hNs
 have hμ:∀j,j≠k→upM G.μ k gv j=G.μ j:=fun j e=>Jt gv e
 have hml:EF G.μ m (upM G.μ k gv) (put k c' m):=GK hμ (fun c0 h0=>by rw[hn] at h0;cases h0)
 have hFk:G.F k=[]:=hg.none_ k hn
 have hset:=BL.set (U:=U) (w:=w') q1 k c' (upM G.μ k gv) N [] [] (by simpa using hN) (by simp;exact fun b hb=> .inr hb) hml hμ (fun j hj=>by simp[ho]) (by simp)
  (fun hv _=>hcell _ (q2.trans' hv) hml (fun j hjE hjN b hb cs t fr hH o v hv=>by
   have hb:=List.mem_singleton.1 hb
   rw[←hb] at hjE hjN
   have hlt:=hg.lt b (.inl hjE)
   have hsame:dR w' b=dR w b:=hk.block b hlt.1 (by simp)
   refine Me (w:=w') (N:=[b]) (fun x hx=> ?_) b (by simp) cs t fr (hsame.trans hH) o v hv
   rw[List.mem_singleton.1 hx]
   refine⟨hlt.2.2, ?_⟩
   rintro(h|⟨i,h⟩)
   ·simp at h
   ·by_cases e:i=k
    ·subst e;rw[AU] at h;exact hjN h
    ·rw[jJ _ e] at h;exact hg.djE i b h hjE))
 obtain⟨s1,s2⟩:=hset
 refine⟨s1,rfl,rfl,hml,q2.trans' s2.view, ?_⟩
 refine⟨hfr.keep.trans hk (by simp), ?_⟩
 rintro b (hb|⟨i,hb⟩)
 ·simp at hb
 ·by_cases e:i=k
  ·subst e
   simp only[AU] at hb
   rcases(hNs b hb).1 with h|h
   ·exact hfr.fr b (.inl h)
   ·exact .inr (Nat.le_trans hfr.keep.size h)
  ·simp only[jJ _ e] at hb
   exact hfr.fr b (.inr ⟨i,hb⟩)
theorem OJ{w1:World}{o:Obj}(h:w1.heap=w.heap):dR (w1.alloc o) w.heap.size=some o:=by
 have:=heap_alloc_new w1 o
 rw[h] at this
 exact this
theorem adK(hA:At base U M0 w0 w m G){k:Nat}{T:TypeId}{cs:List V}{arr:Array Value}(hs:dO G.μ m (Gh U w G) cs arr.toList){u:Unit}{l l':Log}(h:(new k (.box T cs)).run m l=some (u,m',l')):
  ∃G',Nx base U M0 w0 w m G (w.alloc (.cells arr T)) m' G'∧bJ G'.μ m' (Gh U (w.alloc (.cells arr T)) G') (.ptr k 0) (.pointer (some ⟨w.heap.size,0,none⟩)):=by
 obtain⟨hn,rfl⟩:=VK h
 refine⟨_,hA.ok.fresh hA.out hA.fr (gv:=.pointer (some ⟨w.heap.size,0,none⟩)) (N:=[w.heap.size]) hn UH (by simp) (fun b hb=>by simp at hb;subst hb;simp) (fun h' hv hml _=> ?_), ?_⟩
 ·exact⟨w.heap.size,arr,by simp,OJ rfl,qw hml hv _ _ hs,rfl⟩
 ·simp[bJ,jk,OC,as8]
theorem aaW(hg:BL base U w m G)(ho:G.out=[])(hfr:Fr M0 w0 w G){w1:World}(hw1:w1.heap=w.heap)(hk1:Keep [] w w1){k:Nat}{fl:Bool}{s cap:Nat}{rows:List Row}{arr:Array Value}{T:TypeId}(hq:fO (dR w) (Gh U w G) s rows arr.toList G.E)
  (hcap:rows.length≤cap) (hsz:arr.size=cap * s) {u:Unit} {l l':Log} (h:(new k (.arr false fl 0 s rows)).run m l=some (u,m',l')):
  ∃G',Nx base U M0 w0 w m G (w1.alloc (.cells arr T)) m' G'∧bJ G'.μ m' (Gh U (w1.alloc (.cells arr T)) G') (.own k 0) (.slice (some ⟨w.heap.size,0,none⟩) rows.length cap):=by
 obtain⟨hn,rfl⟩:=VK h
 have hsize:(w1.alloc (.cells arr T)).heap.size=w.heap.size+1:=by rw[World.size_alloc,hw1]
 have hkeep:Keep [] w (w1.alloc (.cells arr T)):=hk1.trans (UH (M:=[])) (by simp)
 have hnE:w.heap.size ∉ G.E:=fun hE=>by have:=(hg.lt _ (.inl hE)).1;omega
 have hnew:dR (w1.alloc (.cells arr T)) w.heap.size=some (.cells arr T (0,0)):=OJ hw1
 refine⟨_,hg.fresh ho hfr (gv:=.slice (some ⟨w.heap.size,0,none⟩) rows.length cap) (N:=w.heap.size::(match fl with|true=>[]|false=>G.E)) hn hkeep ?_ ?_ ?_, ?_⟩
 ·cases fl with
  |true=>simp
  |false=>exact List.nodup_cons.2 ⟨hnE,hg.ndE⟩
 ·intro b hb
  simp only[List.mem_cons] at hb
  rcases hb with rfl|hb
  ·exact⟨.inr (Nat.le_refl _),by rw[hsize];omega⟩
  ·cases fl with
   |true=>simp at hb
   |false=>exact⟨.inl hb,by rw[hsize];have:=(hg.lt b (.inl hb)).1;omega⟩
 ·intro h' hv hml ate
  simp only[lW,Hl]
  refine .inr ⟨w.heap.size,cap,arr,T,_,rfl,hcap,hnew,hsz, ?_,rfl⟩
  cases fl with
  |true=>
   refine⟨GL hv s rows _ _ (fun b hb=> ?_) hq,rfl⟩
   refine ate b hb ?_ b (by simp)
   simp only[List.mem_singleton]
   intro e
   exact hnE (e ▸ hb)
  |false=>exact wu hv s rows _ _ (fun b hb=>hkeep.block b (hg.lt b (.inl hb)).1 (by simp)) hq
 ·simp[bJ,jk,OC,as8]
theorem PL(off:Nat):∀(xs:List Value) (k:Nat) (cells:Array Value),off+k+xs.length≤cells.size→
  ((xs.zipIdx k).foldl (fun cs (c,j)=>cs.setIfInBounds (off+j) c) cells).toList=splice cells.toList (off+k) xs
 |[],k,cells,h=>by simp[splice]
 |x::xs,k,cells,h=>by
  simp only[List.length_cons] at h
  simp only[List.zipIdx_cons,List.foldl_cons]
  rw[PL off xs (k+1) _ (by simp;omega)]
  have e:=list_seg_step cells.toList (off+k) x xs (by simp;omega)
  simpa[splice,Array.toList_setIfInBounds,Nat.add_assoc] using e
end
end Go.Vm
namespace Go.Vm
open Go
section
variable {base:Nat} {U:Nat→Prop} {M0:List Nat} {w0 w w':World} {m m':Mem} {G G':GS} {P:Program}
def DK(base:Nat)(U:Nat→Prop)(M0:List Nat)(w0 w:World)(m:Mem)(G:GS)(P:Program)(s:Sem Value)(v:V)(m':Mem):Prop:=
 ∃g w' G',s.run P w=.ok g w'∧Nx base U M0 w0 w m G w' m' G'∧bJ G'.μ m' (Gh U w' G') v g
theorem DK.same(hA:At base U M0 w0 w m G){s:Sem Value}{g:Value}{v:V}(h:s.run P w=.ok g w)(hv:bJ G.μ m (Gh U w G) v g):DK base U M0 w0 w m G P s v m:=⟨g,w,G,h,hA.nx,hv⟩
theorem apx(hA:At base U M0 w0 w m G){T k:Nat}{z:List V}(hz:JM P T=some z){u:Unit}{l l':Log}(h:(new k (.box T z)).run m l=some (u,m',l')):
  DK base U M0 w0 w m G P (Instr.alloc T true (.tuple #[])) (.ptr k 0) m':=by
 obtain⟨i,zv,hi,hzv,hs⟩:=ML (m:=m) (μ:=G.μ) (h:=Gh U w G) hz
 obtain⟨G',hnx,Lh⟩:=adK hA hs h
 refine⟨_,_,G', ?_,hnx,Lh⟩
 simp[Instr.alloc,zeroValue,typeInfo,hi,hzv,newVar,newRow]
theorem avG(hA:At base U M0 w0 w m G){T k:Nat}{v:V}{g:Value}(hv:bJ G.μ m (Gh U w G) v g)(h1:v.cells.all one=true){u:Unit}{l l':Log}(h:(new k (.box T v.cells)).run m l=some (u,m',l')):
  DK base U M0 w0 w m G P (Instr.box T g) (.ptr k 0) m':=by
 obtain⟨hs,_⟩:=cells_ok h1 hv
 obtain⟨G',hnx,Lh⟩:=adK hA hs h
 refine⟨_,_,G', ?_,hnx,Lh⟩
 simp[Instr.box,newVar,newRow]
theorem Yz:∀(fs:List Field),(fs.all fun f=>match P.info? f.type with|some _=>true|none=>false)=true→
  ∃places,fs.mapM (fun f=>(P.info? f.type).map fun i=>(f.offset,i.size))=some places∧∀(j:Nat) f,fs[j]? =some f→places[j]? =some (f.offset,lC P f.type)
 |[],_=>⟨[],by simp,by simp⟩
 |f::fs,h=>by
  simp only[List.all_cons,Bool.and_eq_true] at h
  obtain⟨places,h1,h2⟩:=Yz fs h.2
  cases hi:P.info? f.type with
  |none=>simp[hi] at h
  |some i=>
   refine⟨(f.offset,i.size)::places,by simp[List.mapM_cons,hi,h1], ?_⟩
   intro j g hj
   cases j with
   |zero=>simp at hj;subst hj;simp[lC,hi]
   |succ j=>simpa using h2 j g (by simpa using hj)
theorem TK{T:TypeId}{fs:Array Field}(hu:P.underlying T=some (.struct fs)){place:Nat→Option (Nat×Nat)}(hp:∀(j:Nat) f,fs[j]? =some f→place j=some (f.offset,lC P f.type)){tm:jP}{a:Act}
  {μ:Nat→Value} {h:View}:∀(ps:List (Nat×Operand)) {m:Mem} (_:VN μ m h tm a) {cs:List V} {cells:Array Value} (_:dO μ m h cs cells.toList) {out:List V} {m':Mem} {l l':Log}
  (_:(sK P T tm ps cs).run m l=some (out,m',l')),m'=m∧∃r,Instr.fill place cells (ps.map fun x=>(x.1,a.eval x.2))=some r∧dO μ m h out r.toList
 |[],m,hT,cs,cells,hs,out,m',l,l',hr=>by
  simp only[sK,run_pure,Option.some.injEq,Prod.mk.injEq] at hr
  obtain⟨rfl,rfl,_⟩:=hr
  exact⟨rfl,cells,rfl,hs⟩
 |(f,x)::ps,m,hT,cs,cells,hs,out,m',l,l',hr=>by
  simp only[sK] at hr
  replace hr:=aj hr;obtain⟨⟨o,n,t⟩,m1,l1,h1,hr⟩:=hr
  obtain⟨hf,rfl,rfl⟩:=gU h1
  simp only at hr
  replace hr:=aj hr;obtain⟨_,m2,l2,h2,hr⟩:=hr
  obtain⟨hlen,rfl,rfl⟩:=eF h2
  replace hr:=aj hr;obtain⟨_,m2,l2,h2,hr⟩:=hr
  obtain⟨hone,rfl,rfl⟩:=eF h2
  replace hr:=aj hr;obtain⟨_,m2,l2,h2,hr⟩:=hr
  obtain⟨hfit,rfl,rfl⟩:=eF h2
  have hlen:=Nat.eq_of_beq_eq_true hlen
  have hfit:=Nat.le_of_ble_eq_true hfit
  obtain⟨hv,hv1⟩:=cells_ok hone (OI hT t x)
  have hgl:(a.eval x).cells.size=n:=by rw[←hlen,←jQ hv,Array.length_toList]
  have hcl:cells.size=cs.length:=by rw[←jQ hs,Array.length_toList]
  have hpl:place f=some (o,n):=by
   unfold Py at hf
   rw[hu] at hf
   simp only at hf
   cases hfd:fs[f]? with
   |none=>simp[hfd] at hf
   |some fd=>
    simp only[hfd,Option.some.injEq,Prod.mk.injEq] at hf
    obtain⟨rfl,rfl,rfl⟩:=hf
    exact hp f fd hfd
  have hsp:=PL o (a.eval x).cells.toList 0 cells (by simp;omega)
  have hz:(a.eval x).cells.zipIdx.foldl (fun cs (c,j)=>cs.setIfInBounds (o+j) c) cells=(splice cells.toList o (a.eval x).cells.toList).toArray:=by
   apply Array.ext'
   rw[←Array.foldl_toList]
   simpa using hsp
  obtain⟨hm,r,hr1,hr2⟩:=TK hu hp ps hT (cells:=(splice cells.toList o (a.eval x).cells.toList).toArray) (by simpa using PG o hs hv) hr
  refine⟨hm,r, ?_,hr2⟩
  simp only[List.map_cons,Instr.fill,hpl]
  rw[if_neg (by simp[hgl];omega),hz]
  exact hr1
theorem anY(hA:At base U M0 w0 w m G){tm:jP}{a:Act}(hT:VN G.μ m (Gh U w G) tm a){T:TypeId}{ps:Array (Nat×Operand)}{v:V}{l l':Log}(h:(aeF P T tm ps.toList).run m l=some (v,m',l')):
  DK base U M0 w0 w m G P (Instr.build T (ps.map fun x=>(x.1,a.eval x.2))) v m':=by
 simp only[aeF] at h
 replace h:=aj h;obtain⟨_,m1,l1,h1,h⟩:=h
 obtain⟨hok,rfl,rfl⟩:=eF h1
 replace h:=aj h;obtain⟨z,m1,l1,h1,h⟩:=h
 obtain⟨hz,rfl,rfl⟩:=gU h1
 replace h:=aj h;obtain⟨cs,m2,l2,h2,h⟩:=h
 simp only[run_pure,Option.some.injEq,Prod.mk.injEq] at h
 obtain⟨rfl,rfl,_⟩:=h
 obtain⟨i,zv,hi,hzv,hs⟩:=ML (m:=m1) (μ:=G.μ) (h:=Gh U w G) hz
 unfold afS at hok
 cases hu:P.underlying T with
 |none=>simp[hu] at hok
 |some d=>
  rw[hu] at hok
  cases d with
  |struct fs=>
   simp only at hok
   obtain⟨places,hpl,hpg⟩:=Yz fs.toList hok
   obtain⟨hm,r,hr1,hr2⟩:=TK (place:=(places.toArray[·]?)) hu (fun j f hj=>by simpa using hpg j f (by simpa using hj)) ps.toList hT hs h2
   subst hm
   refine DK.same hA (g:=.agg r) ?_ (by simp only[bJ];exact⟨r,rfl,hr2⟩)
   refine run_build w T _ r ?_
   unfold Program.built
   simp only[hi,hu,hzv,hpl]
   simpa[Array.toList_map] using hr1
  |_=>simp at hok
theorem QV{e:TypeId}{size:Nat}(hsz:lC P e=size){tm:jP}{a:Act}
  {μ:Nat→Value} {h:View}:∀(ps:List (Nat×Operand)) {m:Mem} (_:VN μ m h tm a) {cs:List V} {cells:Array Value} (_:dO μ m h cs cells.toList) {out:List V} {m':Mem} {l l':Log}
  (_:(pV P e tm ps cs).run m l=some (out,m',l')),m'=m∧∃r,Instr.fill (fun i=>some (i * size,size)) cells (ps.map fun x=>(x.1,a.eval x.2))=some r∧dO μ m h out r.toList
 |[],m,hT,cs,cells,hs,out,m',l,l',hr=>by
  simp only[pV,run_pure,Option.some.injEq,Prod.mk.injEq] at hr
  obtain⟨rfl,rfl,_⟩:=hr
  exact⟨rfl,cells,rfl,hs⟩
 |(i,x)::ps,m,hT,cs,cells,hs,out,m',l,l',hr=>by
  simp only[pV] at hr
  replace hr:=aj hr;obtain⟨_,m2,l2,h2,hr⟩:=hr
  obtain⟨hlen,rfl,rfl⟩:=eF h2
  replace hr:=aj hr;obtain⟨_,m2,l2,h2,hr⟩:=hr
  obtain⟨hone,rfl,rfl⟩:=eF h2
  replace hr:=aj hr;obtain⟨_,m2,l2,h2,hr⟩:=hr
  obtain⟨hfit,rfl,rfl⟩:=eF h2
  have hlen:=Nat.eq_of_beq_eq_true hlen
  have hfit:=Nat.le_of_ble_eq_true hfit
  rw[hsz] at hlen hfit hr
  obtain⟨hv,hv1⟩:=cells_ok hone (OI hT e x)
  have hgl:(a.eval x).cells.size=size:=by rw[←hlen,←jQ hv,Array.length_toList]
  have hcl:cells.size=cs.length:=by rw[←jQ hs,Array.length_toList]
  have hsp:=PL (i * size) (a.eval x).cells.toList 0 cells (by simp;omega)
  have hz:(a.eval x).cells.zipIdx.foldl (fun cs (c,j)=>cs.setIfInBounds (i * size+j) c) cells=(splice cells.toList (i * size) (a.eval x).cells.toList).toArray:=by
   apply Array.ext'
   rw[←Array.foldl_toList]
   simpa using hsp
  obtain⟨hm,r,hr1,hr2⟩:=QV hsz ps hT (cells:=(splice cells.toList (i * size) (a.eval x).cells.toList).toArray) (by simpa using PG (i * size) hs hv) hr
  refine⟨hm,r, ?_,hr2⟩
  simp only[List.map_cons,Instr.fill]
  rw[if_neg (by simp[hgl];omega),hz]
  exact hr1
theorem anZ(hA:At base U M0 w0 w m G){tm:jP}{a:Act}(hT:VN G.μ m (Gh U w G) tm a){T:TypeId}{ps:Array (Nat×Operand)}{v:V}{l l':Log}(h:(aeG P T tm ps.toList).run m l=some (v,m',l')):
  DK base U M0 w0 w m G P (Instr.build T (ps.map fun x=>(x.1,a.eval x.2))) v m':=by
 unfold aeG at h
 split at h
 ·rename_i n e har
  unfold arT at har
  cases hu:P.underlying T with
  |none=>simp[hu] at har
  |some d=>
   rw[hu] at har
   cases d<;>simp at har
   obtain⟨rfl,rfl⟩:=har
   simp only[alU] at h
   replace h:=aj h;obtain⟨_,m1,l1,h1,h⟩:=h
   obtain⟨hok,rfl,rfl⟩:=eF h1
   replace h:=aj h;obtain⟨z,m1,l1,h1,h⟩:=h
   obtain⟨hz,rfl,rfl⟩:=gU h1
   replace h:=aj h;obtain⟨cs,m2,l2,h2,h⟩:=h
   simp only[run_pure,Option.some.injEq,Prod.mk.injEq] at h
   obtain⟨rfl,rfl,_⟩:=h
   obtain⟨i,zv,hi,hzv,hs⟩:=ML (m:=m1) (μ:=G.μ) (h:=Gh U w G) hz
   obtain⟨d',hd'⟩:=yL hok
   obtain⟨inf,Df⟩:=uF hd'
   obtain⟨hm,r,hr1,hr2⟩:=QV (EI Df) ps.toList hT hs h2
   subst hm
   refine DK.same hA (g:=.agg r) ?_ (by simp only[bJ];exact⟨r,rfl,hr2⟩)
   refine run_build w T _ r ?_
   unfold Program.built
   simp only[hi,hu,hzv,Df]
   simpa[Array.toList_map] using hr1
 ·exact anY hA hT h
theorem TL{e:TypeId}{tm:jP}{a:Act}:∀(ps:List (Nat×Operand)) {m:Mem} {G:GS} {k:Nat} (_:BL base U w m G) (_:G.out=[]) (_:VN G.μ m (Gh U w G) tm a) {rows:List Row} {m':Mem} {l l':Log}
  (_:(sN P e tm k ps).run m l=some (rows,m',l')),∃G' N,Jl base U w m G m' G' N∧fO (dR w) (Gh U w G') (lC P e) rows ((ps.map fun x=>a.eval x.2).flatMap fun v=>v.cells.toList) N∧rows.length=ps.length∧
   (∀v∈ps.map (fun x=>a.eval x.2),v.cells.size=lC P e)∧ps.map (fun x=>(x.1,a.eval x.2))=((ps.map fun x=>a.eval x.2).zipIdx k).map fun x=>(x.2,x.1)
 |[],m,G,k,hg,ho,hT,rows,m',l,l',h=>by
  simp only[sN,run_pure,Option.some.injEq,Prod.mk.injEq] at h
  obtain⟨rfl,rfl,_⟩:=h
  exact⟨G,[],Jl.same hg,by simp[fO],rfl,by simp,by simp⟩
 |(i,x)::ps,m,G,k,hg,ho,hT,rows,m',l,l',h=>by
  simp only[sN] at h
  replace h:=aj h;obtain⟨_,m1,l1,h1,h⟩:=h
  obtain⟨hik,rfl,rfl⟩:=eF h1
  have hik:=Nat.eq_of_beq_eq_true hik
  subst hik
  replace h:=aj h;obtain⟨_,m1,l1,h1,h⟩:=h
  obtain⟨hlen,rfl,rfl⟩:=eF h1
  have hlen:=Nat.eq_of_beq_eq_true hlen
  replace h:=aj h;obtain⟨row,m2,l2,h2,h⟩:=h
  replace h:=aj h;obtain⟨rows',m3,l3,h3,h⟩:=h
  simp only[run_pure,Option.some.injEq,Prod.mk.injEq] at h
  obtain⟨rfl,rfl,_⟩:=h
  have hev:=OI (P:=P) hT e x
  have hcells:∃gs,dO G.μ m1 (Gh U w G) (ev P tm e x).cells gs∧(a.eval x).cells.toList=gs:=by
   generalize ev P tm e x=v at hev h2 hlen
   cases v with
   |agg cs=>
    simp only[bJ] at hev
    obtain⟨arr,he,hq⟩:=hev
    exact⟨arr.toList,hq,by rw[he];rfl⟩
   |d y=>
    have h1:(a.eval x).oneCell'=true:=oH (v:=.d y) rfl hev
    exact⟨[a.eval x],by simp only[V.cells,dO];exact⟨_,[],rfl,hev,rfl⟩,by rw[cells_one h1]⟩
   |nil s=>
    have h1:(a.eval x).oneCell'=true:=oH (v:=.nil s) rfl hev
    exact⟨[a.eval x],by simp only[V.cells,dO];exact⟨_,[],rfl,hev,rfl⟩,by rw[cells_one h1]⟩
   |own r ver=>
    have h1:(a.eval x).oneCell'=true:=oH (v:=.own r ver) rfl hev
    exact⟨[a.eval x],by simp only[V.cells,dO];exact⟨_,[],rfl,hev,rfl⟩,by rw[cells_one h1]⟩
   |ptr r o=>
    have h1:(a.eval x).oneCell'=true:=oH (v:=.ptr r o) rfl hev
    exact⟨[a.eval x],by simp only[V.cells,dO];exact⟨_,[],rfl,hev,rfl⟩,by rw[cells_one h1]⟩
   |sS r v i o=>
    have h1:(a.eval x).oneCell'=true:=oH (v:=.sS r v i o) rfl hev
    exact⟨[a.eval x],by simp only[V.cells,dO];exact⟨_,[],rfl,hev,rfl⟩,by rw[cells_one h1]⟩
   |sJ r o=>
    have h1:(a.eval x).oneCell'=true:=oH (v:=.sJ r o) rfl hev
    exact⟨[a.eval x],by simp only[V.cells,dO];exact⟨_,[],rfl,hev,rfl⟩,by rw[cells_one h1]⟩
   |clo f p q=>
    have h1:(a.eval x).oneCell'=true:=oH (v:=.clo f p q) rfl hev
    exact⟨[a.eval x],by simp only[V.cells,dO];exact⟨_,[],rfl,hev,rfl⟩,by rw[cells_one h1]⟩
   |yE vs=>simp only[V.cells,Jo,toD] at h2;replace h2:=aj h2;obtain⟨_,_,_,h4,_⟩:=h2;exact(au h4).elim
   |undef=>simp only[V.cells,Jo,toD] at h2;replace h2:=aj h2;obtain⟨_,_,_,h4,_⟩:=h2;exact(au h4).elim
  obtain⟨gs,hgs,hge⟩:=hcells
  obtain⟨G1,N1,t1,q1,hrl⟩:=OD hg hgs ho h2
  have hT1:VN G1.μ m2 (Gh U w G1) tm a:=fun t v hv=>⟨(hT t v hv).1,t1.le.bJ (hT t v hv).2⟩
  obtain⟨G2,N2,t2,q2,hl2,hs2,hz2⟩:=TL ps t1.ok (t1.out.trans ho) hT1 h3
  have hgl:gs.length=lC P e:=by rw[jQ hgs,hlen]
  refine⟨G2,N1++N2,t1.trans t2, ?_,by simp[hl2], ?_, ?_⟩
  ·simp only[fO,List.map_cons,List.flatMap_cons,hge]
   refine⟨by rw[hrl,hlen],N1,N2,rfl,Jw (by rw[hrl,←jQ hgs];simp) (PD t2.le.view q1), ?_⟩
   rw[List.drop_append_of_le_length (by omega),List.drop_eq_nil_of_le (by omega)]
   exact q2
  ·intro v hv
   simp only[List.map_cons,List.mem_cons] at hv
   rcases hv with rfl|hv
   ·rw[←Array.length_toList,hge,hgl]
   ·exact hs2 v hv
  ·simp only[List.map_cons,List.zipIdx_cons,hz2]
theorem aaX(hA:At base U M0 w0 w m G){tm:jP}{a:Act}(hT:VN G.μ m (Gh U w G) tm a){t:TypeId}{n k:Nat}{ps:Array (Nat×Operand)}{v:V}{l l':Log}(h:(NP P k t n tm ps.toList).run m l=some (v,m',l')):
  DK base U M0 w0 w m G P (Instr.buildSlice t n (ps.map fun x=>(x.1,a.eval x.2))) v m':=by
 simp only[NP] at h
 replace h:=aj h;obtain⟨e,m1,l1,h1,h⟩:=h
 obtain⟨he,rfl,rfl⟩:=gU h1
 replace h:=aj h;obtain⟨_,m1,l1,h1,h⟩:=h
 obtain⟨hs1,rfl,rfl⟩:=eF h1
 replace h:=aj h;obtain⟨_,m1,l1,h1,h⟩:=h
 obtain⟨hn,rfl,rfl⟩:=eF h1
 replace h:=aj h;obtain⟨_,m1,l1,h1,h⟩:=h
 obtain⟨hb,rfl,rfl⟩:=eF h1
 replace h:=aj h;obtain⟨z,m1,l1,h1,h⟩:=h
 obtain⟨hz,rfl,rfl⟩:=gU h1
 obtain⟨inf,zv,hi,hzv,_⟩:=ML (m:=m1) (μ:=G.μ) (h:=Gh U w G) hz
 replace h:=aj h;obtain⟨rows,m2,l2,h2,h⟩:=h
 replace h:=aj h;obtain⟨_,m3,l3,h3,h⟩:=h
 simp only[run_pure,Option.some.injEq,Prod.mk.injEq] at h
 obtain⟨rfl,rfl,_⟩:=h
 have hs1:=Nat.le_of_ble_eq_true hs1
 have hn:=Nat.eq_of_beq_eq_true hn
 have hb:=Nat.le_of_ble_eq_true hb
 have hu:=MK he
 obtain⟨G1,N1,t1,q1,hrl,hsz,aKl⟩:=TL (e:=e) ps.toList hA.ok hA.out hT h2
 obtain⟨hE1,ho1,aaV⟩:=hA.took t1
 have hsz':lC P e=inf.size:=EI hi
 have hrn:rows.length=n:=by rw[hrl,hn]
 by_cases hn0:n=0
 ·subst hn0
  have hps:ps.toList=[]:=List.eq_nil_of_length_eq_zero hn
  have hrows:rows=[]:=List.eq_nil_of_length_eq_zero hrn
  subst hrows
  have hpa:ps=#[]:=by cases ps;simp_all
  subst hpa
  simp only[fO] at q1
  obtain⟨G2,hnx,Lh⟩:=aaW (w1:=w) (cap:=0) (arr:=#[]) (T:=e) t1.ok ho1 aaV rfl (Keep.refl _ _) (k:=k) (fl:=qm P e) (s:=lC P e) (rows:=[]) (by rw[hE1,q1];simp[fO]) (by simp) (by simp) h3
  refine⟨_,_,G2, ?_,Nx.after t1.le hnx,Lh⟩
  simp[Instr.buildSlice,run_underlying hu,sizeOf,typeInfo,hi,Instr.fill,newRow,Array.range_zero']
 ·have hpos:¬n * inf.size=0:=by
   rw[←hsz']
   intro e0
   rcases Nat.mul_eq_zero.1 e0 with e1|e1<;>omega
  have hsmall:¬n * inf.size>2 ^ 24:=by rw[←hsz'];omega
  have apy:=Go.Great.fill_whole (s:=lC P e) (by omega) (ps.toList.map fun x=>a.eval x.2) ((Array.range (n * inf.size)).map (zv.cells[· % zv.cells.size]!)) hsz (by simp[←hsz'];rw[←hn];simp)
  rw[←aKl] at apy
  have hrun:=run_buildSlice w t e n (ps.map fun x=>(x.1,a.eval x.2)) _ inf zv hu hi hzv hsmall hpos (by rw[←hsz'];rw[←hsz'] at apy;simpa[Array.toList_map] using apy)
  have hcl:((ps.toList.map fun x=>a.eval x.2).flatMap fun v=>v.cells.toList).length=n * lC P e:=by
   have:∀(l:List Value),(∀v∈l,v.cells.size=lC P e)→(l.flatMap fun v=>v.cells.toList).length=l.length * lC P e:=by
    intro l
    induction l with
    |nil=>simp
    |cons v l ih=>
     intro hv
     simp only[List.flatMap_cons,List.length_append,List.length_cons,Nat.add_mul,Array.length_toList]
     rw[ih (fun u hu=>hv u (by simp[hu])),hv v (by simp)]
     omega
   rw[this _ hsz]
   simp[←hn]
  obtain⟨G2,hnx,Lh⟩:=aaW (w1:=w) (cap:=n) (arr:=((ps.toList.map fun x=>a.eval x.2).flatMap fun v=>v.cells.toList).toArray) (T:=e) t1.ok ho1 aaV rfl (Keep.refl _ _) (k:=k) (fl:=qm P e) (s:=lC P e) (rows:=rows) (by rw[hE1];simpa using q1) (by omega) (by simp[hcl]) h3
  rw[hrn] at Lh
  exact⟨_,_,G2,hrun,Nx.after t1.le hnx,Lh⟩
end
end Go.Vm
namespace Go.Vm
open Go
section
variable {base:Nat} {U:Nat→Prop} {M0:List Nat} {w0 w w':World} {m m':Mem} {G G':GS} {P:Program}
theorem YA{h:View}{b:Nat}:∀(r:Row) (o:Nat),uM h r b o→∃cs:List Value,cs.length=r.length∧(∀j v,cs[j]? =some v→h b (o+j)=some v)∧jc h r cs
 |[],_,_=>⟨[],rfl,by simp,trivial⟩
 |x::r,o,q=>by
  simp only[uM] at q
  obtain⟨⟨v,h1,h2⟩,h3⟩:=q
  obtain⟨cs,e1,e2,e3⟩:=YA r (o+1) h3
  refine⟨v::cs,by simp[e1], ?_,⟨v,cs,rfl,h2,e3⟩⟩
  intro j u hj
  cases j with
  |zero=>simp at hj;subst hj;exact h1
  |succ j=>
   have:=e2 j u (by simpa using hj)
   rwa [show o+(j+1)=o+1+j from by omega]
theorem PN{h:View}{s b:Nat}:∀(rs:List Row) (o:Nat),mW h s rs b o→∃cs:List Value,cs.length=rs.length * s∧(∀j v,cs[j]? =some v→h b (o+j)=some v)∧fQ h s rs cs
 |[],_,_=>⟨[],by simp,by simp,trivial⟩
 |r::rs,o,q=>by
  simp only[mW] at q
  obtain⟨h1,h2,h3⟩:=q
  obtain⟨cs1,a1,a2,a3⟩:=YA r o h2
  obtain⟨cs2,b1,b2,b3⟩:=PN rs (o+s) h3
  have hl:cs1.length=s:=by rw[a1,h1]
  refine⟨cs1++cs2,by simp[hl,b1,Nat.add_mul];omega, ?_,h1, ?_, ?_⟩
  ·intro j u hj
   by_cases hlt:j<s
   ·rw[List.getElem?_append_left (by omega)] at hj
    exact a2 j u hj
   ·rw[List.getElem?_append_right (by omega),hl] at hj
    have:=b2 (j - s) u hj
    rwa [show o+j=o+s+(j - s) from by omega]
  ·refine Hr ?_ a3
   rw[List.take_append_of_le_length (by omega)]
  ·rw[List.drop_append_of_le_length (by omega),List.drop_eq_nil_of_le (by omega)]
   exact b3
theorem YB{h:View}:∀{r:Row} {cs:List Value},jc h r cs→∀u∈cs.take r.length,u.oneCell'=true
 |[],_,_=>by simp
 |x::r,cs,⟨v,cs',e,h1,h2⟩=>by
  subst e
  intro u hu
  simp only[List.length_cons,List.take_succ_cons,List.mem_cons] at hu
  rcases hu with rfl|hu
  ·exact Ol h1
  ·exact YB h2 u hu
theorem PO{h:View}{s:Nat}:∀{rs:List Row} {cs:List Value},fQ h s rs cs→∀u∈cs.take (rs.length * s),u.oneCell'=true
 |[],_,_=>by simp
 |r::rs,cs,⟨h1,h2,h3⟩=>by
  intro u hu
  have hs:(r::rs).length * s=s+rs.length * s:=by simp[Nat.add_mul];omega
  rw[hs,List.take_add] at hu
  simp only[List.mem_append] at hu
  rcases hu with hu|hu
  ·exact YB h2 u (by rw[h1];exact hu)
  ·exact PO h3 u hu
theorem ac3{H:Heap}{h:View}{x:D}{g:Value}{N:List Nat}(q:ow H h x g N):g.oneCell'=true:=by
 cases x with
 |sl o s rows=>
  cases o with
  |false=>simp only[ow] at q;exact Ol q.2
  |true=>
   simp only[ow] at q
   rcases q with⟨_,rfl,_⟩|⟨b,cap,cs,t,N',rfl,_⟩<;>rfl
 |_=>simp only[ow] at q;rw[q.1];rfl
theorem adL{H:Heap}{h:View}:∀{r:Row} {cs:List Value} {N:List Nat},iI H h r cs N→∀u∈cs.take r.length,u.oneCell'=true
 |[],_,_,_=>by simp
 |x::r,cs,N,q=>by
  obtain⟨v,cs',N1,N2,rfl,rfl,h1,h2⟩:=Gj q
  intro u hu
  simp only[List.length_cons,List.take_succ_cons,List.mem_cons] at hu
  rcases hu with rfl|hu
  ·exact ac3 h1
  ·exact adL h2 u hu
theorem aaY{H:Heap}{h:View}{s:Nat}:∀{rs:List Row} {cs:List Value} {N:List Nat},fO H h s rs cs N→∀u∈cs.take (rs.length * s),u.oneCell'=true
 |[],_,_,_=>by simp
 |r::rs,cs,N,q=>by
  simp only[fO] at q
  obtain⟨h1,N1,N2,rfl,h2,h3⟩:=q
  intro u hu
  have hs:(r::rs).length * s=s+rs.length * s:=by simp[Nat.add_mul];omega
  rw[hs,List.take_add] at hu
  simp only[List.mem_append] at hu
  rcases hu with hu|hu
  ·exact adL h2 u (by rw[h1];exact hu)
  ·exact aaY h3 u hu
def AV(H:Heap)(h:View)(fl:Bool)(s:Nat)(rows:List Row)(cs:List Value)(N:List Nat):Prop:=match fl with
 |true=>fQ h s rows cs∧N=[]
 |false=>fO H h s rows cs N
theorem Jy{H:Heap}{h:View}{fl:Bool}{s:Nat}{rows:List Row}{cs cs':List Value}{N:List Nat}(e:cs.take (rows.length * s)=cs'.take (rows.length * s))(q:AV H h fl s rows cs N):AV H h fl s rows cs' N:=by
 cases fl with
 |true=>exact⟨qJ e q.1,q.2⟩
 |false=>exact NU e q
theorem VO{H:Heap}{h:View}{fl:Bool}{s:Nat}{a b:List Row}{cs:List Value}{N N':List Nat}(q:AV H h fl s a cs N)(q':AV H h fl s b (cs.drop (a.length * s)) N'):AV H h fl s (a++b) cs (N++N'):=by
 cases fl with
 |true=>exact⟨vU.2 ⟨q.1,q'.1⟩,by rw[q.2,q'.2];rfl⟩
 |false=>exact xY.2 ⟨N,N',rfl,q,q'⟩
theorem Gm{H H':Heap}{h h':View}(hl:h.le h'){fl:Bool}{s:Nat}{rows:List Row}{cs:List Value}{N:List Nat}(hb:∀b,b∈N→H' b=H b)(q:AV H h fl s rows cs N):AV H' h' fl s rows cs N:=by
 cases fl with
 |true=>exact⟨mX hl s rows _ q.1,q.2⟩
 |false=>exact wu hl s rows _ N hb q
mutual
theorem apz{H:Heap}{h:View}:∀(x:D) (v:Value),ro h x.fz v→ow H h x.fz v []
 | .int _ _,_,q=>by simpa[D.fz,ow,ro] using q
 | .bool _,_,q=>by simpa[D.fz,ow,ro] using q
 | .str _,_,q=>by simpa[D.fz,ow,ro] using q
 | .MG,_,q=>by simpa[D.fz,ow,ro] using q
 | .sl _ s rows,v,q=>by simp only[D.fz,ow,true_and] at q⊢;exact q
end
theorem YC{H:Heap}{h:View}:∀(r:Row) (cs:List Value),jc h (qZ r) cs→iI H h (qZ r) cs []
 |[],_,_=>by simp[qZ,iI]
 |x::r,cs,q=>by
  simp only[qZ,jc] at q
  obtain⟨v,cs',e,h1,h2⟩:=q
  simp only[qZ,iI]
  exact⟨v,cs',[],[],e,rfl,apz x v h1,YC r cs' h2⟩
theorem VP{H:Heap}{h:View}{s:Nat}:∀(rs:List Row) (cs:List Value),fQ h s (aA rs) cs→fO H h s (aA rs) cs []
 |[],_,_=>by simp[aA,fO]
 |r::rs,cs,q=>by
  simp only[aA,fQ] at q
  obtain⟨h1,h2,h3⟩:=q
  simp only[aA,fO]
  exact⟨h1,[],[],rfl,YC r cs h2,VP rs _ h3⟩
theorem aaZ{h:View}:∀{r:Row} {cs:List Value},jc h r cs→jc h (qZ r) cs
 |[],_,_=>by simp[qZ,jc]
 |x::r,cs,⟨v,cs',e,h1,h2⟩=>by simp only[qZ,jc];exact⟨v,cs',e,apo x v h1,aaZ h2⟩
theorem YD{h:View}{s:Nat}:∀{rs:List Row} {cs:List Value},fQ h s rs cs→fQ h s (aA rs) cs
 |[],_,_=>by simp[aA,fQ]
 |r::rs,cs,⟨h1,h2,h3⟩=>by simp only[aA,fQ];exact⟨by rw[Pz];exact h1,aaZ h2,YD h3⟩
structure Tail(P:Program)(base:Nat)(U:Nat→Prop)(w:World)(m:Mem)(G:GS)(size:Nat)(fl:Bool)(gy:Value)(ys:List Row)(m':Mem):Prop where
 ex:∃G' news,BL base U w m' G'∧QM m G m' G'∧G'.out=G.out∧G'.μ=G.μ∧Src P size w gy ys.length news∧AV (dR w) (Gh U w G') fl size ys news G'.E∧∀r c,get r m=some c→get r m'=some c∨get r m'=some .dead
theorem atf(hA:At base U M0 w0 w m G){e:TypeId}{y:V}{gy:Value}(hy:bJ G.μ m (Gh U w G) y gy)(hsz:1≤lC P e){ys:List Row}{l l':Log}(h:(tail P e y).run m l=some (ys,m',l')):
  Tail P base U w m G (lC P e) (qm P e) gy ys m':=by
 have plain:∀(ys:List Row) (news:List Value),Src P (lC P e) w gy ys.length news→(qm P e=true→fQ (Gh U w G) (lC P e) ys news)→(qm P e=false→fO (dR w) (Gh U w G) (lC P e) ys news [])→
   Tail P base U w m G (lC P e) (qm P e) gy ys m:=by
  intro ys news h1 h2 h3
  refine⟨G,news,hA.ok,QM.refl _ _,rfl,rfl,h1, ?_,fun r c h=> .inl h⟩
  rw[hA.E]
  cases hf:qm P e with
  |true=>exact⟨h2 hf,rfl⟩
  |false=>exact h3 hf
 have seen:∀(rows:List Row) (o:Bool),ro (Gh U w G) (.sl o (lC P e) rows) gy→Tail P base U w m G (lC P e) (qm P e) gy (vw (qm P e) rows) m:=by
  intro rows o hq
  simp only[ro] at hq
  obtain⟨a,cap,rfl,hcap,hne⟩:=hq
  have hvl:(vw (qm P e) rows).length=rows.length:=by unfold vw;cases qm P e<;>simp[Oj]
  by_cases hr:rows=[]
  ·subst hr
   have hv:vw (qm P e) []=[]:=by unfold vw;cases qm P e<;>simp[aA]
   rw[hv]
   exact plain [] [] (Src.slice (by simp) (by simp) (by simp)) (fun _=>trivial) (fun _=>by simp[fO])
  ·obtain⟨b,o',rfl,hrows⟩:=hne hr
   obtain⟨cs,c1,c2,c3⟩:=PN rows o' hrows
   refine plain _ cs ?_ (fun hf=> ?_) (fun hf=> ?_)
   ·rw[hvl]
    refine Src.slice c1 (fun u hu=> ?_) (fun _=>⟨b,o',rfl,fun j v hj=>wz _ _ _ _ _ _ (c2 j v hj)⟩)
    exact PO c3 u (by rw[←c1,List.take_length];exact hu)
   ·rw[hf];exact c3
   ·rw[hf];simp only[vw,cond_false];exact VP rows cs (YD c3)
 cases y with
 |d x=>
  cases x with
  |str s=>
   simp only[Vm.tail] at h
   replace h:=aj h;obtain⟨_,m1,l1,h1,h⟩:=h
   obtain⟨hs,rfl,rfl⟩:=eF h1
   simp only[run_pure,Option.some.injEq,Prod.mk.injEq] at h
   obtain⟨rfl,rfl,_⟩:=h
   have hs:=Nat.eq_of_beq_eq_true hs
   simp only[bJ,ro] at hy
   subst hy
   have auO:=apu (h:=Gh U w G) s _ rfl
   refine plain _ _ (by rw[hs];simpa using Src.string) (fun _=>by rw[hs];exact auO) (fun _=> ?_)
   rw[hs]
   refine QS 1 _ _ ?_ auO
   simp[aB,byteRow,D.flat]
  |sl o s rows=>
   simp only[Vm.tail] at h
   replace h:=aj h;obtain⟨_,m1,l1,h1,h⟩:=h
   obtain⟨hs,rfl,rfl⟩:=eF h1
   simp only[run_pure,Option.some.injEq,Prod.mk.injEq] at h
   obtain⟨rfl,rfl,_⟩:=h
   have hs:=Nat.eq_of_beq_eq_true hs
   subst hs
   simp only[bJ] at hy
   exact seen rows o hy
  |int _ _=>exact(au h).elim
  |bool _=>exact(au h).elim
  |MG=>exact(au h).elim
 |nil s=>
  simp only[Vm.tail,run_pure,Option.some.injEq,Prod.mk.injEq] at h
  obtain⟨rfl,rfl,_⟩:=h
  simp only[bJ] at hy
  subst hy
  exact plain [] [] (Src.slice (by simp) (by simp) (by simp)) (fun _=>trivial) (fun _=>by simp[fO])
 |own r ver=>
  simp only[Vm.tail] at h
  replace h:=aj h;obtain⟨c,m1,l1,h1,h⟩:=h
  rw[uO] at h1
  cases h1
  cases hc:get r m with
  |none=>rw[hc] at h;exact(au h).elim
  |some c=>
   rw[hc] at h
   cases c with
   |box _ _=>exact(au h).elim
   |dead=>exact(au h).elim
   |DJ _ _ _=>exact(au h).elim
   |arr fz fl iU s rows=>
    simp only at h
    replace h:=aj h;obtain⟨_,m1,l1,h1,h⟩:=h
    obtain⟨hb,rfl,rfl⟩:=eF h1
    have hb:=Nat.eq_of_beq_eq_true hb
    subst hb
    replace h:=aj h;obtain⟨_,m1,l1,h1,h⟩:=h
    obtain⟨hs,rfl,rfl⟩:=eF h1
    have hs:=Nat.eq_of_beq_eq_true hs
    subst hs
    simp only[bJ,hc] at hy
    have hy:=hy.2.2 trivial
    subst hy
    have hro:r ∉ G.out:=by rw[hA.out];simp
    have hcell:=hA.ok.cell r _ hc hro
    cases hf:qm P e with
    |true=>
     rw[hf] at h
     simp only at h
     replace h:=aj h;obtain⟨_,m1,l1,h1,h⟩:=h
     obtain⟨hff,rfl,rfl⟩:=eF h1
     simp only[run_pure,Option.some.injEq,Prod.mk.injEq] at h
     obtain⟨rfl,rfl,_⟩:=h
     cases fz with
     |true=>
      have:=seen rows true hcell.1
      rw[hf] at this
      simpa[vw] using this
     |false=>
      have hfl:fl=true:=by simpa using hff
      subst hfl
      rw[hf] at plain
      simp only[lW] at hcell
      rcases hcell with⟨rfl,hμ,_⟩|⟨b,cap,cs,T,N',h1,h2,h3,h4,h5,_⟩
      ·rw[hμ] at plain⊢
       exact plain [] [] (Src.slice (by simp) (by simp) (by simp)) (fun _=>trivial) (fun e=>by cases e)
      ·rw[h1] at plain⊢
       have hle:rows.length * lC P e≤cs.toList.length:=by
        have hcl:cs.toList.length=cap * lC P e:=by simpa using h4
        rw[hcl];exact Nat.mul_le_mul_right _ h2
       refine plain rows (cs.toList.take (rows.length * lC P e)) (Src.slice (by rw[List.length_take];omega) (fun u hu=>PO h5.1 u hu) (fun _=>⟨b,0,rfl,fun j v hj=> ?_⟩)) (fun _=>qJ (by rw[List.take_take,Nat.min_self]) h5.1) (fun e=>by cases e)
       rw[List.getElem?_take] at hj
       split at hj
       ·have:=full_cell (w:=w) h3 (0+j)
        rw[Nat.zero_add] at this⊢
        rw[hj] at this
        exact this
       ·cases hj
    |false=>
     rw[hf] at h
     simp only at h
     replace h:=aj h;obtain⟨_,m1,l1,h1,h⟩:=h
     obtain⟨hff,rfl,rfl⟩:=eF h1
     have hfl:fl=false:=by simpa using hff
     subst hfl
     cases fz with
     |true=>
      simp only[run_pure,Option.some.injEq,Prod.mk.injEq] at h
      obtain⟨rfl,rfl,_⟩:=h
      have:=seen rows true hcell.1
      rw[hf] at this
      simpa[vw] using this
     |false=>
      simp only at h
      replace h:=aj h;obtain⟨_,m1,l1,h1,h⟩:=h
      rw[CZ] at h1
      cases h1
      simp only[run_pure,Option.some.injEq,Prod.mk.injEq] at h
      obtain⟨rfl,rfl,_⟩:=h
      obtain⟨k1,k2,k3⟩:=hA.ok.kill hc hro
      have hold:∀j c,get j m1=some c→get j (put r .dead m1)=some c∨get j (put r .dead m1)=some .dead:=by
       intro j c hj
       by_cases e:j=r
       ·subst e;right;exact jk _ _ _
       ·left;rw[kN e];exact hj
      rcases k3 with⟨rfl,hμ,hF⟩|⟨b,cap,cs,T,N',h1,h2,h3,h4,h5,hF⟩
      ·refine⟨_,[],k1,k2,rfl,rfl, ?_, ?_,hold⟩
       ·rw[hμ];exact Src.slice (by simp) (by simp) (by simp)
       ·rw[hA.E,hF];simp[AV,fO]
      ·have hnd:(b::N').Nodup:=by rw[←hF];exact hA.ok.nd r
       obtain⟨q1,q2⟩:=k1.less N' (List.nodup_cons.1 hnd).2 (fun x hx=>by rw[hA.E,hF];simp[hx])
       have hle:rows.length * lC P e≤cs.toList.length:=by
        have hcl:cs.toList.length=cap * lC P e:=by simpa using h4
        rw[hcl];exact Nat.mul_le_mul_right _ h2
       refine⟨_,cs.toList.take (rows.length * lC P e),q1,k2.trans q2,rfl,rfl, ?_, ?_,hold⟩
       ·rw[h1]
        refine Src.slice (by rw[List.length_take];omega) (fun u hu=>aaY h5 u hu) (fun _=>⟨b,0,rfl,fun j v hj=> ?_⟩)
        rw[List.getElem?_take] at hj
        split at hj
        ·have:=full_cell (w:=w) h3 (0+j)
         rw[Nat.zero_add] at this⊢
         rw[hj] at this
         exact this
        ·cases hj
       ·exact NU (by rw[List.take_take,Nat.min_self]) (afU (k2.view.trans' q2.view) h5)
 |ptr _ _=>exact(au h).elim
 |sS _ _ _ _=>exact(au h).elim
 |sJ _ _=>exact(au h).elim
 |clo _ _ _=>exact(au h).elim
 |agg _=>exact(au h).elim
 |yE _=>exact(au h).elim
 |undef=>exact(au h).elim
end
end Go.Vm
namespace Go.Vm
open Go
section
variable {base:Nat} {U:Nat→Prop} {M0:List Nat} {w0 w w':World} {m m':Mem} {G G' G1:GS} {P:Program}
theorem kT{b:Bool}{l:Log}{x:Unit}{l':Log}(h:(ck b).run m l=some (x,m',l')):b=true∧m=m'∧l=l':=by
 obtain⟨h1,h2,h3⟩:=eF h
 exact⟨h1,h2.symm,h3.symm⟩
theorem OL{a:Nat}(h:Nat.ble a QD=true):a≤140737488355328:=Nat.le_of_ble_eq_true h
theorem XB{M M':List Nat}(h:Keep M w w')(hs:∀b,b∈M→b∈M'):Keep M' w w':=⟨h.os,h.tape,h.output,h.size,fun b hb hn=>h.block b hb (fun hx=>hn (hs b hx))⟩
theorem PU{w1:World}{o:Obj}(h:Keep [] w w1):Keep [] w (w1.alloc o):=h.trans (UH (M:=[])) (by simp)
theorem YE(hg:BL base U w m G)(ho:G.out=[])(hfr:Fr M0 w0 w G){w1:World}(hw1:w1.heap=w.heap)(hk1:Keep [] w w1){k:Nat}{fl:Bool}{s cap:Nat}{rows:List Row}{arr:Array Value}{T:TypeId}(hq:AV (dR w) (Gh U w G) fl s rows arr.toList G.E)
  (hcap:rows.length≤cap) (hsz:arr.size=cap * s) {u:Unit} {l l':Log} (h:(new k (.arr false fl 0 s rows)).run m l=some (u,m',l')):
  ∃G',Nx base U M0 w0 w m G (w1.alloc (.cells arr T)) m' G'∧bJ G'.μ m' (Gh U (w1.alloc (.cells arr T)) G') (.own k 0) (.slice (some ⟨w.heap.size,0,none⟩) rows.length cap):=by
 obtain⟨hn,rfl⟩:=VK h
 have hsize:(w1.alloc (.cells arr T)).heap.size=w.heap.size+1:=by rw[World.size_alloc,hw1]
 have hkeep:Keep [] w (w1.alloc (.cells arr T)):=PU hk1
 have hnE:w.heap.size ∉ G.E:=fun hE=>by have:=(hg.lt _ (.inl hE)).1;omega
 refine⟨_,hg.fresh ho hfr (gv:=.slice (some ⟨w.heap.size,0,none⟩) rows.length cap) (N:=w.heap.size::G.E) hn hkeep (List.nodup_cons.2 ⟨hnE,hg.ndE⟩) ?_ ?_, ?_⟩
 ·intro b hb
  simp only[List.mem_cons] at hb
  rcases hb with rfl|hb
  ·exact⟨.inr (Nat.le_refl _),by rw[hsize];omega⟩
  ·exact⟨.inl hb,by rw[hsize];have:=(hg.lt b (.inl hb)).1;omega⟩
 ·intro h' hv hml ate
  simp only[lW,Hl]
  refine .inr ⟨w.heap.size,cap,arr,T,G.E,rfl,hcap,OJ hw1,hsz, ?_,rfl⟩
  have:=Gm (H':=dR (w1.alloc (.cells arr T))) hv (fun b hb=>hkeep.block b (hg.lt b (.inl hb)).1 (by simp)) hq
  cases fl with
  |true=>exact this
  |false=>exact this
 ·simp[bJ,jk,OC]
theorem PV{z:Value}{n s:Nat}(h:z.cells.size=s):(Builtin.zeroCells z.cells n).size=n * s:=by simp[Builtin.zeroCells,h]
theorem atg(t1:BL base U w m G1){m0:Mem}(t2:QM m0 G m G1)(ho1:G1.out=[])(aaV:Fr M0 w0 w G1){r ver s:Nat}{rows ys:List Row}(hc:get r m=some (.DJ ver s rows)){t ty ry e:TypeId}{inf:TypeInfo}{zv gy:Value}{news:List Value}
  (hu:P.underlying t=some (.slice e)) (hty':(∃e',P.underlying ty=some (.slice e'))∨P.underlying ty=some .string) (hi:P.info? e=some inf) (hzv:inf.zero=some zv) (hsz:s=inf.size) (hzs:zv.cells.size=s) (hsrc:Src P inf.size w gy ys.length news)
  (hrows:AV (dR w) (Gh U w G1) true s ys news G1.E) (hb1:(rows.length+ys.length) * inf.bytes≤140737488355328) (hb2:rows.length+ys.length≤140737488355328) (hcell:ac1 (dR w) (Gh U w G1) s rows (G1.μ r) (G1.F r)):
  DK base U M0 w0 w m0 G P (Builtin.append_ #[t,ty] ry #[G1.μ r,gy]) (.own r (ver+1)) (put r (.DJ (ver+1) s (rows++ys)) m):=by
 have hnl:news.length=ys.length * s:=by rw[hsz];exact hsrc.n
 have aeQ:¬ver=ver+1:=by omega
 have hE:G1.E=[]:=hrows.2
 have hsn:fQ (Gh U w G1) s ys news:=hrows.1
 have fin:∀(w':World) (g:Value) (N:List Nat),Keep (G1.F r) w w'→N.Nodup→(∀b,b∈N→(b∈G1.F r∨b∈G1.E∨w.heap.size≤b)∧b<w'.heap.size)→
   (∀h':View,(Gh U w G1).le h'→ac1 (dR w') h' s (rows++ys) g N)→(Builtin.append_ #[t,ty] ry #[G1.μ r,gy]).run P w=.ok g w'→OC g→
   DK base U M0 w0 w m0 G P (Builtin.append_ #[t,ty] ry #[G1.μ r,gy]) (.own r (ver+1)) (put r (.DJ (ver+1) s (rows++ys)) m):=by
  intro w' g N hk hN hNs Lh hrun hone
  refine⟨g,w',_,hrun,Nx.after t2 (t1.rewrite ho1 aaV (μ':=upM G1.μ r g) (N:=N) hc hk hN hNs (fun k hk=>Jt g hk) ⟨by omega,fun e=>absurd e aeQ⟩ (fun h' hv hml _=> ?_)), ?_⟩
  ·simp only[lW,Hl];exact Lh h' hv
  ·simp[bJ,jk,hone]
 have fresh:∀(olds:List Value) (cap:Nat),olds.length=rows.length * s→(∀h':View,(Gh U w G1).le h'→fQ h' s rows olds)→rows.length+ys.length≤cap→
   (Builtin.append_ #[t,ty] ry #[G1.μ r,gy]).run P w=.ok (.slice (some ⟨w.heap.size,0,none⟩) (rows.length+ys.length) cap) (w.drew.alloc (.cells ((olds++news).toArray++Builtin.zeroCells zv.cells (cap - (rows.length+ys.length))) e))→
   DK base U M0 w0 w m0 G P (Builtin.append_ #[t,ty] ry #[G1.μ r,gy]) (.own r (ver+1)) (put r (.DJ (ver+1) s (rows++ys)) m):=by
  intro olds cap hol hos hcap hrun
  have hkeep:Keep [] w (w.drew.alloc (.cells ((olds++news).toArray++Builtin.zeroCells zv.cells (cap - (rows.length+ys.length))) e)):=PU SL
  have hsize:(w.drew.alloc (.cells ((olds++news).toArray++Builtin.zeroCells zv.cells (cap - (rows.length+ys.length))) e)).heap.size=w.heap.size+1:=by rw[World.size_alloc];rfl
  refine fin _ _ [w.heap.size] (XB hkeep (by simp)) (by simp) ?_ ?_ hrun ⟨_,_,_,rfl⟩
  ·intro k hk
   simp only[List.mem_singleton] at hk
   subst hk
   exact⟨.inr (.inr (Nat.le_refl _)),by rw[hsize];omega⟩
  ·intro h' hv
   refine .inr ⟨w.heap.size,0,cap,_,e,by simp,by simpa using hcap,OJ rfl, ?_, ?_,rfl⟩
   ·rw[Array.size_append,PV hzs]
    simp only[List.size_toArray,List.length_append,hol,hnl]
    rw[←Nat.add_mul,←Nat.add_mul,Nat.zero_add]
    exact Nat.mul_le_mul_right _ (by omega)
   ·rw[List.drop_zero,Array.toList_append]
    refine vU.2 ⟨qJ (cs:=olds) ?_ (hos h' hv),qJ (cs:=news) ?_ (mX hv _ _ _ hsn)⟩
    ·simp only[List.append_assoc]
     rw[List.take_append_of_le_length (by omega)]
    ·simp only[List.append_assoc]
     rw[←hol,List.drop_left,List.take_append_of_le_length (by omega)]
 rcases hcell with⟨rfl,hμ,hF⟩|⟨b,o,cap,cs,T,k1,k2,k3,k4,k5,k6⟩
 ·by_cases hy0:ys=[]
  ·subst hy0
   refine fin w (.slice none 0 0) [] (Keep.refl _ _) (by simp) (by simp) (fun h' hv=> .inl ⟨rfl,rfl,rfl⟩) ?_ ⟨_,_,_,rfl⟩
   rw[hμ]
   exact Le hu hty' hi hsrc
  ·have hm:ys.length≠0:=by simpa using hy0
   obtain⟨cap,hcap,hrun⟩:=Ld (w:=w) (ty:=ry) hu hty' hi hzv hsrc hm (by simpa using hb2) (by simpa using hb1)
   refine fresh [] cap (by simp) (fun _ _=>trivial) (by simpa using hcap) ?_
   rw[hμ]
   simpa using hrun
 ·have hbF:b∈G1.F r:=by rw[k6];simp
  have hcl:o+cap * s≤cs.toList.length:=by simpa using k4
  have hrl:rows.length * s≤cap * s:=Nat.mul_le_mul_right _ k2
  by_cases hroom:rows.length+ys.length≤cap
  ·have hrun:=UD (ty:=ry) (o:=o) hu hty' hi hsrc k3 hroom (by rw[←hsz];exact k4)
   rw[←hsz] at hrun
   have hh:=setRow_heap w b cs (splice cs.toList (o+rows.length * s) news).toArray T (0,0) k3
   have hfit:o+rows.length * s+news.length≤cs.toList.length:=by
    have:=Nat.mul_le_mul_right s hroom
    rw[Nat.add_mul] at this
    rw[hnl]
    omega
   have hsz2:(w.setRow b (splice cs.toList (o+rows.length * s) news).toArray).heap.size=w.heap.size:=by simp[World.setRow]
   refine fin _ (.slice (some ⟨b,o,none⟩) (rows.length+ys.length) cap) [b] (NT hbF) (by simp) ?_ ?_ (by rw[k1];exact hrun) ⟨_,_,_,rfl⟩
   ·intro k hk
    simp only[List.mem_singleton] at hk
    subst hk
    rw[hsz2]
    exact⟨.inl hbF,(t1.lt _ (.inr ⟨r,hbF⟩)).1⟩
   ·intro h' hv
    refine .inr ⟨b,o,cap,_,T,by simp,by simpa using hroom,hh, ?_, ?_,rfl⟩
    ·have:=Bq (l:=cs.toList) (xs:=news) (o:=o+rows.length * s) hfit
     simp only[List.size_toArray]
     rw[this]
     exact hcl
    ·have e1:(splice cs.toList (o+rows.length * s) news).drop o=(cs.toList.drop o).take (rows.length * s)++(news++cs.toList.drop (o+rows.length * s+news.length)):=by
      simp only[splice,List.append_assoc]
      rw[List.drop_append_of_le_length (by rw[List.length_take];omega),List.drop_take]
      congr 2
      omega
     have l1:((cs.toList.drop o).take (rows.length * s)).length=rows.length * s:=by rw[List.length_take,List.length_drop];omega
     rw[e1]
     refine vU.2 ⟨qJ (cs:=cs.toList.drop o) ?_ (mX hv _ _ _ k5),qJ (cs:=news) ?_ (mX hv _ _ _ hsn)⟩
     ·rw[List.take_append_of_le_length (by omega),List.take_take,Nat.min_self]
     ·rw[List.drop_append_of_le_length (by omega),List.drop_eq_nil_of_le (by omega),List.nil_append,List.take_append_of_le_length (by omega)]
  ·have hlt:cap<rows.length+ys.length:=by omega
   obtain⟨cap',hcap',hrun⟩:=UE (ty:=ry) (o:=o) (olds:=(cs.toList.drop o).take (rows.length * s)) hu hty' hi hzv hsrc (by rw[List.length_take,List.length_drop,←hsz];omega) (fun j u hj=>by
    rw[List.getElem?_take] at hj
    split at hj
    ·rw[List.getElem?_drop] at hj
     have:=full_cell (w:=w) k3 (o+j)
     rw[hj] at this
     exact this
    ·cases hj) hlt hb2 hb1
   refine fresh ((cs.toList.drop o).take (rows.length * s)) cap' (by rw[List.length_take,List.length_drop];omega) (fun h' hv=>qJ (cs:=cs.toList.drop o) (by rw[List.take_take,Nat.min_self]) (mX hv _ _ _ k5)) hcap' ?_
   rw[k1]
   exact hrun
theorem al0(hA:At base U M0 w0 w m G){dst:Nat}{t ty ry:TypeId}{x y:V}{gx gy:Value}(hx:bJ G.μ m (Gh U w G) x gx)(hy:bJ G.μ m (Gh U w G) y gy){v:V}{l l':Log}(h:(aeD P dst t ty x y).run m l=some (v,m',l')):
  DK base U M0 w0 w m G P (Builtin.append_ #[t,ty] ry #[gx,gy]) v m':=by
 simp only[aeD] at h
 replace h:=aj h;obtain⟨e,m1,l1,h1,h⟩:=h
 obtain⟨he,rfl,rfl⟩:=gU h1
 replace h:=aj h;obtain⟨_,m1,l1,h1,h⟩:=h
 obtain⟨hs1,rfl,rfl⟩:=eF h1
 replace h:=aj h;obtain⟨_,m1,l1,h1,h⟩:=h
 obtain⟨hty,rfl,rfl⟩:=eF h1
 replace h:=aj h;obtain⟨z,m1,l1,h1,h⟩:=h
 obtain⟨hz,rfl,rfl⟩:=gU h1
 replace h:=aj h;obtain⟨_,m1,l1,h1,h⟩:=h
 obtain⟨hzs,rfl,rfl⟩:=eF h1
 replace h:=aj h;obtain⟨ys,m2,l2,h2,h⟩:=h
 have hs1:=Nat.le_of_ble_eq_true hs1
 have hu:=MK he
 have hty':(∃e',P.underlying ty=some (.slice e'))∨P.underlying ty=some .string:=by
  cases hq:P.underlying ty with
  |none=>simp[hq] at hty
  |some d=>rw[hq] at hty;cases d<;>simp at hty<;>simp
 obtain⟨G1,news,t1,t2,t3,t4,hsrc,hrows,hold⟩:=(atf hA hy hs1 h2).ex
 have aaV:Fr M0 w0 w G1:=hA.fr.less t2.ex
 have ho1:G1.out=[]:=t3.trans hA.out
 obtain⟨inf,zv,hi,hzv,azP⟩:=ML (m:=m1) (μ:=G.μ) (h:=Gh U w G) hz
 have hzs:zv.cells.size=lC P e:=by rw[←Nat.eq_of_beq_eq_true hzs,←jQ azP,Array.length_toList]
 have hsz:lC P e=inf.size:=EI hi
 have hby:QE P e=inf.bytes:=by simp[QE,hi]
 rw[hsz] at hsrc
 cases x with
 |nil s0=>
  simp only at h
  replace h:=aj h;obtain⟨_,m3,l3,h3,h⟩:=h
  obtain⟨hb1,rfl,rfl⟩:=eF h3
  replace h:=aj h;obtain⟨_,m3,l3,h3,h⟩:=h
  obtain⟨hb2,rfl,rfl⟩:=eF h3
  replace h:=aj h;obtain⟨_,m3,l3,h3,h⟩:=h
  simp only[run_pure,Option.some.injEq,Prod.mk.injEq] at h
  obtain⟨rfl,rfl,_⟩:=h
  simp only[bJ] at hx
  subst hx
  have hb1:=OL hb1
  have hb2:=OL hb2
  rw[hby] at hb1
  by_cases hy0:ys=[]
  ·subst hy0
   obtain⟨hn,rfl⟩:=VK h3
   refine⟨_,w,_,Le hu hty' hi hsrc,Nx.after t2 (t1.fresh ho1 aaV (gv:=.slice none 0 0) (N:=[]) hn (Keep.refl _ _) (by simp) (by simp) (fun h' hv hml _=> ?_)), ?_⟩
   ·simp only[lW,Hl];exact .inl ⟨rfl,rfl,rfl⟩
   ·simp[bJ,jk,OC]
  ·have hm:ys.length≠0:=by simpa using hy0
   obtain⟨cap,hcap,hrun⟩:=Ld (w:=w) (ty:=ry) hu hty' hi hzv hsrc hm hb2 hb1
   obtain⟨G2,hnx,Lh⟩:=YE (w1:=w.drew) (cap:=cap) (arr:=news.toArray++Builtin.zeroCells zv.cells (cap - ys.length)) (T:=e) t1 ho1 aaV rfl SL (k:=dst) (fl:=qm P e) (s:=lC P e) (rows:=ys)
    (Jy (by
     have hnl:news.length=ys.length * lC P e:=by rw[hsz];exact hsrc.n
     simp only[Array.toList_append]
     rw[List.take_append_of_le_length (by omega)]) hrows) hcap (by
     rw[Array.size_append,PV hzs,hsz]
     have hnl:news.toArray.size=ys.length * inf.size:=by simpa using hsrc.n
     rw[hnl,←Nat.add_mul];congr 1;omega) h3
   exact⟨_,_,G2,hrun,Nx.after t2 hnx,Lh⟩
 |own r ver=>
  simp only at h
  replace h:=aj h;obtain⟨c,m3,l3,h3,h⟩:=h
  rw[uO] at h3
  cases h3
  replace hx:=t2.bJ hx
  cases hc:get r m2 with
  |none=>rw[hc] at h;exact(au h).elim
  |some c=>
  rw[hc] at h
  cases c with
  |box _ _=>exact(au h).elim
  |dead=>exact(au h).elim
  |DJ iU s rows=>
   simp only at h
   replace h:=aj h;obtain⟨_,m4,l4,h4,h⟩:=h
   obtain⟨hb,rfl,rfl⟩:=kT h4
   have hb:=Nat.eq_of_beq_eq_true hb
   subst hb
   replace h:=aj h;obtain⟨_,m4,l4,h4,h⟩:=h
   obtain⟨hs,rfl,rfl⟩:=kT h4
   have hs:=Nat.eq_of_beq_eq_true hs
   subst hs
   replace h:=aj h;obtain⟨_,m4,l4,h4,h⟩:=h
   obtain⟨hfl,rfl,rfl⟩:=kT h4
   rw[hfl] at hrows
   replace h:=aj h;obtain⟨_,m4,l4,h4,h⟩:=h
   obtain⟨hb1,rfl,rfl⟩:=kT h4
   have hb1:=OL hb1
   rw[hby] at hb1
   replace h:=aj h;obtain⟨_,m4,l4,h4,h⟩:=h
   obtain⟨hb2,rfl,rfl⟩:=kT h4
   have hb2:=OL hb2
   replace h:=aj h;obtain⟨_,m4,l4,h4,h⟩:=h
   rw[CZ] at h4
   cases h4
   simp only[run_pure,Option.some.injEq,Prod.mk.injEq] at h
   obtain⟨rfl,rfl,_⟩:=h
   simp only[bJ,hc] at hx
   have hx:=hx.2.2 trivial
   subst hx
   have hcell:=t1.cell r _ hc (by rw[ho1];simp)
   exact atg t1 t2 ho1 aaV hc hu hty' hi hzv hsz hzs hsrc hrows hb1 hb2 hcell
  |arr fz fl iU s rows=>
  cases fz with
  |true=>exact(au h).elim
  |false=>
  simp only at h
  replace h:=aj h;obtain⟨_,m4,l4,h4,h⟩:=h
  obtain⟨hb,rfl,rfl⟩:=kT h4
  have hb:=Nat.eq_of_beq_eq_true hb
  subst hb
  replace h:=aj h;obtain⟨_,m4,l4,h4,h⟩:=h
  obtain⟨hs,rfl,rfl⟩:=kT h4
  have hs:=Nat.eq_of_beq_eq_true hs
  subst hs
  replace h:=aj h;obtain⟨_,m4,l4,h4,h⟩:=h
  obtain⟨hfl,rfl,rfl⟩:=kT h4
  have hfl:fl=qm P e:=by cases fl<;>cases hq:qm P e<;>simp_all
  rw[←hfl] at hrows
  replace h:=aj h;obtain⟨_,m4,l4,h4,h⟩:=h
  obtain⟨hb1,rfl,rfl⟩:=kT h4
  have hb1:=OL hb1
  rw[hby] at hb1
  replace h:=aj h;obtain⟨_,m4,l4,h4,h⟩:=h
  obtain⟨hb2,rfl,rfl⟩:=kT h4
  have hb2:=OL hb2
  replace h:=aj h;obtain⟨_,m4,l4,h4,h⟩:=h
  rw[CZ] at h4
  cases h4
  simp only[run_pure,Option.some.injEq,Prod.mk.injEq] at h
  obtain⟨rfl,rfl,_⟩:=h
  simp only[bJ,hc] at hx
  have hx:=hx.2.2 trivial
  subst hx
  have hcell:=t1.cell r _ hc (by rw[ho1];simp)
  have hnl:news.length=ys.length * lC P e:=by rw[hsz];exact hsrc.n
  have aeQ:¬ver=ver+1:=by omega
  have hEd:∀b,b∈G1.F r→b ∉ G1.E:=fun b=>t1.djE r b
  have fin:∀(w':World) (g:Value) (N:List Nat),Keep (G1.F r) w w'→N.Nodup→(∀b,b∈N→(b∈G1.F r∨b∈G1.E∨w.heap.size≤b)∧b<w'.heap.size)→
    (∀h':View,(Gh U w G1).le h'→Qo (dR w') h' fl (lC P e) (rows++ys) g N)→(Builtin.append_ #[t,ty] ry #[G1.μ r,gy]).run P w=.ok g w'→OC g→
    DK base U M0 w0 w m1 G P (Builtin.append_ #[t,ty] ry #[G1.μ r,gy]) (.own r (ver+1)) (put r (.arr false fl (ver+1) (lC P e) (rows++ys)) m2):=by
   intro w' g N hk hN hNs Lh hrun hone
   refine⟨g,w',_,hrun,Nx.after t2 (t1.rewrite ho1 aaV (μ':=upM G1.μ r g) (N:=N) hc hk hN hNs (fun k hk=>Jt g hk) ⟨by omega,rfl,fun e=>absurd e aeQ⟩ (fun h' hv hml _=> ?_)), ?_⟩
   ·simp only[lW,Hl];exact Lh h' hv
   ·simp[bJ,jk,hone]
  simp only[lW] at hcell
  rcases hcell with⟨rfl,hμ,hF⟩|⟨b,cap,cs,T,N',k1,k2,k3,k4,k5,k6⟩
  ·
   by_cases hy0:ys=[]
   ·subst hy0
    refine fin w (.slice none 0 0) [] (Keep.refl _ _) (by simp) (by simp) (fun h' hv=> .inl ⟨rfl,rfl,rfl⟩) ?_ ⟨_,_,_,rfl⟩
    rw[hμ]
    exact Le hu hty' hi hsrc
   ·have hm:ys.length≠0:=by simpa using hy0
    obtain⟨cap,hcap,hrun⟩:=Ld (w:=w) (ty:=ry) hu hty' hi hzv hsrc hm (by simpa using hb2) (by simpa using hb1)
    have hkeep:Keep [] w (w.drew.alloc (.cells (news.toArray++Builtin.zeroCells zv.cells (cap - ys.length)) e)):=PU SL
    have hsize:(w.drew.alloc (.cells (news.toArray++Builtin.zeroCells zv.cells (cap - ys.length)) e)).heap.size=w.heap.size+1:=by rw[World.size_alloc];rfl
    have hnE:w.heap.size ∉ G1.E:=fun hE=>by have:=(t1.lt _ (.inl hE)).1;omega
    refine fin _ _ (w.heap.size::G1.E) (XB hkeep (by simp)) (List.nodup_cons.2 ⟨hnE,t1.ndE⟩) ?_ ?_ (by rw[hμ];exact hrun) ⟨_,_,_,rfl⟩
    ·intro k hk
     simp only[List.mem_cons] at hk
     rcases hk with rfl|hk
     ·exact⟨.inr (.inr (Nat.le_refl _)),by rw[hsize];omega⟩
     ·exact⟨.inr (.inl hk),by rw[hsize];have:=(t1.lt k (.inl hk)).1;omega⟩
    ·intro h' hv
     refine .inr ⟨w.heap.size,cap,_,e,G1.E,rfl,by simpa using hcap,OJ rfl, ?_, ?_,rfl⟩
     ·rw[Array.size_append,PV hzs,hsz]
      have hnl:news.toArray.size=ys.length * inf.size:=by simpa using hsrc.n
      rw[hnl,←Nat.add_mul];congr 1;omega
     ·have h1:=Gm hv (fun b hb=>hkeep.block b (t1.lt b (.inl hb)).1 (by simp)) hrows
      have h2:=Jy (cs':=(news.toArray++Builtin.zeroCells zv.cells (cap - ys.length)).toList) (by simp only[Array.toList_append];rw[List.take_append_of_le_length (by omega)]) h1
      rw[List.nil_append]
      cases fl with
      |true=>exact h2
      |false=>exact h2
  ·have hbF:b∈G1.F r:=by rw[k6];simp
   have afY:=t1.nd r
   rw[k6] at afY
   have al1:∀k,k∈N'→k∈G1.F r:=fun k hk=>by rw[k6];simp[hk]
   have auP:(N'++G1.E).Nodup:=List.nodup_append.2 ⟨(List.nodup_cons.1 afY).2,t1.ndE,fun a ha c hc e=>hEd a (al1 a ha) (e ▸ hc)⟩
   have hcl:cs.toList.length=cap * lC P e:=by simpa using k4
   have hrl:rows.length * lC P e≤cs.toList.length:=by rw[hcl];exact Nat.mul_le_mul_right _ k2
   have k5':AV (dR w) (Gh U w G1) fl (lC P e) rows cs.toList N':=by
    cases fl with
    |true=>exact k5
    |false=>exact k5
   by_cases hroom:rows.length+ys.length≤cap
   ·
    have hrun:=run_append_fits (ty:=ry) hu hty' hi hsrc k3 hroom (by rw[k4,hsz])
    rw[←hsz] at hrun
    have hh:=setRow_heap w b cs (splice cs.toList (rows.length * lC P e) news).toArray T (0,0) k3
    have hfit:rows.length * lC P e+news.length≤cs.toList.length:=by
     rw[hnl,hcl,←Nat.add_mul];exact Nat.mul_le_mul_right _ hroom
    have hoth:∀k,k≠b→dR (w.setRow b (splice cs.toList (rows.length * lC P e) news).toArray) k=dR w k:=fun k hk=>setRow_other w b k _ hk
    have hsz2:(w.setRow b (splice cs.toList (rows.length * lC P e) news).toArray).heap.size=w.heap.size:=by simp[World.setRow]
    have hbN:b ∉ N'++G1.E:=by
     intro hx
     simp only[List.mem_append] at hx
     rcases hx with hx|hx
     ·exact(List.nodup_cons.1 afY).1 hx
     ·exact hEd b hbF hx
    refine fin _ (.slice (some ⟨b,0,none⟩) (rows.length+ys.length) cap) (b::(N'++G1.E)) (NT hbF) (List.nodup_cons.2 ⟨hbN,auP⟩) ?_ ?_ (by rw[k1];exact hrun) ⟨_,_,_,rfl⟩
    ·intro k hk
     rw[hsz2]
     simp only[List.mem_cons,List.mem_append] at hk
     rcases hk with rfl|hk|hk
     ·exact⟨.inl hbF,(t1.lt _ (.inr ⟨r,hbF⟩)).1⟩
     ·exact⟨.inl (al1 k hk),(t1.lt _ (.inr ⟨r,al1 k hk⟩)).1⟩
     ·exact⟨.inr (.inl hk),(t1.lt _ (.inl hk)).1⟩
    ·intro h' hv
     refine .inr ⟨b,cap,_,T,N'++G1.E,by simp,by simpa using hroom,hh, ?_, ?_,rfl⟩
     ·have:=Bq (l:=cs.toList) (xs:=news) (o:=rows.length * lC P e) hfit
      simp only[List.size_toArray]
      rw[this,hcl]
     ·have h1:=Gm (H':=dR (w.setRow b (splice cs.toList (rows.length * lC P e) news).toArray)) hv (fun k hk=>hoth k (fun e=>hbN (by rw[←e];simp[hk]))) k5'
      have h2:=Gm (H':=dR (w.setRow b (splice cs.toList (rows.length * lC P e) news).toArray)) hv (fun k hk=>hoth k (fun e=>hbN (by rw[←e];simp[hk]))) hrows
      have h3:=VO (Jy (cs':=splice cs.toList (rows.length * lC P e) news) (by
       simp only[splice,List.append_assoc]
       rw[List.take_append_of_le_length (by simp;omega),List.take_take,Nat.min_self]) h1) (Jy (cs':=(splice cs.toList (rows.length * lC P e) news).drop (rows.length * lC P e)) (by
       simp only[splice,List.append_assoc]
       rw[List.drop_append_of_le_length (by simp;omega)]
       have:(cs.toList.take (rows.length * lC P e)).drop (rows.length * lC P e)=[]:=by simp
       rw[this,List.nil_append,List.take_append_of_le_length (by omega)]) h2)
      cases fl with
      |true=>simpa[AV] using h3
      |false=>simpa[AV] using h3
   ·
    have hlt:cap<rows.length+ys.length:=by omega
    obtain⟨cap',hcap',hrun⟩:=Ze (ty:=ry) (olds:=cs.toList.take (rows.length * lC P e)) hu hty' hi hzv hsrc (by rw[List.length_take,←hsz];omega) (fun j u hj=>by
     rw[List.getElem?_take] at hj
     split at hj
     ·have:=full_cell (w:=w) k3 (0+j)
      rw[Nat.zero_add] at this⊢
      rw[hj] at this
      exact this
     ·cases hj) hlt hb2 hb1
    have hkeep:Keep [] w (w.drew.alloc (.cells ((cs.toList.take (rows.length * lC P e)++news).toArray++Builtin.zeroCells zv.cells (cap' - (rows.length+ys.length))) e)):=PU SL
    have hsize:(w.drew.alloc (.cells ((cs.toList.take (rows.length * lC P e)++news).toArray++Builtin.zeroCells zv.cells (cap' - (rows.length+ys.length))) e)).heap.size=w.heap.size+1:=by rw[World.size_alloc];rfl
    have aKm:w.heap.size ∉ N'++G1.E:=fun hE=>by
     simp only[List.mem_append] at hE
     rcases hE with hE|hE
     ·have:=(t1.lt _ (.inr ⟨r,al1 _ hE⟩)).1;omega
     ·have:=(t1.lt _ (.inl hE)).1;omega
    refine fin _ (.slice (some ⟨w.heap.size,0,none⟩) (rows.length+ys.length) cap') (w.heap.size::(N'++G1.E)) (XB hkeep (by simp)) (List.nodup_cons.2 ⟨aKm,auP⟩) ?_ ?_ (by rw[k1];exact hrun) ⟨_,_,_,rfl⟩
    ·intro k hk
     rw[hsize]
     simp only[List.mem_cons,List.mem_append] at hk
     rcases hk with rfl|hk|hk
     ·exact⟨.inr (.inr (Nat.le_refl _)),by omega⟩
     ·exact⟨.inl (al1 k hk),by have:=(t1.lt _ (.inr ⟨r,al1 k hk⟩)).1;omega⟩
     ·exact⟨.inr (.inl hk),by have:=(t1.lt _ (.inl hk)).1;omega⟩
    ·intro h' hv
     refine .inr ⟨w.heap.size,cap',_,e,N'++G1.E,by simp,by simpa using hcap',OJ rfl, ?_, ?_,rfl⟩
     ·rw[Array.size_append,PV hzs]
      simp only[List.size_toArray,List.length_append,List.length_take,hnl]
      rw[Nat.min_eq_left hrl,←Nat.add_mul,←Nat.add_mul];congr 1;omega
     ·have h1:=Gm hv (fun b hb=>hkeep.block b (t1.lt b (.inr ⟨r,al1 b hb⟩)).1 (by simp)) k5'
      have h2:=Gm hv (fun b hb=>hkeep.block b (t1.lt b (.inl hb)).1 (by simp)) hrows
      have l1:(cs.toList.take (rows.length * lC P e)).length=rows.length * lC P e:=by rw[List.length_take];omega
      have h3:=VO (Jy (cs':=((cs.toList.take (rows.length * lC P e)++news).toArray++Builtin.zeroCells zv.cells (cap' - (rows.length+ys.length))).toList) (by
       simp only[Array.toList_append,List.append_assoc]
       rw[List.take_append_of_le_length (by omega),List.take_take,Nat.min_self]) h1) (Jy (cs':=(((cs.toList.take (rows.length * lC P e)++news).toArray++Builtin.zeroCells zv.cells (cap' - (rows.length+ys.length))).toList).drop (rows.length * lC P e)) (by
       simp only[Array.toList_append,List.append_assoc]
       rw[List.drop_append_of_le_length (by omega),List.drop_eq_nil_of_le (by omega),List.nil_append,List.take_append_of_le_length (by omega)]) h2)
      cases fl with
      |true=>exact h3
      |false=>exact h3
 |d _=>exact(au h).elim
 |ptr _ _=>exact(au h).elim
 |sS _ _ _ _=>exact(au h).elim
 |sJ _ _=>exact(au h).elim
 |clo _ _ _=>exact(au h).elim
 |agg _=>exact(au h).elim
 |yE _=>exact(au h).elim
 |undef=>exact(au h).elim
end
end Go.Vm
namespace Go.Vm
open Go
section
variable {base:Nat} {U:Nat→Prop} {M0:List Nat} {w0 w w':World} {m m':Mem} {G G':GS} {P:Program}
theorem ac4(hA:At base U M0 w0 w m G){T f:Nat}{a:V}{ga:Value}(ha:bJ G.μ m (Gh U w G) a ga){v:V}{l l':Log}(h:(Un P T a f).run m l=some (v,m',l')):
  DK base U M0 w0 w m G P (Instr.fieldAt T ga f) v m':=by
 simp only[Un] at h
 replace h:=aj h;obtain⟨⟨o,n,t⟩,m1,l1,h1,h⟩:=h
 obtain⟨hf,rfl,rfl⟩:=gU h1
 simp only at h
 replace h:=aj h;obtain⟨_,m2,l2,h2,h⟩:=h
 obtain⟨hn,rfl,rfl⟩:=eF h2
 have hn:=Nat.le_of_ble_eq_true hn
 cases a with
 |ptr r off=>
  simp only[run_pure,Option.some.injEq,Prod.mk.injEq] at h
  obtain⟨rfl,rfl,_⟩:=h
  simp only[bJ] at ha
  obtain⟨⟨b,o',rfl⟩,ha⟩:=ha
  refine DK.same hA (QT hf hn) ?_
  simp only[bJ]
  refine⟨⟨_,_,rfl⟩, ?_⟩
  split at ha
  ·obtain⟨b1,hμ,e⟩:=ha
   simp only[Value.pointer.injEq,Option.some.injEq,Addr.mk.injEq] at e
   obtain⟨rfl,rfl,_⟩:=e
   exact⟨_,hμ,rfl⟩
  ·trivial
  ·exact ha
 |sJ row off=>
  simp only[run_pure,Option.some.injEq,Prod.mk.injEq] at h
  obtain⟨rfl,rfl,_⟩:=h
  simp only[bJ] at ha
  obtain⟨b,o',rfl,hrow⟩:=ha
  refine DK.same hA (QT hf hn) ?_
  simp only[bJ]
  exact⟨b,o',by rw[Nat.add_assoc],hrow⟩
 |sS r ver i off=>
  simp only[run_pure,Option.some.injEq,Prod.mk.injEq] at h
  obtain⟨rfl,rfl,_⟩:=h
  simp only[bJ] at ha
  obtain⟨⟨b,o',rfl⟩,ha⟩:=ha
  refine DK.same hA (QT hf hn) ?_
  simp only[bJ]
  refine⟨⟨_,_,rfl⟩, ?_⟩
  split at ha
  ·refine⟨ha.1,fun e=> ?_⟩
   obtain⟨b1,n1,cap,hμ,e1⟩:=ha.2 e
   simp only[Value.pointer.injEq,Option.some.injEq,Addr.mk.injEq] at e1
   obtain⟨rfl,rfl,_⟩:=e1
   exact⟨_,n1,cap,hμ,by rw[Nat.add_assoc]⟩
  ·trivial
  ·refine⟨ha.1,fun e=> ?_⟩
   obtain⟨b1,o1,n1,cap,hμ,e1⟩:=ha.2 e
   simp only[Value.pointer.injEq,Option.some.injEq,Addr.mk.injEq] at e1
   obtain⟨rfl,rfl,_⟩:=e1
   exact⟨_,o1,n1,cap,hμ,by simp only[Nat.add_assoc]⟩
  ·exact ha
 |d _=>exact(au h).elim
 |nil _=>exact(au h).elim
 |own _ _=>exact(au h).elim
 |clo _ _ _=>exact(au h).elim
 |agg _=>exact(au h).elim
 |yE _=>exact(au h).elim
 |undef=>exact(au h).elim
theorem an0(hA:At base U M0 w0 w m G){T f:Nat}{a:V}{ga:Value}(ha:bJ G.μ m (Gh U w G) a ga){v:V}{l l':Log}(h:(alQ P T a f).run m l=some (v,m',l')):
  DK base U M0 w0 w m G P (Instr.field T ga f) v m':=by
 simp only[alQ] at h
 replace h:=aj h;obtain⟨⟨o,n,t⟩,m1,l1,h1,h⟩:=h
 obtain⟨hf,rfl,rfl⟩:=gU h1
 simp only at h
 cases a with
 |agg cs=>
  simp only at h
  replace h:=aj h;obtain⟨_,m2,l2,h2,h⟩:=h
  obtain⟨hfit,rfl,rfl⟩:=eF h2
  replace h:=aj h;obtain⟨_,m2,l2,h2,h⟩:=h
  obtain⟨hok,rfl,rfl⟩:=eF h2
  obtain⟨hv,rfl,rfl⟩:=gU h
  simp only[bJ] at ha
  obtain⟨arr,rfl,hs⟩:=ha
  have hfit:=Nat.le_of_ble_eq_true hfit
  have hp:=aaR o n hs
  have hal:arr.size=cs.length:=by simpa using jQ hs
  obtain⟨g,hg⟩:=afX hv hp
  refine DK.same hA (g:=g) ?_ (Ju hv hp hg)
  unfold Py at hf
  cases hu:P.underlying T with
  |none=>simp[hu] at hf
  |some d=>
   rw[hu] at hf
   cases d with
   |struct fs=>
    simp only at hf
    cases hfd:fs[f]? with
    |none=>simp[hfd] at hf
    |some fd=>
     simp only[hfd,Option.some.injEq,Prod.mk.injEq] at hf
     obtain⟨rfl,rfl,rfl⟩:=hf
     obtain⟨d',hd'⟩:=yL hok
     obtain⟨i,hi⟩:=uF hd'
     unfold Instr.field
     simp only[Sem.run_bind,run_underlying hu,Result.andThen_ok,hfd]
     unfold Go.part
     simp only[Sem.run_bind,asAgg,Sem.run_pure,Result.andThen_ok,OH hd']
     unfold valOf at hg
     cases hag:Jk P fd.type with
     |true=>
      simp only[hag,if_true] at hg
      subst hg
      rw[EI hi]
      have hex:arr.extract fd.offset (fd.offset+i.size)=(List.take i.size (List.drop fd.offset arr.toList)).toArray:=by
       apply Array.ext'
       simp[Array.toList_extract,List.extract_eq_take_drop]
      simp[sizeOf,typeInfo,hi,hex]
     |false=>
      simp only[hag,Bool.false_eq_true,if_false] at hg
      have h0:arr[fd.offset]? =some g:=by
       have:(List.take (lC P fd.type) (List.drop fd.offset arr.toList))[0]? =some g:=by rw[hg];rfl
       rw[List.getElem?_take] at this
       split at this
       ·rw[List.getElem?_drop,Nat.add_zero] at this
        simpa using this
       ·cases this
      simp[h0]
   |_=>simp at hf
 |d _=>exact(au h).elim
 |nil _=>exact(au h).elim
 |own _ _=>exact(au h).elim
 |ptr _ _=>exact(au h).elim
 |sS _ _ _ _=>exact(au h).elim
 |sJ _ _=>exact(au h).elim
 |clo _ _ _=>exact(au h).elim
 |yE _=>exact(au h).elim
 |undef=>exact(au h).elim
theorem VQ{α:Type}{l:List α}{i:Int}{x:α}(h:idx l i=some x):0≤i∧i.toNat<l.length∧l[i.toNat]? =some x:=by
 unfold idx at h
 by_cases h0:0≤i
 ·simp only[h0,decide_true,cond_true] at h
  exact⟨h0,(List.getElem?_eq_some_iff.1 h).1,h⟩
 ·simp[h0] at h
theorem ac5(hA:At base U M0 w0 w m G){t:TypeId}{x i:V}{gx gi:Value}(hx:bJ G.μ m (Gh U w G) x gx)(hi:bJ G.μ m (Gh U w G) i gi){v:V}{l l':Log}(h:(Uo P t x i).run m l=some (v,m',l')):
  DK base U M0 w0 w m G P (Instr.indexAt t gx gi) v m':=by
 simp only[Uo] at h
 replace h:=aj h;obtain⟨e,m1,l1,h1,h⟩:=h
 obtain⟨he,rfl,rfl⟩:=gU h1
 cases i with
 |d xi=>
  cases xi with
  |int k n=>
   simp only at h
   simp only[bJ,ro] at hi
   subst hi
   have seen:∀(rows:List Row) (o:Bool),ro (Gh U w G) (.sl o (lC P e) rows) gx→∀row,idx rows n=some row→1≤lC P e∨True→(∃inf,P.info? e=some inf)→DK base U M0 w0 w m1 G P (Instr.indexAt t gx (.int k n)) (.sJ row 0) m1:=by
    intro rows o hq row hrow _ Df
    obtain⟨inf,Df⟩:=Df
    obtain⟨h0,hlt,hget⟩:=VQ hrow
    simp only[ro] at hq
    obtain⟨a,cap,rfl,hcap,hne⟩:=hq
    obtain⟨b,o',rfl,hrows⟩:=hne (by intro e;subst e;simp at hlt)
    obtain⟨hl,hr⟩:=Gl hrows hget
    refine DK.same hA (run_indexAt he Df h0 (by omega)) ?_
    simp only[bJ]
    rw[←EI Df]
    exact⟨b,o'+n.toNat * lC P e,rfl,hr⟩
   cases x with
   |d y=>
    cases y with
    |sl o s rows=>
     simp only at h
     replace h:=aj h;obtain⟨_,m2,l2,h2,h⟩:=h
     obtain⟨hs,rfl,rfl⟩:=eF h2
     replace h:=aj h;obtain⟨_,m2,l2,h2,h⟩:=h
     obtain⟨hok,rfl,rfl⟩:=eF h2
     replace h:=aj h;obtain⟨row,m2,l2,h2,h⟩:=h
     obtain⟨hrow,rfl,rfl⟩:=gU h2
     simp only[run_pure,Option.some.injEq,Prod.mk.injEq] at h
     obtain⟨rfl,rfl,_⟩:=h
     have hs:=Nat.eq_of_beq_eq_true hs
     subst hs
     simp only[bJ] at hx
     obtain⟨d',hd'⟩:=yL hok
     exact seen rows o hx row hrow (.inr trivial) (uF hd')
    |int _ _=>exact(au h).elim
    |bool _=>exact(au h).elim
    |str _=>exact(au h).elim
    |MG=>exact(au h).elim
   |own r ver=>
    simp only at h
    replace h:=aj h;obtain⟨c,m2,l2,h2,h⟩:=h
    rw[uO] at h2
    cases h2
    cases hc:get r m1 with
    |none=>rw[hc] at h;exact(au h).elim
    |some c=>
     rw[hc] at h
     cases c with
     |box _ _=>exact(au h).elim
     |dead=>exact(au h).elim
     |DJ iU s rows=>
      simp only at h
      replace h:=aj h;obtain⟨_,m2,l2,h2,h⟩:=h
      obtain⟨hb,rfl,rfl⟩:=kT h2
      have hb:=Nat.eq_of_beq_eq_true hb
      subst hb
      replace h:=aj h;obtain⟨_,m2,l2,h2,h⟩:=h
      obtain⟨hs,rfl,rfl⟩:=kT h2
      have hs:=Nat.eq_of_beq_eq_true hs
      subst hs
      replace h:=aj h;obtain⟨_,m2,l2,h2,h⟩:=h
      obtain⟨hok,rfl,rfl⟩:=kT h2
      obtain⟨d',hd'⟩:=yL hok
      obtain⟨inf,Df⟩:=uF hd'
      simp only[bJ,hc] at hx
      have hx:=hx.2.2 trivial
      subst hx
      have hcell:=hA.ok.cell r _ hc (by rw[hA.out];simp)
      replace h:=aj h;obtain⟨row,m2,l2,h2,h⟩:=h
      obtain⟨hrow,rfl,rfl⟩:=gU h2
      simp only[run_pure,Option.some.injEq,Prod.mk.injEq] at h
      obtain⟨rfl,rfl,_⟩:=h
      obtain⟨h0,hlt,hget⟩:=VQ hrow
      obtain⟨b,o,cap,hμ,hl,_⟩:=am2 hcell hget
      rw[hμ]
      refine DK.same hA (run_indexAt he Df h0 (by omega)) ?_
      simp only[bJ,hc,hμ]
      exact⟨⟨_,_,rfl⟩,Nat.le_refl _,fun _=>⟨b,o,_,_,rfl,by rw[EI Df];simp⟩⟩
     |arr fz fl iU s rows=>
      simp only at h
      replace h:=aj h;obtain⟨_,m2,l2,h2,h⟩:=h
      obtain⟨hb,rfl,rfl⟩:=kT h2
      have hb:=Nat.eq_of_beq_eq_true hb
      subst hb
      replace h:=aj h;obtain⟨_,m2,l2,h2,h⟩:=h
      obtain⟨hs,rfl,rfl⟩:=kT h2
      have hs:=Nat.eq_of_beq_eq_true hs
      subst hs
      replace h:=aj h;obtain⟨_,m2,l2,h2,h⟩:=h
      obtain⟨hok,rfl,rfl⟩:=kT h2
      obtain⟨d',hd'⟩:=yL hok
      obtain⟨inf,Df⟩:=uF hd'
      simp only[bJ,hc] at hx
      have hx:=hx.2.2 trivial
      subst hx
      have hcell:=hA.ok.cell r _ hc (by rw[hA.out];simp)
      cases fz with
      |true=>
       simp only at h
       replace h:=aj h;obtain⟨row,m2,l2,h2,h⟩:=h
       obtain⟨hrow,rfl,rfl⟩:=gU h2
       simp only[run_pure,Option.some.injEq,Prod.mk.injEq] at h
       obtain⟨rfl,rfl,_⟩:=h
       exact seen (vw fl rows) false (aaF hcell.1) row hrow (.inr trivial) ⟨inf,Df⟩
      |false=>
       simp only at h
       replace h:=aj h;obtain⟨row,m2,l2,h2,h⟩:=h
       obtain⟨hrow,rfl,rfl⟩:=gU h2
       simp only[run_pure,Option.some.injEq,Prod.mk.injEq] at h
       obtain⟨rfl,rfl,_⟩:=h
       obtain⟨h0,hlt,hget⟩:=VQ hrow
       obtain⟨b,o,cap,hμ,ho,hl,_⟩:=am1 hcell (wz _ _ _) hget
       have ho:=ho rfl
       subst ho
       rw[hμ]
       refine DK.same hA (run_indexAt he Df h0 (by omega)) ?_
       simp only[bJ,hc,hμ]
       exact⟨⟨_,_,rfl⟩,Nat.le_refl _,fun _=>⟨b,_,_,rfl,by rw[EI Df];simp⟩⟩
   |nil _=>exact(au h).elim
   |ptr _ _=>exact(au h).elim
   |sS _ _ _ _=>exact(au h).elim
   |sJ _ _=>exact(au h).elim
   |clo _ _ _=>exact(au h).elim
   |agg _=>exact(au h).elim
   |yE _=>exact(au h).elim
   |undef=>exact(au h).elim
  |bool _=>exact(au h).elim
  |str _=>exact(au h).elim
  |MG=>exact(au h).elim
  |sl _ _ _=>exact(au h).elim
 |nil _=>exact(au h).elim
 |own _ _=>exact(au h).elim
 |ptr _ _=>exact(au h).elim
 |sS _ _ _ _=>exact(au h).elim
 |sJ _ _=>exact(au h).elim
 |clo _ _ _=>exact(au h).elim
 |agg _=>exact(au h).elim
 |yE _=>exact(au h).elim
 |undef=>exact(au h).elim
theorem afZ{t e:TypeId}{n:Nat}(h:arT P t=some (n,e)):P.underlying t=some (.array n e):=by
 unfold arT at h
 cases hu:P.underlying t with
 |none=>simp[hu] at h
 |some d=>
  rw[hu] at h
  cases d<;>simp at h
  obtain⟨rfl,rfl⟩:=h
  rfl
theorem VR{t e:TypeId}{k:IntKind}{i:Int}{b o n:Nat}(hu:P.underlying t=some (.array n e)){inf:TypeInfo}(hi:P.info? e=some inf)(h0:0≤i)(hn:i<n):
  (Instr.indexAt t (.pointer (some ⟨b,o,none⟩)) (.int k i)).run P w=.ok (.pointer (some ⟨b,o+i.toNat * inf.size,none⟩)) w:=by
 have hc:0≤i∧i<(n:Int):=⟨h0,hn⟩
 unfold Instr.indexAt
 simp[asIntOf,run_underlying hu,hc,sizeOf,typeInfo,hi,Ho,Instr.sureAddr]
theorem ac6(hA:At base U M0 w0 w m G){t:TypeId}{x i:V}{gx gi:Value}(hx:bJ G.μ m (Gh U w G) x gx)(hi:bJ G.μ m (Gh U w G) i gi){v:V}{l l':Log}(h:(Ur P t x i).run m l=some (v,m',l')):
  DK base U M0 w0 w m G P (Instr.indexAt t gx gi) v m':=by
 unfold Ur at h
 cases ha:arT P t with
 |none=>
  rw[ha] at h
  exact ac5 hA hx hi h
 |some q=>
  obtain⟨n,e⟩:=q
  rw[ha] at h
  have hu:=afZ ha
  cases i<;>try exact(au h).elim
  rename_i y
  cases y<;>try exact(au h).elim
  rename_i k j
  simp only[bJ,ro] at hi
  subst hi
  simp only[afQ] at h
  replace h:=aj h;obtain⟨_,m1,l1,h1,h⟩:=h
  obtain⟨hok,rfl,rfl⟩:=eF h1
  replace h:=aj h;obtain⟨_,m1,l1,h1,h⟩:=h
  obtain⟨hj,rfl,rfl⟩:=eF h1
  simp only[Bool.and_eq_true,decide_eq_true_eq] at hj
  obtain⟨d',hd'⟩:=yL hok
  obtain⟨inf,Df⟩:=uF hd'
  have hsz:=EI Df
  cases x<;>try exact(au h).elim
  ·rename_i r off
   simp only[run_pure,Option.some.injEq,Prod.mk.injEq] at h
   obtain⟨rfl,rfl,_⟩:=h
   simp only[bJ] at hx
   obtain⟨⟨b,o,rfl⟩,hx⟩:=hx
   refine DK.same hA (VR hu Df hj.1 hj.2) ?_
   simp only[bJ]
   refine⟨⟨b,_,rfl⟩, ?_⟩
   cases hc:get r m1 with
   |none=>rw[hc] at hx;exact hx.elim
   |some c=>
    rw[hc] at hx
    cases c with
    |box T cs=>
     obtain⟨b',h1,h2⟩:=hx
     simp only[Value.pointer.injEq,Option.some.injEq,Addr.mk.injEq] at h2
     obtain⟨rfl,rfl,_⟩:=h2
     exact⟨b,h1,by rw[hsz]⟩
    |arr _ _ _ _ _=>exact hx.elim
    |dead=>trivial
    |DJ _ _ _=>exact hx.elim
  ·rename_i row off
   simp only[run_pure,Option.some.injEq,Prod.mk.injEq] at h
   obtain⟨rfl,rfl,_⟩:=h
   simp only[bJ] at hx
   obtain⟨b,o,rfl,hr⟩:=hx
   refine DK.same hA (VR hu Df hj.1 hj.2) ?_
   simp only[bJ]
   exact⟨b,o,by rw[hsz,Nat.add_assoc],hr⟩
theorem adM{μ:Nat→Value}{mm:Mem}{hh:View}:∀{cs:List V} {row:Row} {gs:List Value},adz cs=some row→dO μ mm hh cs gs→∀i:Nat,i<cs.length→∃g,gs[i]? =some g∧ro hh (nth row i) g
 |[],row,gs,h,q,i,hi=>by simp at hi
 |v::cs,row,gs,h,q,i,hi=>by
  simp only[dO] at q
  obtain⟨g,gs',rfl,q1,q2⟩:=q
  cases v<;>simp only[adz] at h<;>try cases h
  rename_i x
  cases hr:adz cs with
  |none=>rw[hr] at h;cases h
  |some r=>
   rw[hr] at h
   cases h
   cases i with
   |zero=>exact⟨g,rfl,by simpa[nth,bJ] using q1⟩
   |succ i=>
    obtain⟨g',h1,h2⟩:=adM hr q2 i (by simpa using hi)
    exact⟨g',by simpa using h1,by simpa[nth] using h2⟩
theorem aeR(hA:At base U M0 w0 w m G){t e:TypeId}{n:Nat}{k:IntKind}{j:Int}{cs:List V}{gx:Value}(hu:P.underlying t=some (.array n e))(hx:bJ G.μ m (Gh U w G) (.agg cs) gx){v:V}{l l':Log} (h:(do
  ck (Nat.beq (lC P e) 1 &&(Nat.beq cs.length n &&(ED P e && !(Jk P e))))
  ck (decide (0≤j) && decide (j<(n:Int)))
  let row←op' (adz cs)
  aaw (match KI P e with|[c]=>c|_=> .other) row j.toNat:Acc V).run m l=some (v,m',l')):
  DK base U M0 w0 w m G P (Instr.index t gx (.int k j)) v m':=by
 replace h:=aj h;obtain⟨_,m1,l1,h1,h⟩:=h
 obtain⟨hk,rfl,rfl⟩:=eF h1
 simp only[Bool.and_eq_true,Bool.not_eq_true',Nat.beq_eq] at hk
 obtain⟨hsz,hlen,hok,hagg⟩:=hk
 replace h:=aj h;obtain⟨_,m1,l1,h1,h⟩:=h
 obtain⟨hj,rfl,rfl⟩:=eF h1
 simp only[Bool.and_eq_true,decide_eq_true_eq] at hj
 replace h:=aj h;obtain⟨row,m1,l1,h1,h⟩:=h
 obtain⟨hrow,rfl,rfl⟩:=gU h1
 simp only[bJ] at hx
 obtain⟨arr,rfl,hs⟩:=hx
 obtain⟨g,hg,hr⟩:=adM hrow hs j.toNat (by omega)
 obtain⟨d',hd'⟩:=yL hok
 obtain⟨inf,Df⟩:=uF hd'
 have hone:=EI Df
 have hrun:(Instr.index t (.agg arr) (.int k j)).run P w=.ok g w:=by
  unfold Instr.index
  have hg':arr[j.toNat * inf.size]? =some g:=by
   rw[←hone,hsz,Nat.mul_one]
   simpa using hg
  simp[asIntOf,run_underlying hu,hj.1,hj.2,sizeOf,typeInfo,Df]
  unfold Go.part
  simp[OH hd',hagg,hg']
 have fin:v=.d (nth row j.toNat)∧m'=m1:=by
  generalize (match KI P e with|[c]=>c|_=>CT.other)=c at h
  cases hx:nth row j.toNat<;>cases c<;>simp[aaw,dn,ady,cStr,hx,asInt,asBool,adx,Acc.run] at h
  ·rename_i k1 n1 k2
   by_cases e:k1=k2
   ·subst e
    simp[Acc.run] at h
    exact⟨h.1.symm,h.2.1.symm⟩
   ·simp[e,Acc.run] at h
  ·exact⟨h.1.symm,h.2.1.symm⟩
  ·exact⟨h.1.symm,h.2.1.symm⟩
 obtain⟨rfl,rfl⟩:=fin
 exact DK.same hA hrun (by simpa[bJ] using hr)
end
end Go.Vm
namespace Go.Vm
open Go
section
variable {base:Nat} {U:Nat→Prop} {M0:List Nat} {w0 w w':World} {m m':Mem} {G G':GS} {P:Program}
theorem an1(hA:At base U M0 w0 w m G){t:TypeId}{x i:V}{gx gi:Value}(hx:bJ G.μ m (Gh U w G) x gx)(hi:bJ G.μ m (Gh U w G) i gi){v:V}{l l':Log}(h:(alR P t x i).run m l=some (v,m',l')):
  DK base U M0 w0 w m G P (Instr.index t gx gi) v m':=by
 unfold alR at h
 cases hu:P.underlying t with
 |none=>rw[hu] at h;exact(au h).elim
 |some d=>
  rw[hu] at h
  by_cases harr:∃n e,d=.array n e
  ·obtain⟨n,e,rfl⟩:=harr
   cases x<;>try exact(au h).elim
   cases i<;>try exact(au h).elim
   rename_i y
   cases y<;>try exact(au h).elim
   simp only[bJ,ro] at hi
   subst hi
   exact aeR hA hu hx h
  cases d<;>first|exact(au h).elim|exact(harr ⟨_,_,rfl⟩).elim|skip
  cases x<;>try exact(au h).elim
  rename_i y
  cases y<;>try exact(au h).elim
  rename_i s
  cases i<;>try exact(au h).elim
  rename_i y
  cases y<;>try exact(au h).elim
  rename_i k n
  simp only[bJ,ro] at hx hi
  subst hx hi
  dsimp only at h
  cases hb:idx s n with
  |none=>rw[hb] at h;simp[Acc.run] at h
  |some b=>
   rw[hb] at h
   change some (_,_,_)=_ at h
   simp only[Option.some.injEq,Prod.mk.injEq] at h
   obtain⟨rfl,rfl,_⟩:=h
   obtain⟨h0,hlt,hget⟩:=VQ hb
   refine DK.same hA (g:=.int .u8 b.toNat) ?_ (by simp[bJ,ro])
   have hg:(ByteArray.mk ⟨s⟩)[n.toNat]? =some b:=by
    have hsz:n.toNat<(ByteArray.mk ⟨s⟩).size:=hlt
    rw[getElem?_pos (ByteArray.mk ⟨s⟩) n.toNat hsz]
    have:s[n.toNat]=b:=by
     have:=List.getElem?_eq_getElem hlt
     rw[this] at hget
     exact Option.some.inj hget
    exact congrArg some this
   simp[Instr.index,asIntOf,run_underlying hu,h0,hg]
theorem ath(hA:At base U M0 w0 w m G){t ty:TypeId}{x:V}{gx:Value}(hx:bJ G.μ m (Gh U w G) x gx)
  (hk:∀s,x=.d (.str s)→P.underlying t=some .string) (hk':(∀s,x≠.d (.str s))→∃e,P.underlying t=some (.slice e)) {v:V} {l l':Log} (h:(lenV x).run m l=some (v,m',l')):
  DK base U M0 w0 w m G P (Builtin.len_ #[t] ty #[gx]) v m':=by
 have slice:∀(a:Option Addr) (n c:Nat),(∃e,P.underlying t=some (.slice e))→DK base U M0 w0 w m G P (Builtin.len_ #[t] ty #[.slice a n c]) (.d (.int .i64 n)) m:=by
  intro a n c ⟨e,he⟩
  refine DK.same hA (g:=.int .i64 n) ?_ (by simp[bJ,ro])
  simp[Builtin.len_,run_underlying he,goInt]
 cases x with
 |d y=>
  cases y with
  |str s=>
   change some (_,_,_)=_ at h
   simp only[Option.some.injEq,Prod.mk.injEq] at h
   obtain⟨rfl,rfl,_⟩:=h
   simp only[bJ,ro] at hx
   subst hx
   refine DK.same hA (g:=.int .i64 s.length) ?_ (by simp[bJ,ro])
   have hsz:(ByteArray.mk ⟨s⟩).size=s.length:=rfl
   simp[Builtin.len_,run_underlying (hk s rfl),goInt,hsz]
  |sl o s rows=>
   change some (_,_,_)=_ at h
   simp only[Option.some.injEq,Prod.mk.injEq] at h
   obtain⟨rfl,rfl,_⟩:=h
   simp only[bJ,ro] at hx
   obtain⟨a,cap,rfl,_⟩:=hx
   exact slice a rows.length cap (hk' (by simp))
  |int _ _=>exact(au h).elim
  |bool _=>exact(au h).elim
  |MG=>exact(au h).elim
 |nil s=>
  change some (_,_,_)=_ at h
  simp only[Option.some.injEq,Prod.mk.injEq] at h
  obtain⟨rfl,rfl,_⟩:=h
  simp only[bJ] at hx
  subst hx
  exact slice none 0 0 (hk' (by simp))
 |own r ver=>
  simp only[lenV] at h
  replace h:=aj h;obtain⟨c,m2,l2,h2,h⟩:=h
  rw[uO] at h2
  cases h2
  cases hc:get r m with
  |none=>rw[hc] at h;exact(au h).elim
  |some c=>
   rw[hc] at h
   cases c with
   |box _ _=>exact(au h).elim
   |dead=>exact(au h).elim
   |DJ iU s rows=>
    simp only at h
    replace h:=aj h;obtain⟨_,m2,l2,h2,h⟩:=h
    obtain⟨hb,rfl,rfl⟩:=kT h2
    have hb:=Nat.eq_of_beq_eq_true hb
    subst hb
    simp only[run_pure,Option.some.injEq,Prod.mk.injEq] at h
    obtain⟨rfl,rfl,_⟩:=h
    have hcell:=hA.ok.cell r _ hc (by rw[hA.out];simp)
    simp only[bJ,hc] at hx
    have hx:=hx.2.2 trivial
    subst hx
    rcases hcell with⟨rfl,hμ,_⟩|⟨b,o,cap,cs,T,hμ,_⟩
    ·rw[hμ];exact slice none 0 0 (hk' (by simp))
    ·rw[hμ];exact slice _ rows.length cap (hk' (by simp))
   |arr fz fl iU s rows=>
    simp only at h
    replace h:=aj h;obtain⟨_,m2,l2,h2,h⟩:=h
    obtain⟨hb,rfl,rfl⟩:=kT h2
    have hb:=Nat.eq_of_beq_eq_true hb
    subst hb
    simp only[run_pure,Option.some.injEq,Prod.mk.injEq] at h
    obtain⟨rfl,rfl,_⟩:=h
    have hro:=hA.ok.look hc (by rw[hA.out];simp) false
    simp only[bJ,hc] at hx
    rw[←hx.2.2 trivial] at hro
    simp only[ro] at hro
    obtain⟨a,cap,rfl,_⟩:=hro
    exact slice a rows.length cap (hk' (by simp))
 |ptr _ _=>exact(au h).elim
 |sS _ _ _ _=>exact(au h).elim
 |sJ _ _=>exact(au h).elim
 |clo _ _ _=>exact(au h).elim
 |agg _=>exact(au h).elim
 |yE _=>exact(au h).elim
 |undef=>exact(au h).elim
theorem avH{H:Heap}{h:View}{c:CT}{g:Value}{x:D}{l l':Log}(hr:(toD (Xr c g)).run m l=some (x,m',l')):m'=m∧ow H h x g []:=by
 unfold Xr at hr
 split at hr
 all_goals first
  |exact(au hr).elim
  |(simp only[toD,roD,run_pure,Option.some.injEq,Prod.mk.injEq] at hr
    obtain⟨rfl,rfl,_⟩:=hr
    exact⟨rfl,by simp[ow]⟩)
theorem af0{H:Heap}{h:View}:∀{cs:List CT} {gs:List Value} {xs:Row} {m m':Mem} {l l':Log},(Jo (BJ cs gs)).run m l=some (xs,m',l')→m'=m∧iI H h xs gs []∧xs.length=gs.length
 |c::cs,g::gs,xs,m,m',l,l',hr=>by
  simp only[BJ,Jo] at hr
  replace hr:=aj hr;obtain⟨x,m1,l1,h1,hr⟩:=hr
  replace hr:=aj hr;obtain⟨ys,m2,l2,h2,hr⟩:=hr
  simp only[run_pure,Option.some.injEq,Prod.mk.injEq] at hr
  obtain⟨rfl,rfl,_⟩:=hr
  obtain⟨rfl,q1⟩:=avH (H:=H) (h:=h) h1
  obtain⟨rfl,q2,q3⟩:=af0 (H:=H) (h:=h) h2
  exact⟨rfl,by simp only[iI];exact⟨g,gs,[],[],rfl,rfl,q1,q2⟩,by simp[q3]⟩
 |[],g::gs,xs,m,m',l,l',hr=>by
  simp only[BJ,Jo] at hr
  replace hr:=aj hr;obtain⟨x,m1,l1,h1,hr⟩:=hr
  exact(au h1).elim
 |c::cs,[],xs,m,m',l,l',hr=>by
  simp only[BJ,Jo,run_pure,Option.some.injEq,Prod.mk.injEq] at hr
  obtain⟨rfl,rfl,_⟩:=hr
  exact⟨rfl,by simp[iI],rfl⟩
 |[],[],xs,m,m',l,l',hr=>by
  simp only[BJ,Jo,run_pure,Option.some.injEq,Prod.mk.injEq] at hr
  obtain⟨rfl,rfl,_⟩:=hr
  exact⟨rfl,by simp[iI],rfl⟩
theorem adN{H:Heap}{h:View}{row:Row}{z L:List Value}{cap:Nat}(hz:z.length=row.length)(hL:L.length=cap * row.length)(hj:∀i j,i<cap→j<row.length→L[i * row.length+j]? =z[j]?)(hq:iI H h row z []):
  ∀(n i:Nat),i+n≤cap→fO H h row.length (List.replicate n row) (L.drop (i * row.length)) []
 |0,i,_=>by simp[fO]
 |n+1,i,hi=>by
  rw[List.replicate_succ]
  simp only[fO]
  refine⟨trivial,[],[],rfl, ?_, ?_⟩
  ·refine Jw ?_ hq
   apply List.ext_getElem?
   intro j
   by_cases hjl:j<row.length
   ·rw[List.getElem?_take_of_lt hjl,List.getElem?_take_of_lt hjl,List.getElem?_drop,hj i j (by omega) hjl]
   ·rw[List.getElem?_eq_none (by rw[List.length_take];omega),List.getElem?_eq_none (by rw[List.length_take];omega)]
  ·rw[List.drop_drop]
   have:=adN hz hL hj hq n (i+1) (by omega)
   rwa [Nat.add_mul,Nat.one_mul] at this
theorem ac7(hA:At base U M0 w0 w m G){dst:Nat}{t:TypeId}{x y:V}{gx gy:Value}(hx:bJ G.μ m (Gh U w G) x gx)(hy:bJ G.μ m (Gh U w G) y gy){v:V}{l l':Log}(h:(Us P dst t x y).run m l=some (v,m',l')):
  DK base U M0 w0 w m G P (Instr.makeSlice t gx gy) v m':=by
 simp only[Us,afR] at h
 replace h:=aj h;obtain⟨e,m1,l1,h1,h⟩:=h
 obtain⟨he,rfl,rfl⟩:=gU h1
 have he:=MK he
 replace h:=aj h;obtain⟨_,m1,l1,h1,h⟩:=h
 obtain⟨hs,rfl,rfl⟩:=kT h1
 have hs:=Nat.le_of_ble_eq_true hs
 replace h:=aj h;obtain⟨row,m1,l1,h1,h⟩:=h
 replace h1:=aj h1;obtain⟨z,m2,l2,h2,h1⟩:=h1
 obtain⟨hz,rfl,rfl⟩:=gU h2
 unfold JM at hz
 cases hi:P.info? e with
 |none=>simp[hi] at hz
 |some i=>
  simp only[hi] at hz
  cases hzz:i.zero with
  |none=>simp[hzz] at hz
  |some zv=>
   simp only[hzz,Option.some.injEq] at hz
   subst hz
   obtain⟨rfl,hrow,hlen⟩:=af0 (H:=dR w) (h:=Gh U w G) h1
   replace h:=aj h;obtain⟨_,m2,l2,h2,h⟩:=h
   obtain⟨hlr,rfl,rfl⟩:=kT h2
   have hlr:=Nat.eq_of_beq_eq_true hlr
   have hsz:=EI hi
   have hzs:zv.cells.size=i.size:=by
    have:zv.cells.toList.length=zv.cells.size:=by simp
    omega
   split at h
   next k1 n1 k2 n2=>
    replace h:=aj h;obtain⟨_,m3,l3,h3,h⟩:=h
    obtain⟨hck,rfl,rfl⟩:=kT h3
    simp only[Bool.and_eq_true,decide_eq_true_eq] at hck
    obtain⟨⟨⟨h0,hle⟩,hby⟩,hc⟩:=hck
    replace h:=aj h;obtain⟨u,m4,l4,h4,h⟩:=h
    simp only[run_pure,Option.some.injEq,Prod.mk.injEq] at h
    obtain⟨rfl,rfl,_⟩:=h
    simp only[bJ,ro] at hx hy
    subst hx hy
    have hbt:QE P e=i.bytes:=by simp[QE,hi]
    rw[hbt] at hby
    have hroom:(QD:Int)=140737488355328:=rfl
    rw[hroom] at hby hc
    have hrun:=run_make (P:=P) w t e i zv he hi hzz k1 k2 n1 n2 h0 hle (by rw[Int.mul_comm];omega) (by omega)
    have hE:=hA.E
    have hrl:row.length=i.size:=by omega
    have hq:fO (dR w) (Gh U w G) (lC P e) (List.replicate n1.toNat row) (madeCells zv.cells (n2.toNat * i.size)).toList []:=by
     rw[hsz,←hrl]
     have:=adN (H:=dR w) (h:=Gh U w G) (row:=row) (z:=zv.cells.toList) (L:=(madeCells zv.cells (n2.toNat * i.size)).toList) (cap:=n2.toNat) hlen.symm (by simp[size_madeCells,hrl]) ?_ hrow n1.toNat 0 (by omega)
     ·simpa[hrl] using this
     ·intro a b ha hb
      have hlt:a * row.length+b<n2.toNat * i.size:=by
       rw[hrl] at hb⊢
       calc a * i.size+b<a * i.size+i.size:=by omega
        _=(a+1) * i.size:=by rw[Nat.add_mul,Nat.one_mul]
        _≤n2.toNat * i.size:=Nat.mul_le_mul_right _ ha
      have hbz:b<zv.cells.size:=by omega
      have hmod:(a * row.length+b) % zv.cells.size=b:=by
       rw[hzs,←hrl,Nat.mul_comm,Nat.mul_add_mod]
       exact Nat.mod_eq_of_lt hb
      simp only[madeCells,Array.toList_map,Array.toList_range,List.getElem?_map]
      rw[List.getElem?_range hlt]
      simp[hmod,hbz]
    have hqS:AV (dR w) (Gh U w G) (qm P e) (lC P e) (List.replicate n1.toNat row) (madeCells zv.cells (n2.toNat * i.size)).toList G.E:=by
     unfold AV
     rw[hE]
     split
     ·exact⟨GL (View.le_refl _) _ _ _ [] (by intro b hb;simp at hb) hq,rfl⟩
     ·exact hq
    obtain⟨G',hnx,Lh⟩:=YE hA.ok hA.out hA.fr (w1:=w) rfl (Keep.refl _ _) (cap:=n2.toNat) (T:=e) hqS (by simp;omega) (by simp[size_madeCells,hsz]) h4
    refine⟨_,_,G',hrun,hnx, ?_⟩
    simpa using Lh
   next=>exact(au h).elim
end
end Go.Vm
namespace Go.Vm
open Go
section
variable {base:Nat} {U:Nat→Prop} {M0:List Nat} {w0 w w':World} {m m':Mem} {G G':GS} {P:Program}
def af4(μ:Nat→Value)(m:Mem)(h:View):Option V→Option Value→Prop
 |none,g=>g=none
 |some v,g=>∃x,g=some x∧bJ μ m h v x
theorem OM{μ:Nat→Value}{h:View}{o:Option V}{g:Option Value}{d n:Int}{l l':Log}(hq:af4 μ m h o g)(hr:(bound o d).run m l=some (n,m',l')):
  m'=m∧((g=none∧n=d)∨∃k,g=some (.int k n)):=by
 unfold bound at hr
 split at hr
 ·change some (_,_,_)=_ at hr
  simp only[Option.some.injEq,Prod.mk.injEq] at hr
  obtain⟨rfl,rfl,_⟩:=hr
  exact⟨rfl,.inl ⟨hq,rfl⟩⟩
 ·change some (_,_,_)=_ at hr
  simp only[Option.some.injEq,Prod.mk.injEq] at hr
  obtain⟨rfl,rfl,_⟩:=hr
  obtain⟨x,rfl,hx⟩:=hq
  simp only[bJ,ro] at hx
  exact⟨rfl,.inr ⟨_,by rw[hx]⟩⟩
 ·exact(au hr).elim
theorem af5{α:Type}{l r:List α}{a b:Int}(h:cut l a b=some r):0≤a∧a≤b∧b≤l.length∧r=(l.drop a.toNat).take (b.toNat - a.toNat):=by
 unfold cut at h
 cases hc:(decide (0≤a) && decide (a≤b) && decide (b≤(l.length:Int))) with
 |false=>simp[hc] at h
 |true=>
  simp only[hc,cond_true,Option.some.injEq] at h
  simp only[Bool.and_eq_true,decide_eq_true_eq] at hc
  exact⟨hc.1.1,hc.1.2,hc.2,h.symm⟩
theorem Gn{OC:Bool}{len cap:Nat}{lo hi:Option Value}{a b:Int}(ha:(lo=none∧a=0)∨∃k,lo=some (.int k a))(hb:(hi=none∧b=len)∨∃k,hi=some (.int k b))
  (h0:0≤a) (h1:a≤b) (h2:b≤len) (h3:len≤cap):(Instr.sliceBounds OC len cap lo hi none).run P w=.ok (a.toNat,b.toNat,cap) w:=by
 have hbc:b≤cap:=by omega
 have h0b:0≤b:=by omega
 rcases ha with⟨rfl,rfl⟩|⟨k,rfl⟩<;>rcases hb with⟨rfl,rfl⟩|⟨k',rfl⟩
 ·simp[Instr.sliceBounds]
 ·simp[Instr.sliceBounds,Instr.sliceBound,asIntOf,h0b,hbc]
 ·simp[Instr.sliceBounds,Instr.sliceBound,asIntOf,h0,h2,h1]
 ·have:(a:Int)≤(b.toNat:Int):=by omega
  simp[Instr.sliceBounds,Instr.sliceBound,asIntOf,h0b,hbc,h0,this]
  omega
theorem YF{h:View}{s:Nat}:∀{rows:List Row} {b o:Nat} (n:Nat),mW h s rows b o→mW h s (rows.drop n) b (o+n * s)
 |rows,b,o,0,q=>by simpa using q
 |[],b,o,n+1,q=>by simp[mW]
 |r::rows,b,o,n+1,q=>by
  simp only[mW] at q
  have:=YF n q.2.2
  rw[List.drop_succ_cons,Nat.add_mul,Nat.one_mul,show o+(n * s+s)=o+s+n * s by omega]
  exact this
theorem YG{h:View}{s:Nat}:∀{rows:List Row} {b o:Nat} (n:Nat),mW h s rows b o→mW h s (rows.take n) b o
 |rows,b,o,0,q=>by simp[mW]
 |[],b,o,n+1,q=>by simp[mW]
 |r::rows,b,o,n+1,q=>by
  simp only[mW] at q
  simp only[List.take_succ_cons,mW]
  exact⟨q.1,q.2.1,YG n q.2.2⟩
theorem apA{h:View}{o:Bool}{s:Nat}{rows rows':List Row}{t e:TypeId}{inf:TypeInfo}{g:Value}{lo hi:Option Value}{a b:Int}(hu:P.underlying t=some (.slice e))(hi':P.info? e=some inf)(hs:s=inf.size)
  (hq:ro h (.sl o s rows) g) (ha:(lo=none∧a=0)∨∃k,lo=some (.int k a)) (hb:(hi=none∧b=rows.length)∨∃k,hi=some (.int k b)) (hc:cut rows a b=some rows'):
  ∃g',(Instr.sliceAt t g lo hi none).run P w=.ok g' w∧ro h (.sl false s rows') g':=by
 obtain⟨h0,h1,h2,rfl⟩:=af5 hc
 simp only[ro] at hq
 obtain⟨ad,cap,rfl,hcap,hne⟩:=hq
 have hrun:=Gn (P:=P) (w:=w) (OC:=true) ha hb h0 h1 (by omega) hcap
 have hlen:(List.take (b.toNat - a.toNat) (List.drop a.toNat rows)).length=b.toNat - a.toNat:=by simp;omega
 refine⟨.slice (if cap=a.toNat then ad else ad.map (·.add (a.toNat * inf.size))) (b.toNat - a.toNat) (cap - a.toNat), ?_, ?_⟩
 ·simp only[Instr.sliceAt,Sem.run_bind,run_underlying hu,Result.andThen_ok,Instr.slice,hrun,sizeOf,typeInfo]
  simp[hi']
 ·simp only[ro]
  refine⟨_,cap - a.toNat,by rw[hlen],by rw[hlen];omega, ?_⟩
  intro hne'
  have hpos:0<b.toNat - a.toNat:=by
   rw[←hlen]
   exact List.length_pos_iff.2 hne'
  have hrows:rows≠[]:=by
   intro e
   subst e
   simp at hne'
  obtain⟨bb,oo,rfl,hr⟩:=hne hrows
  have hca:¬cap=a.toNat:=by omega
  refine⟨bb,oo+a.toNat * s, ?_,YG _ (YF _ hr)⟩
  subst hs
  simp[hca,Addr.add]
theorem ac8(s:List UInt8)(a b:Nat)(h:a≤b)(hb:b≤s.length):(ByteArray.mk ⟨s⟩).extract a b=⟨⟨(s.drop a).take (b - a)⟩⟩:=by
 have:((ByteArray.mk ⟨s⟩).extract a b).data=⟨(s.drop a).take (b - a)⟩:=by
  rw[ByteArray.data_extract]
  apply Array.ext'
  simp[Array.toList_extract,List.extract_eq_take_drop]
 exact congrArg ByteArray.mk this
theorem an2(hA:At base U M0 w0 w m G){t:TypeId}{x:V}{gx:Value}{lo hi:Option V}{glo ghi:Option Value}(hx:bJ G.μ m (Gh U w G) x gx)(hlo:af4 G.μ m (Gh U w G) lo glo)(hhi:af4 G.μ m (Gh U w G) hi ghi)
  {v:V} {l l':Log} (hh0:(alS P t x lo hi).run m l=some (v,m',l')):DK base U M0 w0 w m G P (Instr.sliceAt t gx glo ghi none) v m':=by
 have gen:∀(x:V),bJ G.μ m (Gh U w G) x gx→(do
   let e←op' (elT P t)
   ck (ED P e)
   let(s,rows)←seen x
   ck (Nat.beq s (lC P e))
   let l←bound lo 0
   let h←bound hi rows.length
   let rows'←op' (cut rows l h)
   match x with
   | .own r ver=>do
    match←rd r with
    |some (.arr _ fl iU s rows)=>do
     ck (Nat.beq ver iU)
     wr r (.arr true fl ver s rows)
     pure (.d (.sl false s rows'))
    |_=> .fail
   |_=>pure (.d (.sl false s rows')):Acc V).run m l=some (v,m',l')→DK base U M0 w0 w m G P (Instr.sliceAt t gx glo ghi none) v m':=by
  intro x hx h
  replace h:=aj h;obtain⟨e,m1,l1,h1,h⟩:=h
  obtain⟨he,rfl,rfl⟩:=gU h1
  have he:=MK he
  replace h:=aj h;obtain⟨_,m1,l1,h1,h⟩:=h
  obtain⟨hok,rfl,rfl⟩:=eF h1
  obtain⟨d',hd'⟩:=yL hok
  obtain⟨inf,Df⟩:=uF hd'
  have hsz:=EI Df
  replace h:=aj h;obtain⟨⟨s,rows⟩,m1,l1,h1,h⟩:=h
  obtain⟨rfl,hfull⟩:=amV hA.ok hx hA.out h1
  simp only at h
  replace h:=aj h;obtain⟨_,m2,l2,h2,h⟩:=h
  obtain⟨hs,rfl,rfl⟩:=eF h2
  have hs:=Nat.eq_of_beq_eq_true hs
  replace h:=aj h;obtain⟨a,m2,l2,h2,h⟩:=h
  obtain⟨rfl,ha⟩:=OM hlo h2
  replace h:=aj h;obtain⟨b,m3,l3,h3,h⟩:=h
  obtain⟨rfl,hb⟩:=OM hhi h3
  replace h:=aj h;obtain⟨rows',m4,l4,h4,h⟩:=h
  obtain⟨hcut,rfl,rfl⟩:=gU h4
  have apB:∀{h':View} {G1:GS} {m1':Mem} {o:Bool},Nx base U M0 w0 w m4 G w m1' G1→h'=Gh U w G1→ro h' (.sl o s rows) gx→DK base U M0 w0 w m4 G P (Instr.sliceAt t gx glo ghi none) (.d (.sl false s rows')) m1':=by
   intro h' G1 m1' o hnx hh hro
   subst hh
   obtain⟨g',hrun,hg'⟩:=apA (w:=w) he Df (hs.trans hsz) hro ha hb hcut
   exact⟨g',w,G1,hrun,hnx,hg'⟩
  cases x with
  |own r ver=>
   simp only at h
   replace h:=aj h;obtain⟨c,m5,l5,h5,h⟩:=h
   rw[uO] at h5
   cases h5
   cases hc:get r m4 with
   |none=>rw[hc] at h;exact(au h).elim
   |some c=>
    rw[hc] at h
    cases c with
    |box _ _=>exact(au h).elim
    |dead=>exact(au h).elim
    |DJ _ _ _=>exact(au h).elim
    |arr fz fl iU s2 amZ=>
     simp only at h
     replace h:=aj h;obtain⟨_,m5,l5,h5,h⟩:=h
     obtain⟨hbq,rfl,rfl⟩:=eF h5
     have hbq:=Nat.eq_of_beq_eq_true hbq
     subst hbq
     replace h:=aj h;obtain⟨_,m5,l5,h5,h⟩:=h
     rw[CZ] at h5
     simp only[Option.some.injEq,Prod.mk.injEq] at h5
     obtain⟨_,rfl,_⟩:=h5
     simp only[run_pure,Option.some.injEq,Prod.mk.injEq] at h
     obtain⟨rfl,rfl,_⟩:=h
     simp only[seen] at h1
     replace h1:=aj h1;obtain⟨c,m6,l6,h6,h1⟩:=h1
     rw[uO] at h6
     cases h6
     rw[hc] at h1
     simp only at h1
     replace h1:=aj h1;obtain⟨_,m6,l6,h6,h1⟩:=h1
     obtain⟨_,rfl,rfl⟩:=eF h6
     simp only[run_pure,Option.some.injEq,Prod.mk.injEq] at h1
     obtain⟨⟨rfl,rfl⟩,_⟩:=h1
     obtain⟨k1,k2,k3⟩:=hA.ok.freeze hc (by rw[hA.out];simp)
     simp only[bJ,hc] at hx
     have hgx:=hx.2.2 trivial
     rw[←hgx] at k3
     rw[hA.E] at k3
     exact apB (hA.still k1 k2 hA.out) rfl (aaF (fl:=fl) k3)
  |d y=>
   cases y with
   |sl o s2 amZ=>
    simp only[seen,run_pure,Option.some.injEq,Prod.mk.injEq] at h1 h
    obtain⟨⟨rfl,rfl⟩,_⟩:=h1
    obtain⟨rfl,rfl,_⟩:=h
    exact apB (o:=o) hA.nx rfl hx
   |_=>exact(au h1).elim
  |nil s2=>
   simp only[seen,run_pure,Option.some.injEq,Prod.mk.injEq] at h1 h
   obtain⟨⟨rfl,rfl⟩,_⟩:=h1
   obtain⟨rfl,rfl,_⟩:=h
   refine apB (o:=false) hA.nx rfl ?_
   simp only[bJ] at hx
   subst hx
   simp[ro]
  |_=>exact(au h1).elim
 have h:=hh0
 cases x with
 |d y=>
  cases y with
  |str s=>
   simp only[alS] at h
   replace h:=aj h;obtain⟨_,m1,l1,h1,h⟩:=h
   obtain⟨hu,rfl,rfl⟩:=eF h1
   replace h:=aj h;obtain⟨a,m2,l2,h2,h⟩:=h
   obtain⟨rfl,ha⟩:=OM hlo h2
   replace h:=aj h;obtain⟨b,m3,l3,h3,h⟩:=h
   obtain⟨rfl,hb⟩:=OM hhi h3
   replace h:=aj h;obtain⟨s',m4,l4,h4,h⟩:=h
   obtain⟨hcut,rfl,rfl⟩:=gU h4
   simp only[run_pure,Option.some.injEq,Prod.mk.injEq] at h
   obtain⟨rfl,rfl,_⟩:=h
   obtain⟨h0,h1,h2,rfl⟩:=af5 hcut
   simp only[bJ,ro] at hx
   subst hx
   have hu:P.underlying t=some .string:=by
    cases hd:P.underlying t with
    |none=>simp[hd] at hu
    |some d=>rw[hd] at hu;cases d<;>simp at hu;rfl
   have hrun:=Gn (P:=P) (w:=w) (OC:=false) (len:=s.length) (cap:=s.length) ha hb h0 h1 h2 (Nat.le_refl _)
   have hsize:(ByteArray.mk ⟨s⟩).size=s.length:=rfl
   refine DK.same hA (g:=.string ((ByteArray.mk ⟨s⟩).extract a.toNat b.toNat)) ?_ ?_
   ·simp only[Instr.sliceAt,Sem.run_bind,run_underlying hu,Result.andThen_ok,Instr.slice]
    simp[hsize,hrun]
   ·simp only[bJ,ro]
    rw[ac8 s _ _ (by omega) (by omega)]
  |sl o s rows=>exact gen _ hx h
  |int _ _=>exact gen _ hx h
  |bool _=>exact gen _ hx h
  |MG=>exact gen _ hx h
 |nil _=>exact gen _ hx h
 |own _ _=>exact gen _ hx h
 |ptr _ _=>exact gen _ hx h
 |sS _ _ _ _=>exact gen _ hx h
 |sJ _ _=>exact gen _ hx h
 |clo _ _ _=>exact gen _ hx h
 |agg _=>exact gen _ hx h
 |yE _=>exact gen _ hx h
 |undef=>exact gen _ hx h
theorem an3(hA:At base U M0 w0 w m G){t:TypeId}{x:V}{gx:Value}{lo hi:Option V}{glo ghi:Option Value}(hx:bJ G.μ m (Gh U w G) x gx)(hlo:af4 G.μ m (Gh U w G) lo glo)(hhi:af4 G.μ m (Gh U w G) hi ghi)
  {v:V} {l l':Log} (h:(aeE P t x lo hi).run m l=some (v,m',l')):DK base U M0 w0 w m G P (Instr.sliceAt t gx glo ghi none) v m':=by
 cases x with
 |sJ row off=>
  simp only[aeE] at h
  replace h:=aj h;obtain⟨q,m1,l1,h1,h⟩:=h
  obtain⟨ha,rfl,rfl⟩:=gU h1
  obtain⟨n,e⟩:=q
  simp only at h
  replace h:=aj h;obtain⟨_,m1,l1,h1,h⟩:=h
  obtain⟨hok,rfl,rfl⟩:=eF h1
  replace h:=aj h;obtain⟨_,m1,l1,h1,h⟩:=h
  obtain⟨hk,rfl,rfl⟩:=eF h1
  simp only[Bool.and_eq_true,Nat.beq_eq] at hk
  obtain⟨hsz,rfl,hlen⟩:=hk
  cases lo<;>try exact(au h).elim
  cases hi<;>try exact(au h).elim
  simp only[run_pure,Option.some.injEq,Prod.mk.injEq] at h
  obtain⟨rfl,rfl,_⟩:=h
  simp only[af4] at hlo hhi
  subst hlo hhi
  simp only[bJ] at hx
  obtain⟨b,o,rfl,hr⟩:=hx
  have hu:=afZ ha
  obtain⟨d',hd'⟩:=yL hok
  obtain⟨inf,Df⟩:=uF hd'
  have hrun:=Gn (P:=P) (w:=w) (OC:=false) (len:=n) (cap:=n) (lo:=none) (hi:=none) (a:=0) (b:=n) (.inl ⟨rfl,rfl⟩) (.inl ⟨rfl,rfl⟩) (by omega) (by omega) (by omega) (Nat.le_refl _)
  refine DK.same hA (g:=.slice (some ⟨b,o,none⟩) n n) ?_ ?_
  ·simp only[Instr.sliceAt,Sem.run_bind,run_underlying hu,Result.andThen_ok,Instr.sureAddr,sizeOf,typeInfo]
   simp only[Sem.run_pure,Result.andThen_ok]
   rw[hrun]
   simp[Df,Ho]
  ·simp only[bJ,ro]
   refine⟨_,n,by simp[hlen],by simp[hlen],fun _=>⟨b,o,rfl,aaD row b o hr⟩⟩
 |_=>exact an2 hA hx hlo hhi h
theorem PW{H:Heap}{h:View}{fl:Bool}{s:Nat}:∀{rows:List Row} {cs:List Value} {N:List Nat} (n:Nat),AV H h fl s rows cs N→∃N' N2,N=N'++N2∧AV H h fl s (rows.take n) cs N'
 |rows,cs,N,0,q=>⟨[],N,by simp,by cases fl<;>simp[AV,fQ,fO]⟩
 |[],cs,N,n+1,q=>⟨N,[],by simp,by simpa using q⟩
 |r::rs,cs,N,n+1,q=>by
  cases fl with
  |true=>
   simp only[AV,fQ] at q
   obtain⟨⟨q1,q2,q3⟩,rfl⟩:=q
   obtain⟨N',N2,e,k⟩:=PW (H:=H) (fl:=true) n (show AV H h true s rs (cs.drop s) [] from⟨q3,rfl⟩)
   obtain⟨rfl,rfl⟩:=List.append_eq_nil_iff.1 e.symm
   exact⟨[],[],rfl,⟨⟨q1,q2,k.1⟩,rfl⟩⟩
  |false=>
   simp only[AV,fO] at q
   obtain⟨q1,N1,N3,rfl,q2,q3⟩:=q
   obtain⟨N',N2,rfl,k⟩:=PW (fl:=false) n (show AV H h false s rs (cs.drop s) N3 from q3)
   refine⟨N1++N',N2,by simp, ?_⟩
   simp only[AV,List.take_succ_cons,fO]
   exact⟨q1,N1,N',rfl,q2,k⟩
theorem an4(hA:At base U M0 w0 w m G){t:TypeId}{x:V}{gx:Value}{hi:Option V}{ghi:Option Value}(hx:bJ G.μ m (Gh U w G) x gx)(hhi:af4 G.μ m (Gh U w G) hi ghi)
  {v:V} {l l':Log} (h:(alT P t x hi).run m l=some (v,m',l')):DK base U M0 w0 w m G P (Instr.sliceAt t gx none ghi none) v m':=by
 simp only[alT] at h
 replace h:=aj h;obtain⟨e,m1,l1,h1,h⟩:=h
 obtain⟨he,rfl,rfl⟩:=gU h1
 have hu:=MK he
 replace h:=aj h;obtain⟨_,m2,l2,h2,h⟩:=h
 obtain⟨hok,rfl,rfl⟩:=eF h2
 obtain⟨d',hd'⟩:=yL hok
 obtain⟨inf,Df⟩:=uF hd'
 have hsz:=EI Df
 cases x<;>try exact(au h).elim
 rename_i r ver
 simp only at h
 replace h:=aj h;obtain⟨c,m3,l3,h3,h⟩:=h
 rw[uO] at h3
 cases h3
 cases hc:get r m2 with
 |none=>rw[hc] at h;exact(au h).elim
 |some c=>
 rw[hc] at h
 cases c with
 |box _ _=>exact(au h).elim
 |dead=>exact(au h).elim
 |DJ _ _ _=>exact(au h).elim
 |arr fz fl iU s rows=>
 cases fz with
 |true=>exact(au h).elim
 |false=>
 simp only at h
 replace h:=aj h;obtain⟨_,m3,l3,h3,h⟩:=h
 obtain⟨hb,rfl,rfl⟩:=eF h3
 have hb:=Nat.eq_of_beq_eq_true hb
 subst hb
 replace h:=aj h;obtain⟨_,m4,l4,h4,h⟩:=h
 obtain⟨hs,rfl,rfl⟩:=eF h4
 have hs:=Nat.eq_of_beq_eq_true hs
 subst hs
 replace h:=aj h;obtain⟨k,m5,l5,h5,h⟩:=h
 obtain⟨rfl,hb⟩:=OM hhi h5
 replace h:=aj h;obtain⟨_,m6,l6,h6,h⟩:=h
 obtain⟨hk,rfl,rfl⟩:=eF h6
 simp only[Bool.and_eq_true,decide_eq_true_eq] at hk
 replace h:=aj h;obtain⟨_,m7,l7,h7,h⟩:=h
 rw[CZ] at h7
 simp only[Option.some.injEq,Prod.mk.injEq] at h7
 obtain⟨_,rfl,_⟩:=h7
 simp only[run_pure,Option.some.injEq,Prod.mk.injEq] at h
 obtain⟨rfl,rfl,_⟩:=h
 simp only[bJ,hc] at hx
 have hx:=hx.2.2 trivial
 subst hx
 have hcell:=hA.ok.cell r _ hc (by rw[hA.out];simp)
 simp only[lW] at hcell
 have aeQ:¬ver=ver+1:=by omega
 have hlen:(rows.take k.toNat).length=k.toNat:=by rw[List.length_take];omega
 have fin:∀(g:Value) (N:List Nat),N.Nodup→(∀b,b∈N→b∈G.F r)→(∀h':View,(Gh U w G).le h'→Qo (dR w) h' fl (lC P e) (rows.take k.toNat) g N)→(Instr.sliceAt t (G.μ r) none ghi none).run P w=.ok g w→OC g→
   DK base U M0 w0 w m6 G P (Instr.sliceAt t (G.μ r) none ghi none) (.own r (ver+1)) (put r (.arr false fl (ver+1) (lC P e) (rows.take k.toNat)) m6):=by
  intro g N hN hNs Lh hrun hone
  refine⟨g,w,_,hrun,hA.ok.rewrite hA.out hA.fr (μ':=upM G.μ r g) (N:=N) hc (Keep.refl _ _) hN (fun b hb=>⟨.inl (hNs b hb),(hA.ok.lt b (.inr ⟨r,hNs b hb⟩)).1⟩) (fun j hj=>Jt g hj) ⟨by omega,rfl,fun e=>absurd e aeQ⟩ (fun h' hv hml _=> ?_), ?_⟩
  ·simp only[lW,Hl];exact Lh h' hv
  ·simp[bJ,jk,hone]
 rcases hcell with⟨rfl,hμ,hF⟩|⟨b,cap,cs,T,N',k1,k2,k3,k4,k5,k6⟩
 ·have hrun:=Gn (P:=P) (w:=w) (OC:=true) (len:=0) (cap:=0) (lo:=none) (hi:=ghi) (a:=0) (b:=k) (.inl ⟨rfl,rfl⟩) hb (by omega) hk.1 hk.2 (Nat.le_refl _)
  have hk0:k.toNat=0:=by have:=hk.2;simp at this;omega
  refine fin (.slice none 0 0) [] (by simp) (by simp) (fun h' hv=> .inl ⟨by simp,rfl,rfl⟩) ?_ ⟨_,_,_,rfl⟩
  rw[hμ]
  simp only[Instr.sliceAt,Sem.run_bind,run_underlying hu,Result.andThen_ok,Instr.slice,hrun,sizeOf,typeInfo]
  simp[Df,hk0]
 ·have hrun:=Gn (P:=P) (w:=w) (OC:=true) (len:=rows.length) (cap:=cap) (lo:=none) (hi:=ghi) (a:=0) (b:=k) (.inl ⟨rfl,rfl⟩) hb (by omega) hk.1 hk.2 k2
  have k5':AV (dR w) (Gh U w G) fl (lC P e) rows cs.toList N':=by
   cases fl with
   |true=>exact k5
   |false=>exact k5
  obtain⟨N1,N2,azQ,hq⟩:=PW k.toNat k5'
  have hnd:=hA.ok.nd r
  rw[k6,azQ,←List.cons_append] at hnd
  refine fin (.slice (some ⟨b,0,none⟩) k.toNat cap) (b::N1) (List.nodup_append.1 hnd).1 (fun j hj=> ?_) (fun h' hv=> .inr ⟨b,cap,cs,T,N1,by rw[hlen],by rw[hlen];have:=hk.2;omega,k3,k4, ?_,rfl⟩) ?_ ⟨_,_,_,rfl⟩
  ·rw[k6,azQ,←List.cons_append]
   exact List.mem_append_left _ hj
  ·have:=Gm hv (fun _ _=>rfl) hq
   cases fl with
   |true=>exact this
   |false=>exact this
  ·rw[k1]
   simp only[Instr.sliceAt,Sem.run_bind,run_underlying hu,Result.andThen_ok,Instr.slice,hrun,sizeOf,typeInfo]
   simp[Df,Ho]
theorem TM{h:View}{s:Nat}:∀{rows:List Row} {cs:List Value} (n:Nat),fQ h s rows cs→fQ h s (rows.drop n) (cs.drop (n * s))
 |rows,cs,0,q=>by simpa using q
 |[],cs,n+1,q=>by simp[fQ]
 |r::rs,cs,n+1,q=>by
  have:=TM n q.2.2
  rw[List.drop_drop] at this
  rw[List.drop_succ_cons,Nat.add_mul,Nat.one_mul,Nat.add_comm]
  exact this
theorem apC(hA:At base U M0 w0 w m G){t:TypeId}{x lo:V}{gx glo:Value}(hx:bJ G.μ m (Gh U w G) x gx)(hlo:bJ G.μ m (Gh U w G) lo glo)
  {v:V} {l l':Log} (h:(apf P t x lo).run m l=some (v,m',l')):DK base U M0 w0 w m G P (Instr.sliceAt t gx (some glo) none none) v m':=by
 simp only[apf] at h
 replace h:=aj h;obtain⟨e,m1,l1,h1,h⟩:=h
 obtain⟨he,rfl,rfl⟩:=gU h1
 have hu:=MK he
 replace h:=aj h;obtain⟨_,m2,l2,h2,h⟩:=h
 obtain⟨hok,rfl,rfl⟩:=eF h2
 obtain⟨d',hd'⟩:=yL hok
 obtain⟨inf,Df⟩:=uF hd'
 have hsz:=EI Df
 replace h:=aj h;obtain⟨k,m2,l2,h2,h⟩:=h
 obtain⟨rfl,hb⟩:=OM (g:=some glo) (show af4 G.μ _ (Gh U w G) (some lo) (some glo) from⟨glo,rfl,hlo⟩) h2
 cases x<;>try exact(au h).elim
 rename_i r ver
 simp only at h
 replace h:=aj h;obtain⟨c,m3,l3,h3,h⟩:=h
 rw[uO] at h3
 cases h3
 have main:∀(c0:Cell) (s:Nat) (rows:List Row),get r m2=some c0→(c0=.arr false true ver s rows∨c0=.DJ ver s rows)→ac1 (dR w) (Gh U w G) s rows (G.μ r) (G.F r)→gx=G.μ r→
   s=lC P e→0≤k∧k≤(rows.length:Int)→DK base U M0 w0 w m2 G P (Instr.sliceAt t gx (some glo) none none) (.own r (ver+1)) (put r (.DJ (ver+1) s (rows.drop k.toNat)) m2):=by
  intro c0 s rows hc hc0 hq hg hs hk
  subst hg hs
  have aeQ:¬ver=ver+1:=by omega
  have hlen:(rows.drop k.toNat).length=rows.length - k.toNat:=List.length_drop
  have fin:∀(g:Value) (N:List Nat),N.Nodup→(∀b,b∈N→b∈G.F r)→(∀h':View,(Gh U w G).le h'→ac1 (dR w) h' (lC P e) (rows.drop k.toNat) g N)→(Instr.sliceAt t (G.μ r) (some glo) none none).run P w=.ok g w→OC g→
    DK base U M0 w0 w m2 G P (Instr.sliceAt t (G.μ r) (some glo) none none) (.own r (ver+1)) (put r (.DJ (ver+1) (lC P e) (rows.drop k.toNat)) m2):=by
   intro g N hN hNs Lh hrun hone
   refine⟨g,w,_,hrun,hA.ok.rewrite hA.out hA.fr (μ':=upM G.μ r g) (N:=N) hc (Keep.refl _ _) hN (fun b hb=>⟨.inl (hNs b hb),(hA.ok.lt b (.inr ⟨r,hNs b hb⟩)).1⟩) (fun j hj=>Jt g hj) ?_ (fun h' hv hml _=> ?_), ?_⟩
   ·rcases hc0 with rfl|rfl
    ·exact Nat.lt_succ_self _
    ·exact⟨by omega,fun e=>absurd e aeQ⟩
   ·simp only[lW,Hl];exact Lh h' hv
   ·simp[bJ,jk,hone]
  rcases hq with⟨rfl,hμ,hF⟩|⟨b,o,cap,cs,T,k1,k2,k3,k4,k5,k6⟩
  ·have hrun:=Gn (P:=P) (w:=w) (OC:=true) (len:=0) (cap:=0) (lo:=some glo) (hi:=none) (a:=k) (b:=0) (hb.imp (fun h=>by cases h.1) id) (.inl ⟨rfl,rfl⟩) hk.1 (by simpa using hk.2) (by omega) (Nat.le_refl _)
   have hk0:k.toNat=0:=by have:=hk.2;simp at this;omega
   refine fin (.slice none 0 0) [] (by simp) (by simp) (fun h' hv=> .inl ⟨by simp,rfl,rfl⟩) ?_ ⟨_,_,_,rfl⟩
   rw[hμ]
   simp only[Instr.sliceAt,Sem.run_bind,run_underlying hu,Result.andThen_ok,Instr.slice,hrun,sizeOf,typeInfo]
   simp[Df,hk0]
  ·have hrun:=Gn (P:=P) (w:=w) (OC:=true) (len:=rows.length) (cap:=cap) (lo:=some glo) (hi:=none) (a:=k) (b:=rows.length) (hb.imp (fun h=>by cases h.1) id) (.inl ⟨rfl,rfl⟩) hk.1 hk.2 (Int.le_refl _) k2
   have hkl:k.toNat≤rows.length:=by omega
   have hmul:k.toNat * lC P e≤cap * lC P e:=Nat.mul_le_mul_right _ (Nat.le_trans hkl k2)
   by_cases hkc:cap=k.toNat
   ·have hd:rows.drop k.toNat=[]:=List.drop_eq_nil_of_le (by omega)
    refine fin (.slice (some ⟨b,o,none⟩) 0 0) [b] (by simp) (fun j hj=>by rw[k6];exact hj) (fun h' hv=> .inr ⟨b,o,0,cs,T,by rw[hd];rfl,by rw[hd];simp,k3,by omega,by rw[hd];trivial,rfl⟩) ?_ ⟨_,_,_,rfl⟩
    rw[k1]
    simp only[Instr.sliceAt,Sem.run_bind,run_underlying hu,Result.andThen_ok,Instr.slice,hrun,sizeOf,typeInfo]
    have h0:rows.length - k.toNat=0:=by omega
    simp[Df,Ho,hkc,h0]
   refine fin (.slice (some ⟨b,o+k.toNat * lC P e,none⟩) (rows.length - k.toNat) (cap - k.toNat)) [b] (by simp) (fun j hj=>by rw[k6];exact hj) (fun h' hv=> .inr ⟨b,o+k.toNat * lC P e,cap - k.toNat,cs,T,by rw[hlen],by rw[hlen];omega,k3, ?_, ?_,rfl⟩) ?_ ⟨_,_,_,rfl⟩
   ·rw[Nat.sub_mul]
    omega
   ·have:=TM k.toNat (mX hv _ _ _ k5)
    rw[List.drop_drop] at this
    exact this
   ·rw[k1]
    simp only[Instr.sliceAt,Sem.run_bind,run_underlying hu,Result.andThen_ok,Instr.slice,hrun,sizeOf,typeInfo]
    simp[Df,Ho,hsz,hkc]
 cases hc:get r m2 with
 |none=>rw[hc] at h;exact(au h).elim
 |some c=>
 rw[hc] at h
 cases c with
 |box _ _=>exact(au h).elim
 |dead=>exact(au h).elim
 |DJ iU s rows=>
  simp only at h
  replace h:=aj h;obtain⟨_,m3,l3,h3,h⟩:=h
  obtain⟨hb',rfl,rfl⟩:=kT h3
  have hb':=Nat.eq_of_beq_eq_true hb'
  subst hb'
  replace h:=aj h;obtain⟨_,m4,l4,h4,h⟩:=h
  obtain⟨hs,rfl,rfl⟩:=kT h4
  have hs:=Nat.eq_of_beq_eq_true hs
  replace h:=aj h;obtain⟨_,m6,l6,h6,h⟩:=h
  obtain⟨hk,rfl,rfl⟩:=kT h6
  simp only[Bool.and_eq_true,decide_eq_true_eq] at hk
  replace h:=aj h;obtain⟨_,m7,l7,h7,h⟩:=h
  rw[CZ] at h7
  simp only[Option.some.injEq,Prod.mk.injEq] at h7
  obtain⟨_,rfl,_⟩:=h7
  simp only[run_pure,Option.some.injEq,Prod.mk.injEq] at h
  obtain⟨rfl,rfl,_⟩:=h
  simp only[bJ,hc] at hx
  exact main _ s rows hc (.inr rfl) (hA.ok.cell r _ hc (by rw[hA.out];simp)) (hx.2.2 trivial) hs hk
 |arr fz fl iU s rows=>
  cases fz with
  |true=>exact(au h).elim
  |false=>
  cases fl with
  |false=>exact(au h).elim
  |true=>
  simp only at h
  replace h:=aj h;obtain⟨_,m3,l3,h3,h⟩:=h
  obtain⟨hb',rfl,rfl⟩:=kT h3
  have hb':=Nat.eq_of_beq_eq_true hb'
  subst hb'
  replace h:=aj h;obtain⟨_,m4,l4,h4,h⟩:=h
  obtain⟨hs,rfl,rfl⟩:=kT h4
  have hs:=Nat.eq_of_beq_eq_true hs
  replace h:=aj h;obtain⟨_,m6,l6,h6,h⟩:=h
  obtain⟨hk,rfl,rfl⟩:=kT h6
  simp only[Bool.and_eq_true,decide_eq_true_eq] at hk
  replace h:=aj h;obtain⟨_,m7,l7,h7,h⟩:=h
  rw[CZ] at h7
  simp only[Option.some.injEq,Prod.mk.injEq] at h7
  obtain⟨_,rfl,_⟩:=h7
  simp only[run_pure,Option.some.injEq,Prod.mk.injEq] at h
  obtain⟨rfl,rfl,_⟩:=h
  simp only[bJ,hc] at hx
  refine main _ s rows hc (.inl rfl) ?_ (hx.2.2 trivial) hs hk
  have hcell:=hA.ok.cell r _ hc (by rw[hA.out];simp)
  simp only[lW] at hcell
  rcases hcell with q|⟨b,cap,cs,T,N',k1,k2,k3,k4,k5,k6⟩
  ·exact .inl q
  ·obtain⟨k5,rfl⟩:=k5
   exact .inr ⟨b,0,cap,cs,T,k1,k2,k3,by omega,k5,k6⟩
end
end Go.Vm
