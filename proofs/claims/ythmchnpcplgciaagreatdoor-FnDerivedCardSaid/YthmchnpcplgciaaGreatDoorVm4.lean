import Derived.Test.YthmchnpcplgciaaGreatDoorVm2
import Derived.LoopN
import Derived.CheckFast
import Derived.IntWalk
import Derived.ChangeShapes
import Derived.ChangeOld
import Derived.Carry
import Derived.WideShapes
import Derived.ProofKit
import Derived.Handed
import Derived.LaidLaws
import Derived.LaidHandle
import Derived.Shelf.Vars
import Derived.OpenShut
import Derived.ChangeArms
import Derived.LaidMore
set_option linter.defProp false
set_option linter.unusedVariables false
set_option linter.unusedSimpArgs false
open Go.IntKind (i64)
namespace Go.Vm
open Go
def afl(gs:List Value):Value:=match gs with
 |[g]=>g
 |gs=> .tuple gs.toArray
def ar6:List Cell->List Cell->Prop
 |[],cs=>cs=[]
 |c::cs,ds=>∃d ds',ds=d::ds'/\sameKind c d/\ar6 cs ds'
def agR{a b c:Cell}(h:sameKind a b)(k:sameKind b c):sameKind a c:=by
 cases a<;>cases b<;>cases c<;>simp only[sameKind] at h k|-
 ·exact h.trans k
 ·exact⟨h.1,k.2.1,h.2.2.1.trans k.2.2.1,h.2.2.2.trans k.2.2.2⟩
def aeU{m:Mem}:∀{rs:List Nat} {cs ds:List Cell},kinds m rs cs->ar6 cs ds->kinds m rs ds
 |[],cs,ds,h,k=>by simp only[kinds] at h;subst h;exact k
 |r::rs,cs,ds,h,k=>by obtain⟨c,c',cs',rfl,h1,h2,h3⟩:=h;obtain⟨d,ds',rfl,k1,k2⟩:=k;exact⟨c,d,ds',rfl,h1,agR h2 k1,aeU h3 k2⟩
structure Given(X:Ctx)(base:Nat)(U:Nat->Prop)(w:World)(f:FuncId)(args:List V)(cells:List Cell)(gargs nG:List Value)(N1 N2:List Nat):Prop where
 nd:(N1++N2).Nodup
 lt:∀b,b∈N1++N2->b<w.heap.size/\base<=b/\U b
 up:∀b,w.heap.size<=b->U b
 bs:base<=w.heap.size
 args:TU X.TI f (impμ nG) (wu 0 cells) (dO w) (view w U (· ∈N1++N2)) 0 args gargs N1
 cells:cellsB (dO w) (view w U (· ∈N1++N2)) cells nG N2
 gl:agq X (view w U (· ∈N1++N2))
structure Did(P:Program)(U:Nat->Prop)(w w':World)(N:List Nat)(ts:List TypeId)(cells outs:List Cell)(nG:List Value)(rows:List Row)(gs:List Value)(M1 M2:List Nat):Prop where
 keep:Keep N w w'
 nd:(M1++M2).Nodup
 mem:∀b,b∈M1++M2->(b∈N\/w.heap.size<=b)/\b<w'.heap.size
 kd:ar6 cells outs
 cells:cellsB (dO w') (view w' U (· ∈M1++M2)) outs nG M1
 res:VY P (dO w') (view w' U (· ∈M1++M2)) ts rows gs M2
def Sound(X:Ctx)(K:lN):Prop:=∀(f:FuncId) (fn:Func) (args:List V) (cells:List Cell) (rows:List Row) (outs:List Cell),X.P.funcs[f]? =some fn->fn.body.isSome=true->K f args cells=some (rows,outs)->
 ∀(base:Nat) (U:Nat->Prop) (w:World) (gargs nG:List Value) (N1 N2:List Nat),Given X base U w f args cells gargs nG N1 N2->
  Calls X.P f gargs.toArray w λe w'=>∃gs M1 M2,e=.returned (afl gs)/\Did X.P U w w' (N1++N2) fn.resultTypes.toList cells outs nG rows gs M1 M2
section
variable {base:Nat} {U:Nat->Prop} {M0:List Nat} {w0 w w':World} {m m':Mem} {G G':GS} {X:Ctx}
def Hu.outs(hg:Hu base U w m G){out:List Nat}(h:∀r,r∈G.out↔r∈out):Hu base U w m {G with out:=out}:=
 ⟨λr c hc ho=>hg.cell r c hc (λhx=>ho ((h r).1 hx)),hg.dj,hg.djE,hg.nd,hg.ndE,hg.lt,hg.up,hg.bs,hg.none_,λr hr=>hg.out_ r ((h r).2 hr)⟩
def At.first(hA:At base U M0 w0 w m G):(view w0 U (· ∈M0)).le (Gh U w G):=by
 intro b o v hv;obtain⟨h1,h2,h3⟩:=adl hv;have hb:b<w0.heap.size:=by
  simp only[World.cell?] at h3;cases ho:w0.heap[b]? with
  |none=>simp[ho] at h3
  |some x=>exact(Array.getElem?_eq_some_iff.1 ho).1
 have hk:=hA.fr.keep.block b hb h2;refine afW h1 (λhx=> ?_) ?_
 ·rcases hA.fr.fr b hx with h|h
  ·exact h2 h
  ·omega
 ·simp only[World.cell?] at h3|-;rw[hk];exact h3
structure aa4(X:Ctx)(K:lN)(U:Nat->Prop)(M0:List Nat)(w0:World):Prop where
 sound:Sound X K
 gl:agq X (view w0 U (· ∈M0))
def avs{K:lN}(hKG:aa4 X K U M0 w0)(hA:At base U M0 w0 w m G){fn dst f:Nat}{args:List V}{gargs:List Value}(hs:dh G.μ m (Gh U w G) args gargs){v:V}{l l':Log}(h:(abR X K fn dst f args).run m l=some (v,m',l')):
  (callFunc f gargs.toArray).run X.P w=.ok (.enter f gargs.toArray) w/\
  Calls X.P f gargs.toArray w λe w'=>∃g G',e=.returned g/\Nx base U M0 w0 w m G w' m' G'/\bn G'.μ m' (Gh U w' G') v g:=by
 have hK:=hKG.sound;simp only[abR] at h;obtain⟨g,hf,h⟩:=bop h;obtain⟨hbody,h⟩:=bck h;simp only[wo,Bool.not_eq_true'] at hbody;have hnone:g.body≠none:=by intro hb;simp[hb] at hbody
 have hnm : g.name ≠ "runtime.NumGoroutine" := by
  intro he;simp[he] at hbody
 refine⟨by simp[callFunc,hf,hnm,hnone], ?_⟩;generalize himp:SN X.TI f 0 [] args=imp at h;have hnd:imp.Nodup:=by rw[<-himp];exact aal _ _ _ _ _ (by simp)
 replace h:=ay h;obtain⟨args1,m1,l1,h1,h⟩:=h;obtain⟨G1,N1,t1,q1⟩:=aeD hA.ok hs hA.out h1;have hout1:G1.out=[]:=t1.out.trans hA.out;have hE1:G1.E=N1:=by rw[t1.E,hA.E];rfl
 replace h:=ay h;obtain⟨cells,m2,l2,h2,h⟩:=h;obtain⟨G2,N2,t2,q2,kd2⟩:=adk t1.ok hnd (λr hr=>⟨hr,by rw[hout1];simp⟩) (λr hr=>by rw[hout1] at hr;simp at hr) h2;have hout2:∀r,r∈G2.out↔r∈imp:=λr=>by rw[t2.out,hout1];simp
 have hE2:G2.E=N1++N2:=by rw[t2.E,hE1]
 have hkd:kinds m2 imp cells:=abW (λr hr=>t2.here r hr) kd2;have hq1:=VX (A:=X.TI) (f:=f) t2.le.mem t2.le.view (H':=dO w) (λ_ _=>rfl) q1;replace h:=ay h;obtain⟨⟨args2,Ri⟩,m3,l3,h3,h⟩:=h;have C:ar0 base U w m2 G2 imp cells:=⟨t2.ok,hout2,hkd⟩
 obtain⟨rfl,hq2⟩:=aeE C hq1 h3;have hq2:=hq2 Ri (λ_ hr=>hr);simp only at h;replace h:=ay h;obtain⟨_,m4,l4,h4,h⟩:=h;obtain⟨ar7,rfl,rfl⟩:=gV h4;have ar7:∀r,r∈Ri->r ∉ imp:=λr hr=>VW (List.all_eq_true.1 ar7 r hr)
 replace h:=ay h;obtain⟨⟨rows,outs⟩,m4,l4,h4,h⟩:=h;obtain⟨hKr,rfl,rfl⟩:=lV h4;simp only at h;obtain⟨hlen,h⟩:=bck h;have aEQ:Given X base (abX U G2 Ri) w f args2 cells gargs (imp.map G2.μ) N1 N2:=by
  refine⟨by rw[<-hE2];exact t2.ok.ndE, ?_, ?_,t2.ok.bs,by rw[<-hE2];exact hq2, ?_,by rw[<-hE2];exact PO WS (PO t2.le.view (PO t1.le.view (PO hA.first hKG.gl)))⟩
  ·intro b hb;rw[<-hE2] at hb;have:=t2.ok.lt b (.inl hb);exact⟨this.1,this.2.1,this.2.2,λr hr=>absurd hb (t2.ok.djE r b hr)⟩
  ·intro b hb;exact⟨t2.ok.up b hb,λr hr=>by have:=(t2.ok.lt b (.inr ⟨r,hr⟩)).1;omega⟩
  ·rw[<-hE2,t2.μ];exact Ro WS q2
 refine Calls.mono (hK f g args2 cells rows outs hf hbody.1 hKr base _ w gargs _ N1 N2 aEQ) ?_;rintro e w' ⟨gs,M1,M2,rfl,D⟩;have hkeep:Keep G2.E w w':=by rw[hE2];exact D.keep
 obtain⟨k3,v3⟩:=t2.ok.world hkeep (E':=M1++M2) D.nd (λb hb=>by rw[hE2];exact D.mem b hb);generalize aDK:(!(Ri.isEmpty) &&(ZG X.P (X.TI.att fn dst) 0 g.resultTypes.toList && imp.isEmpty))=need at h;obtain⟨hpure,h⟩:=bck h;replace h:=ay h;obtain⟨_,m4,l4,h4,h⟩:=h;have hL:∀r,r∈(bif need then[] else Ri)->r∈Ri:=by
  intro r hr;cases need with
  |true=>simp at hr
  |false=>exact hr
 obtain⟨F',k4,le4,f1,f2,f3⟩:=aj6 k3 (λr hr=>by show r ∉ G2.out;rw[hout2];exact ar7 r (hL r hr)) h4;replace h:=ay h;obtain⟨_,m5,l5,h5,h⟩:=h;have k4':=k4.outs (out:=imp) hout2;have aUM:kinds m4 imp (outs.drop 0):=by rw[List.drop_zero];exact abW (λr hr=>f3 r (λhx=>ar7 r (hL r hx) hr)) (aeU hkd D.kd)
 have aDL:need=false->(view w' (abX U G2 Ri) (· ∈M1++M2)).le (Gh U w' ⟨G2.μ,F',M1++M2,imp⟩):=by
  intro hn b o x hx;obtain⟨p1,p2,p3⟩:=adl hx;refine afW p1.1 ?_ p3;rintro(hb|⟨r,hb⟩)
  ·exact p2 hb
  ·have hb:b∈F' r:=hb;rcases f2 r with hr|hr
   ·rw[hr] at hb;simp at hb
   ·have:b∈G2.F r:=by rw[hr] at hb;exact hb
    have hrl:=p1.2 r this;have:=f1 r (by rw[hn];exact hrl);rw[this] at hb;simp at hb
 have hcells:cellsB (dO w') (Gh U w' ⟨G2.μ,F',M1++M2,imp⟩) (outs.drop 0) (imp.map G2.μ) M1:=by
  rw[List.drop_zero];cases need with
  |false=>exact Ro (aDL rfl) D.cells
  |true=>
   simp only[wo,List.isEmpty_iff] at aDK;have aH0:=aDK.2.2;subst aH0;have hc0:cells=[]:=by simpa[kinds] using hkd
   subst hc0;have ho0:outs=[]:=D.kd;subst ho0;exact D.cells
 have hres:VY X.P (dO w') (Gh U w' ⟨G2.μ,F',M1++M2,imp⟩) g.resultTypes.toList rows gs M2:=by
  cases need with
  |false=>exact TV (aDL rfl) (λ_ _=>rfl) D.res
  |true=>exact agE hpure D.res
 obtain⟨G5,c5⟩:=agG k4' hnd rfl aUM (N:=M1) (E:=M2) (List.Perm.refl _) hcells h5;replace h:=ay h;obtain⟨vs,m6,l6,h6,h⟩:=h;obtain⟨G6,c6,s6⟩:=akb (ri:=0) c5.ok (λr hr=>by rw[c5.out] at hr;simp at hr) (N:=M2) (E:=[]) (by rw[c5.E];simp) (by rw[List.drop_zero];exact TV c5.le.view (λ_ _=>rfl) hres) h6;have hm6:m'=m6/\bn G6.μ m6 (Gh U w' G6) v (afl gs):=by
  have aDM:=kE s6;split at h
  ·obtain⟨rfl,rfl,_⟩:=rpu h;obtain⟨g0,gs0,rfl,q1,q2⟩:=uD s6;simp only[dh] at q2;subst q2;exact⟨rfl,q1⟩
  ·rename_i hne;obtain⟨rfl,rfl,_⟩:=rpu h;refine⟨rfl, ?_⟩;unfold afl;split
   ·rename_i g0;cases vs with
    |nil=>simp at aDM
    |cons v0 vs=>
     cases vs with
     |nil=>exact absurd rfl (hne v0)
     |cons _ _=>simp at aDM
   ·simp only[bn];exact⟨_,rfl,by simpa using s6⟩
 obtain⟨rfl,WY⟩:=hm6;have aUN:∀b,excl G2.F G2.E b->excl G.F G.E b:=λb hb=>t1.le.ex b (t2.le.ex b hb)
 have hold:∀b,excl G2.F G2.E b->b∈M0\/w0.heap.size<=b:=λb hb=>hA.fr.fr b (aUN b hb)
 refine⟨afl gs,G6,rfl,⟨c6.ok,c6.E,c6.out.trans c5.out, ?_, ?_, ?_, ?_⟩,WY⟩
 ·have a1:=zy t1.le.mem t2.le.mem;have a2:=zy a1 le4.mem;exact zy (zy a2 c5.le.mem) c6.le.mem
 ·exact(((t1.le.view.trans' t2.le.view).trans' v3).trans' le4.view).trans' (c5.le.view.trans' c6.le.view)
 ·exact hA.fr.keep.trans hkeep (λx hx=>hold x (.inl hx))
 ·intro b hb;have hb:=c5.le.ex b (c6.le.ex b hb);rcases hb with hb|⟨r,hb⟩
  ·rcases(D.mem b hb).1 with h'|h'
   ·exact hold b (.inl (by rw[hE2];exact h'))
   ·exact .inr (Nat.le_trans hA.fr.keep.size h')
  ·have hb:b∈F' r:=hb;rcases f2 r with hr|hr
   ·have:F' r=[]:=hr;rw[this] at hb;simp at hb
   ·exact hold b (.inr ⟨r,by have:F' r=G2.F r:=hr;rw[<-this];exact hb⟩)
def aH1(P:Program)(w:World)(s:Sem Value):((do pure (.value (<-s))):Sem Next).run P w=(s.run P w).andThen λg w'=> .ok (.value g) w':=by simp only[Sem.run_bind,Sem.run_pure]
def Pv{o:Oper}{a:Act}{next:Act->World->Prop}{Q:Exit->Act->World->Prop}{s:Sem Value}{v:V}
  (he:(execOp a.eval o).run X.P w=((do pure (.value (<-s))):Sem Next).run X.P w) (h:MP base U M0 w0 w m G X.P s v m')
  (hn:∀g w' G',Nx base U M0 w0 w m G w' m' G'->bn G'.μ m' (Gh U w' G') v g->next (a.put o.dst g) w'):o.wp X.P a w next Q:=by
 obtain⟨g,w',G',hr,hx,hs⟩:=h;exact Ua (by rw[he,aH1,hr];rfl) (hn g w' G' hx hs)
def aqR{P:Program}{tm:lX}{xs:List Operand}{ts:List TypeId}{a:V}(h:zk P tm xs ts=[a]):∃x,xs=[x]/\a=ev P tm (ts.headD 0) x:=by
 cases xs with
 |nil=>simp[zk] at h
 |cons x xs=>
  cases xs with
  |nil=>simp only[zk,List.cons.injEq,and_true] at h;exact⟨x,rfl,h.symm⟩
  |cons _ _=>simp[zk] at h
def aa5{P:Program}{tm:lX}{xs:List Operand}{ts:List TypeId}{a b:V}(h:zk P tm xs ts=[a,b]):∃x y,xs=[x,y]/\a=ev P tm (ts.headD 0) x/\b=ev P tm (ts.tail.headD 0) y:=by
 cases xs with
 |nil=>simp[zk] at h
 |cons x xs=>
  cases xs with
  |nil=>simp[zk] at h
  |cons y xs=>
   cases xs with
   |nil=>simp only[zk,List.cons.injEq,and_true] at h;exact⟨x,y,rfl,h.1.symm,h.2.symm⟩
   |cons _ _=>simp[zk] at h
def V3{α:Type}{a:Array α}{l:List α}(h:a.toList=l):a=l.toArray:=by rw[<-h]
def aER(hg:agq X (Gh U w G)){tm:lX}{a:Act}(hT:ab1 G.μ m (Gh U w G) tm a)(t:TypeId)(x:Operand):bn G.μ m (Gh U w G) (evG X tm t x) (a.eval x):=by
 cases x with
 |global g=>
  simp only[evG];cases hr:X.glob g with
  |none=>simp[bn]
  |some row=>simp only[bn];exact⟨g,0,rfl,hg.row g row hr⟩
 |tmp i=>exact Yw (P:=X.P) hT t (.tmp i)
 |const v=>exact Yw (P:=X.P) hT t (.const v)
 |func f=>exact Yw (P:=X.P) hT t (.func f)
def aES{K:lN}(hK:aa4 X K U M0 w0)(hA:At base U M0 w0 w m G){fn:Nat}{tm:lX}{a:Act}(hT:ab1 G.μ m (Gh U w G) tm a){o:Oper}{v:V}{l l':Log}(h:(vop X K fn tm o).run m l=some (v,m',l'))
  {next:Act->World->Prop} {Q:Exit->Act->World->Prop} (hn:∀g w' G',Nx base U M0 w0 w m G w' m' G'->bn G'.μ m' (Gh U w' G') v g->next (a.put o.dst g) w'):o.wp X.P a w next Q:=by
 have E:=λt x=>Yw (P:=X.P) hT t x
 have EG:=λt x=>aER (PO hA.first hK.gl) hT t x
 unfold vop at h;simp only at h;split at h
 ·rename_i x hop;obtain⟨rfl,rfl,_⟩:=rpu h;exact Ua (by simp[execOp,hop]) (hn _ _ _ hA.nx (E _ x))
 ·rename_i x hop;obtain⟨rfl,rfl,_⟩:=rpu h;exact Ua (by simp[execOp,hop]) (hn _ _ _ hA.nx (E _ x))
 ·rename_i c x y hop;refine Pv ?_ (avq hA (E _ c) (E _ x) (E _ y) h) hn;simp[execOp,hop]
 ·rename_i T hop;obtain⟨z,hz,h⟩:=bop h;replace h:=ay h;obtain⟨u,m2,l2,h2,h⟩:=h;obtain⟨rfl,rfl,_⟩:=rpu h;refine Pv ?_ (avl hA hz h2) hn;simp[execOp,hop]
 ·rename_i T x hop;obtain⟨hsz,h⟩:=bck h;obtain⟨hone,h⟩:=bck h;replace h:=ay h;obtain⟨u,m2,l2,h2,h⟩:=h;obtain⟨rfl,rfl,_⟩:=rpu h;refine Pv ?_ (aEM hA (E T x) hone h2) hn;simp[execOp,hop]
 ·rename_i T ps hop;refine Pv ?_ (ata hA hT h) hn;simp[execOp,hop]
 ·rename_i t n ps hop;refine Pv ?_ (agM hA hT h) hn;simp[execOp,hop]
 ·rename_i t x hop;obtain⟨g,hr,rfl,hs⟩:=avj hA (EG 0 x) h;refine Pv ?_ (MP.same hA hr hs) hn;simp[execOp,hop]
 ·rename_i t x y hop;replace h:=ay h;obtain⟨u,m1,l1,h1,h⟩:=h;obtain⟨rfl,rfl,_⟩:=rpu h;obtain⟨w',G',hr,hx⟩:=as8 hA (E 0 x) (E t y) h1;refine wp_skip (w':=w') ?_ (hn _ _ _ hx trivial);simp[execOp,hop,hr]
 ·rename_i x hop;have hE:=EG o.type x;have key:∀{b:Nat} {q:Nat},a.eval x=.pointer (some ⟨b,q,none⟩)->v=evG X tm o.type x->m'=m->o.wp X.P a w next Q:=by intro b q hx hv hm;subst hm;refine Ua (g:=a.eval x) ?_ (hn _ _ _ hA.nx (by rw[hv];exact hE));simp[execOp,hop,hx]
  split at h
  ·rename_i r off hv;simp only[run_pure,lM,qU] at h;rw[hv] at hE key;obtain⟨b,q,hp⟩:=hE.1;exact key hp h.1.symm h.2.1.symm
  ·rename_i row off hv;simp only[run_pure,lM,qU] at h;rw[hv] at hE key;obtain⟨b,q,hp,_⟩:=hE;exact key hp h.1.symm h.2.1.symm
  ·rename_i r ver i off hv;simp only[run_pure,lM,qU] at h;rw[hv] at hE key;obtain⟨b,q,hp⟩:=hE.1;exact key hp h.1.symm h.2.1.symm
  ·exact aN h
 ·rename_i op t x y t' hop;refine Pv ?_ (azg (ox:=x) (oy:=y) hA (E t x) (E t' y) h) hn;simp[execOp,hop]
 ·rename_i op t x hop;refine Pv ?_ (aHZ hA (E t x) h) hn;simp[execOp,hop]
 ·rename_i s d x hop;refine Pv ?_ (anq hA (E s x) h) hn;simp[execOp,hop]
 ·rename_i t x lo hi hop;have gen:(alz X.P t (evG X tm t x) (lo.map (ev X.P tm 3)) (hi.map (ev X.P tm 3))).run m l=some (v,m',l')->o.wp X.P a w next Q:=by
   intro h;refine Pv ?_ (ate (glo:=lo.map a.eval) (ghi:=hi.map a.eval) hA (EG _ x) ?_ ?_ h) hn
   ·simp[execOp,hop]
   ·cases lo with
    |none=>rfl
    |some x=>exact⟨_,rfl,E _ x⟩
   ·cases hi with
    |none=>rfl
    |some x=>exact⟨_,rfl,E _ x⟩
  cases ht:X.TI.trunc fn (o.dst.getD 0) with
  |false=>rw[ht] at h;exact gen h
  |true=>
   rw[ht] at h;cases lo with
   |some z=>
    cases hi with
    |some _=>exact gen h
    |none=>refine Pv ?_ (avp hA (E _ x) (E _ z) h) hn;simp[execOp,hop]
   |none=>
    refine Pv ?_ (atf (ghi:=hi.map a.eval) hA (E _ x) ?_ h) hn
    ·simp[execOp,hop]
    ·cases hi with
     |none=>rfl
     |some x=>exact⟨_,rfl,E _ x⟩
 ·rename_i T x f hop;refine Pv ?_ (ajf hA (E _ x) h) hn;simp[execOp,hop]
 ·rename_i T x f hop;refine Pv ?_ (atb hA (E _ x) h) hn;simp[execOp,hop]
 ·rename_i t x i hop;refine Pv ?_ (ajh hA (EG _ x) (E _ i) h) hn;simp[execOp,hop]
 ·rename_i t x i hop;refine Pv ?_ (atc hA (E _ x) (E _ i) h) hn;simp[execOp,hop]
 ·rename_i x i hop;split at h
  ·rename_i vs hv;obtain⟨hi,rfl,rfl⟩:=lV h;have hE:=E 0 x;rw[hv] at hE;simp only[bn] at hE;obtain⟨arr,ha,hs⟩:=hE;obtain⟨g,hg,hq⟩:=avr hs hi;refine Ua (g:=g) ?_ (hn _ _ _ hA.nx hq);simp[execOp,hop,ha,Instr.extract,hg]
  ·exact aN h
 ·rename_i f args tys hop;split at h
  ·rename_i g first caps hv
   have hE:=E 0 f;rw[hv] at hE;simp only[bn] at hE;obtain⟨fa,ca,hf,hs1,hs2⟩:=hE;have hargs:=NJ (NJ hs1 (akg (P:=X.P) hT args.toList tys.toList)) hs2;obtain⟨he,hc⟩:=avs hK hA hargs h;have harr:(fa.toList++args.toList.map a.eval++ca.toList).toArray=fa++args.map a.eval++ca:=by apply Array.ext';simp
   rw[harr] at he hc;unfold Oper.wp;have hrun:(execOp a.eval o).run X.P w=.ok (.enter g (fa++args.map a.eval++ca)) w:=by simp only[execOp,hop,resolve,hf,Deferred.ofValue,Sem.run_bind,Sem.run_pure,Result.andThen_ok,invoke,he]
   rw[hrun,Oper.upon_enter];refine Calls.mono hc ?_;rintro e w' ⟨g',G',rfl,hx,hq⟩;exact hn g' w' G' hx hq
  ·exact aN h
 ·rename_i args tys hop;split at h
  ·rename_i x hx;obtain⟨ox,hxs,rfl⟩:=aqR hx;obtain⟨hk,h⟩:=bck h;have hx0:=E (tys.toList.headD 0) ox;unfold aHM at hk;split at hk
   ·rename_i t ht;have hxs:=V3 hxs;have hts:=V3 ht;refine Pv (s:=Builtin.len_ #[t] o.type #[a.eval ox]) ?_ (azd hA hx0 ?_ ?_ h) hn
    ·simp[execOp,hop,resolve,invoke,builtin,hxs,hts]
    ·intro s hs;rw[hs] at hk;simp only at hk;cases hu:X.P.underlying t with
     |none=>rw[hu] at hk;cases hk
     |some d=>rw[hu] at hk;cases d<;>simp at hk;rfl
    ·intro hs;split at hk
     ·rename_i s hv;exact absurd hv (hs s)
     ·cases hu:X.P.underlying t with
      |none=>rw[hu] at hk;cases hk
      |some d=>rw[hu] at hk;cases d<;>simp at hk;exact⟨_,rfl⟩
   ·cases hk
  ·exact aN h
 ·rename_i args tys hop;split at h
  ·rename_i x y t t' hxy ht;obtain⟨ox,oy,hxs,rfl,rfl⟩:=aa5 hxy;have hxs:=V3 hxs;have hts:=V3 ht;refine Pv (s:=Builtin.append_ #[t,t'] o.type #[a.eval ox,a.eval oy]) ?_ (aqN hA (E _ ox) (E _ oy) h) hn;simp[execOp,hop,resolve,invoke,builtin,hxs,hts]
  ·exact aN h
 ·rename_i args tys hop;split at h
  ·rename_i k x k' y hxy;obtain⟨ox,oy,hxs,h1,h2⟩:=aa5 hxy;have hxs:=V3 hxs;have e1:=E (tys.toList.headD 0) ox;have e2:=E (tys.toList.tail.headD 0) oy;rw[<-h1] at e1;rw[<-h2] at e2;simp only[bn,ro] at e1 e2;obtain⟨rfl,rfl,_⟩:=rpu h;refine Ua (g:=.int k (bif decide (x<y) then y else x)) ?_ (hn _ _ _ hA.nx (by simp[bn,ro]))
   by_cases hlt:x<y<;>simp[execOp,hop,resolve,invoke,builtin,hxs,e1,e2,Builtin.max_,Builtin.max2,hlt]
  ·exact aN h
 ·rename_i args tys hop;split at h
  ·rename_i k x k' y hxy;obtain⟨ox,oy,hxs,h1,h2⟩:=aa5 hxy;have hxs:=V3 hxs;have e1:=E (tys.toList.headD 0) ox;have e2:=E (tys.toList.tail.headD 0) oy;rw[<-h1] at e1;rw[<-h2] at e2;simp only[bn,ro] at e1 e2;obtain⟨rfl,rfl,_⟩:=rpu h;refine Ua (g:=.int k (bif decide (y<x) then y else x)) ?_ (hn _ _ _ hA.nx (by simp[bn,ro]))
   by_cases hlt:y<x<;>simp[execOp,hop,resolve,invoke,builtin,hxs,e1,e2,Builtin.min_,Builtin.min2,hlt]
  ·exact aN h
 ·exact aN h
end
def atl{α:Type}(A:Acc α):∀{m:Mem} {l:Log} {v:α} {m':Mem} {l':Log},A.run m l=some (v,m',l')->
  ∃R W,l'=⟨R++l.r,W++l.w⟩/\(∀k,k ∉ W->get k m'=get k m)/\
   ∀m2 l2,(∀k,k∈R->get k m2=get k m)->∃m2',A.run m2 l2=some (v,m2',⟨R++l2.r,W++l2.w⟩)/\(∀k,k∈W->get k m2'=get k m')/\(∀k,k ∉ W->get k m2'=get k m2):=by
 induction A with
 |ret a=>intro m l v m' l' h;simp only[Acc.run,lM,qU] at h;obtain⟨rfl,rfl,rfl⟩:=h;exact⟨[],[],rfl,λ_ _=>rfl,λm2 l2 _=>⟨m2,rfl,λ_ h=>by simp at h,λ_ _=>rfl⟩⟩
 |fail=>intro m l v m' l' h;simp[Acc.run] at h
 |get k c ih=>intro m l v m' l' h;simp only[Acc.run] at h;obtain⟨R,W,e,h1,h2⟩:=ih _ h;refine⟨R++[k],W,by rw[e];simp[Log.rd],h1,λm2 l2 hm=> ?_⟩;obtain⟨m2',q1,q2,q3⟩:=h2 m2 (l2.rd k) (λj hj=>hm j (by simp[hj]));refine⟨m2', ?_,q2,q3⟩;simp only[Acc.run];rw[hm k (by simp),q1];simp[Log.rd]
 |set k x c ih=>
  intro m l v m' l' h;simp only[Acc.run] at h;obtain⟨R,W,e,h1,h2⟩:=ih h;refine⟨R,W++[k],by rw[e];simp[Log.wr],λj hj=> ?_,λm2 l2 hm=> ?_⟩
  ·simp only[List.mem_append,List.mem_singleton,not_or] at hj;rw[h1 j hj.1,nO hj.2]
  ·obtain⟨m2',q1,q2,q3⟩:=h2 (put k x m2) (l2.wr k) (λj hj=>by
    rw[get_put,get_put];split
    ·rfl
    ·exact hm j hj)
   refine⟨m2', ?_,λj hj=> ?_,λj hj=> ?_⟩
   ·simp only[Acc.run];rw[q1];simp[Log.wr]
   ·by_cases hw:j∈W
    ·exact q2 j hw
    ·have hjk:j=k:=by simpa[hw] using hj
     subst hjk;rw[q3 j hw,h1 j hw,kD,kD]
   ·simp only[List.mem_append,List.mem_singleton,not_or] at hj;rw[q3 j hj.1,nO hj.2]
 |opt o c ih=>
  intro m l v m' l' h;cases o with
  |none=>simp[Acc.run] at h
  |some b=>simp only[Acc.run] at h;obtain⟨R,W,e,h1,h2⟩:=ih _ h;exact⟨R,W,e,h1,λm2 l2 hm=>by simpa only[Acc.run] using h2 m2 l2 hm⟩
 |guard b c ih=>
  intro m l v m' l' h;cases b with
  |false=>simp[Acc.run] at h
  |true=>simp only[Acc.run] at h;obtain⟨R,W,e,h1,h2⟩:=ih h;exact⟨R,W,e,h1,λm2 l2 hm=>by simpa only[Acc.run] using h2 m2 l2 hm⟩
def V4{P:Program}{tm Vo:lX}{t:TypeId}{x:Operand}(h:∀i,x=.tmp i->get i tm=get i Vo):ev P tm t x=ev P Vo t x:=by
 cases x with
 |tmp i=>simp only[ev,ZV,h i rfl]
 |_=>rfl
def atm{X:Ctx}{tm Vo:lX}{t:TypeId}{x:Operand}(h:∀i,x=.tmp i->get i tm=get i Vo):evG X tm t x=evG X Vo t x:=by
 cases x with
 |global g=>rfl
 |tmp i=>exact V4 (P:=X.P) (t:=t) h
 |const v=>rfl
 |func f=>rfl
def ab7{P:Program}{tm Vo:lX}:∀{xs:List Operand} {ts:List TypeId},(∀x∈xs,∀i,x=.tmp i->get i tm=get i Vo)->zk P tm xs ts=zk P Vo xs ts
 |[],_,_=>rfl
 |x::xs,ts,h=>by simp only[zk];rw[V4 (h x (by simp)),ab7 λy hy=>h y (by simp[hy])]
def V5{P:Program}{T:TypeId}{tm Vo:lX}:∀{ps:List (Nat×Operand)} {cs:List V},(∀x∈ps,∀i,x.2=.tmp i->get i tm=get i Vo)->yI P T tm ps cs=yI P T Vo ps cs
 |[],_,_=>rfl
 |(f,x)::ps,cs,h=>by
  simp only[yI];have e:∀t,ev P tm t x=ev P Vo t x:=λt=>V4 (h (f,x) (by simp))
  have r:∀cs,yI P T tm ps cs=yI P T Vo ps cs:=λcs=>V5 λy hy=>h y (by simp[hy])
  simp only[e,r]
def UW{P:Program}{e:TypeId}{tm Vo:lX}:∀{ps:List (Nat×Operand)} {cs:List V},(∀x∈ps,∀i,x.2=.tmp i->get i tm=get i Vo)->vG P e tm ps cs=vG P e Vo ps cs
 |[],_,_=>rfl
 |(f,x)::ps,cs,h=>by
  simp only[vG];have e1:ev P tm e x=ev P Vo e x:=V4 (h (f,x) (by simp));have r:∀cs,vG P e tm ps cs=vG P e Vo ps cs:=λcs=>UW λy hy=>h y (by simp[hy])
  simp only[e1,r]
def V6{P:Program}{T:TypeId}{tm Vo:lX}:∀{ps:List (Nat×Operand)} {k:Nat},(∀x∈ps,∀i,x.2=.tmp i->get i tm=get i Vo)->yJ P T tm k ps=yJ P T Vo k ps
 |[],_,_=>rfl
 |(f,x)::ps,k,h=>by
  simp only[yJ];have e:∀t,ev P tm t x=ev P Vo t x:=λt=>V4 (h (f,x) (by simp))
  have r:∀k,yJ P T tm k ps=yJ P T Vo k ps:=λk=>V6 λy hy=>h y (by simp[hy])
  simp only[e,r]
def atn{X:Ctx}{K:lN}{fn:Nat}{tm Vo:lX}{o:Oper}(h:∀x∈o.op.operands,∀i,x=.tmp i->get i tm=get i Vo):vop X K fn tm o=vop X K fn Vo o:=by
 obtain⟨dst,op,type,pos,after,guard⟩:=o;have e:∀{x:Operand} (t:TypeId),x∈op.operands->ev X.P tm t x=ev X.P Vo t x:=λt hx=>V4 (h _ hx)
 have eG:∀{x:Operand} (t:TypeId),x∈op.operands->evG X tm t x=evG X Vo t x:=λt hx=>atm (h _ hx)
 cases op<;>simp only[vop]
 case call c=>
  obtain⟨callee,args,tys⟩:=c;have ea:∀ts,zk X.P tm args.toList ts=zk X.P Vo args.toList ts:=λts=>ab7 λx hx=>h x (by
   simp only[Op.operands,Call.operands];have hx':x∈args:=by simpa using hx
   cases callee<;>simp[hx'])
  cases callee with
  |value f=>simp only[ea,e (x:=f) 0 (by simp[Op.operands,Call.operands])]
  |invoke r m=>rfl
  |builtin b=>cases b<;>simp only[ea]
 case build t ps=>
  simp only[alB,aqB,alA];have:∀cs,yI X.P t tm ps.toList cs=yI X.P t Vo ps.toList cs:=λcs=>V5 λx hx=>h x.2 (by simp only[Op.operands];simp;exact⟨x.1,by simpa using hx⟩)
  have aH2:∀e cs,vG X.P e tm ps.toList cs=vG X.P e Vo ps.toList cs:=λe cs=>UW λx hx=>h x.2 (by simp only[Op.operands];simp;exact⟨x.1,by simpa using hx⟩)
  simp only[this,aH2]
 case buildSlice t n ps=>
  simp only[UN];have:∀e,yJ X.P e tm 0 ps.toList=yJ X.P e Vo 0 ps.toList:=λe=>V6 λx hx=>h x.2 (by simp only[Op.operands];simp;exact⟨x.1,by simpa using hx⟩)
  simp only[this]
 case load t x=>rw[eG 0 (by simp[Op.operands])]
 case nilCheck x=>rw[eG type (by simp[Op.operands])]
 case indexAddr t x i=>rw[eG t (by simp[Op.operands]),e 3 (x:=i) (by simp[Op.operands])]
 case slice t x lo hi mx=>
  cases mx with
  |some _=>rfl
  |none=>
   simp only;rw[eG t (by simp[Op.operands]),e t (x:=x) (by simp[Op.operands])];generalize X.TI.trunc fn (dst.getD 0)=b;cases lo with
   |none=>cases hi with
    |none=>cases b<;>rfl
    |some y=>cases b<;>simp only[Ht,Option.map_none,e 3 (x:=y) (by simp[Op.operands])]
   |some z=>cases hi with
    |none=>cases b<;>simp only[Ht,Option.map_none,e 3 (x:=z) (by simp[Op.operands])]
    |some y=>cases b<;>simp only[Ht,Option.map_none,e 3 (x:=y) (by simp[Op.operands]),e 3 (x:=z) (by simp[Op.operands])]
 all_goals first
  |rfl
  |(simp only[e _ (by simp[Op.operands]:_∈Op.operands _)];done)
  |skip
 all_goals(simp only[Op.operands] at e;simp_all)
structure Rel(base:Nat)(U:Nat->Prop)(M0:List Nat)(w0:World)(ν:Nat->Value)(M:Mem)(nt:Nat)(w:World)(S:St)(G:GS)(a:Act):Prop where
 at_:At base U M0 w0 w S.mem G
 tm:ab1 G.μ S.mem (Gh U w G) S.tm a
 size:a.tmps.size=nt
 defers:a.defers=[]
 imp:Jc ν M G.μ S.mem
section
variable {base:Nat} {U:Nat->Prop} {M0:List Nat} {w0 w w':World} {ν:Nat->Value} {M:Mem} {nt:Nat} {S S':St} {G G':GS} {a:Act} {X:Ctx}
def ab8(a:Act)(dst:Option Tmp)(g:Value):(a.put dst g).tmps.size=a.tmps.size:=by cases dst<;>simp[Act.put]
def put_defers(a:Act)(dst:Option Tmp)(g:Value):(a.put dst g).defers=a.defers:=by cases dst<;>rfl
def Rel.put(R:Rel base U M0 w0 ν M nt w S G a){m':Mem}{v:V}{g:Value}{dst:Option Nat}(hx:Nx base U M0 w0 w S.mem G w' m' G')(hs:bn G'.μ m' (Gh U w' G') v g)(hd:Yl nt dst=true):
  Rel base U M0 w0 ν M nt w' ⟨ajb dst v S.tm,m'⟩ G' (a.put dst g):=by
 refine⟨hx.at_, ?_,by rw[ab8,R.size],by rw[put_defers,R.defers],zy R.imp hx.mem⟩;intro t u hu;cases dst with
 |none=>simp only[ajb] at hu;obtain⟨h1,h2⟩:=R.tm t u hu;exact⟨h1,hx.bn h2⟩
 |some d=>
  simp only[ajb] at hu;have hdn:d<nt:=by simpa[Yl] using hd
  rw[ab8];rw[get_put] at hu;split at hu
  ·rename_i htd;simp only[lM] at hu;subst hu htd;refine⟨by rw[R.size];exact hdn, ?_⟩;have:((a.put (some t) g).tmps).getD t undef=g:=by simp only[Act.put,Array.getD_eq_getD_getElem?];rw[Array.getElem?_setIfInBounds_self_of_lt (by rw[R.size];exact hdn)];rfl
   rw[this];exact hs
  ·rename_i htd;obtain⟨h1,h2⟩:=R.tm t u hu;refine⟨h1, ?_⟩;have:((a.put (some d) g).tmps).getD t undef=a.tmps.getD t undef:=by simp only[Act.put,Array.getD_eq_getD_getElem?];rw[Array.getElem?_setIfInBounds_ne (Ne.symm htd)]
   rw[this];exact hx.bn h2
def Rel.skip(R:Rel base U M0 w0 ν M nt w S G a)(dst:Option Nat):Rel base U M0 w0 ν M nt w ⟨ayZ dst S.tm,S.mem⟩ G (a.put dst Go.undef):=by
 refine⟨R.at_, ?_,by rw[ab8,R.size],by rw[put_defers,R.defers],R.imp⟩;intro t u hu;cases dst with
 |none=>exact R.tm t u hu
 |some d=>
  simp only[ayZ] at hu;rw[ay4] at hu;split at hu
  ·cases hu
  ·rename_i htd;obtain⟨h1,h2⟩:=R.tm t u hu;refine⟨by rw[ab8];exact h1, ?_⟩;have:((a.put (some d) Go.undef).tmps).getD t Go.undef=a.tmps.getD t Go.undef:=by simp only[Act.put,Array.getD_eq_getD_getElem?];rw[Array.getElem?_setIfInBounds_ne (Ne.symm htd)]
   rw[this];exact h2
def Rel.skip'(R:Rel base U M0 w0 ν M nt w S G a)(dst:Option Nat):Rel base U M0 w0 ν M nt w ⟨aex nt dst S.tm,S.mem⟩ G (a.put dst Go.undef):=by
 unfold aex;cases hd:Yl nt dst with
 |false=>exact R.skip dst
 |true=>exact R.put R.at_.nx (by simp only[bn,dh];exact⟨#[],rfl,rfl⟩) hd
def Rel.tms(R:Rel base U M0 w0 ν M nt w S G a){tm:lX}(h:∀t,get t tm=get t S.tm):Rel base U M0 w0 ν M nt w ⟨tm,S.mem⟩ G a:=
 ⟨R.at_,λt u hu=>R.tm t u (by rw[<-h t];exact hu),R.size,R.defers,R.imp⟩
def anr{t d:Nat}{x:V}{tm:lX}(h:ZV d tm=x)(hx:x≠.undef):get t (put d x tm)=get t tm:=by
 rw[get_put];split
 ·rename_i e;subst e;unfold ZV at h;cases hg:get t tm with
  |none=>rw[hg] at h;exact absurd h.symm hx
  |some v=>rw[hg] at h;simp at h;rw[h]
 ·rfl
def SQ{ops:Array Oper}{o:Oper}{b:Bool}{tm tm':lX}(h:F9 ops tm o=some (b,tm')):∀t,get t tm'=get t tm:=by
 intro t;unfold F9 at h;split at h
 ·simp only[lM,qU] at h;rw[h.2]
 ·split at h
  ·split at h
   ·split at h
    ·rename_i c he;split at h
     all_goals
      simp only[lM,qU] at h;rw[<-h.2];exact anr he (by simp)
    ·rename_i vs he;split at h
     ·simp only[lM,qU] at h;rw[<-h.2];exact anr he (by simp)
     ·cases h
    ·cases h
   ·cases h
  ·cases h
def ato{ops:Array Oper}{o:Oper}{b:Bool}{tm':lX}(R:Rel base U M0 w0 ν M nt w S G a)(h:F9 ops S.tm o=some (b,tm')):Region.wanted o (yielded ops a.tmps)=b:=by
 unfold F9 at h;unfold Region.wanted;cases hg:o.guard with
 |none=>simp only[hg,lM,qU] at h;simpa using h.1
 |some jw=>
  obtain⟨j,want⟩:=jw;simp only[hg] at h|-;cases hj:ops[j]? with
  |none=>simp[hj] at h
  |some oj=>
   simp only[hj] at h;cases hd:oj.dst with
   |none=>simp[hd] at h
   |some d=>
    simp only[hd] at h;unfold ZV at h;cases ht:get d S.tm with
    |none=>simp[ht] at h
    |some v=>
     simp only[ht] at h;obtain⟨h1,h2⟩:=R.tm d v ht;cases v with
     |d x=>
      cases x with
      |bool c=>
       simp only[bn,ro] at h2;have hy:yielded ops a.tmps j=some c:=by
        simp only[yielded,hj,Option.bind_some,hd];have:a.tmps[d]? =some (.bool c):=by rw[<-h2,Array.getD_eq_getD_getElem?,Array.getElem?_eq_getElem h1];rfl
        rw[this]
       rw[hy];cases c<;>simp only[lM,qU] at h<;>obtain⟨rfl,_⟩:=h<;>cases want<;>rfl
      |_=>simp at h
     |XH vs=>
      cases vs with
      |cons _ _=>simp at h
      |nil=>
       simp only[lM,qU] at h;simp only[bn,dh] at h2;obtain⟨arr,h3,h4⟩:=h2;have hy:yielded ops a.tmps j=none:=by
        simp only[yielded,hj,Option.bind_some,hd];have:a.tmps[d]? =some (.tuple arr):=by rw[<-h3,Array.getD_eq_getD_getElem?,Array.getElem?_eq_getElem h1];rfl
        rw[this]
       rw[hy,<-h.1];rfl
     |_=>simp at h
def ant{K:lN}(hK:aa4 X K U M0 w0){fn:Nat}(hnt:XY X.P fn=nt)(R:Rel base U M0 w0 ν M nt w S G a){ops:Array Oper}{i:Nat}{lg:Log}(h:Ea X K fn ops i S=some (S',lg))
  {next:Act->World->Prop} {Q:Exit->Act->World->Prop} (hn:∀w' G' a',Rel base U M0 w0 ν M nt w' S' G' a'->(Gh U w G).le (Gh U w' G')->next a' w'):wpOp X.P ops Q i next a w:=by
 unfold Ea at h;unfold wpOp;cases ho:ops[i]? with
 |none=>simp[ho] at h
 |some o=>
  simp only[ho] at h|-;cases hw:F9 ops S.tm o with
  |none=>simp[hw] at h
  |some bt=>
   obtain⟨b,tm⟩:=bt;rw[ato R hw];have R':=R.tms (SQ hw);cases b with
   |false=>simp only[hw,lM,qU] at h;obtain⟨rfl,rfl⟩:=h;simp only[Bool.false_eq_true,if_false];exact hn _ _ _ (hnt ▸ R'.skip' o.dst) (View.le_refl _)
   |true=>
    simp only[hw] at h;simp only[if_true];cases hv:(vop X K fn tm o).run S.mem .none with
    |none=>simp[hv] at h
    |some r=>
     obtain⟨v,m',l⟩:=r;simp only[hv] at h;cases hd:Yl (XY X.P fn) o.dst with
     |false=>simp[hd] at h
     |true=>simp only[hd,aJ,lM,qU] at h;obtain⟨rfl,rfl⟩:=h;rw[hnt] at hd;exact .inl (aES hK R'.at_ R'.tm hv λg w' G' hx hs=>hn w' G' _ (R'.put hx hs hd) hx.view)
def agS{K:lN}(hK:aa4 X K U M0 w0){fn:Nat}(hnt:XY X.P fn=nt){ops:Array Oper}{Q:Exit->Act->World->Prop}{rest:List Nat}:∀{is:List Nat} {w:World} {S S':St} {G:GS} {a:Act} {L L':List (Nat×Log)}
  (_:Rel base U M0 w0 ν M nt w S G a) (_:MK X K fn ops is S L=some (S',L')) (_:∀w' G' a',Rel base U M0 w0 ν M nt w' S' G' a'->(Gh U w G).le (Gh U w' G')->wpOps X.P ops Q rest a' w'),wpOps X.P ops Q (is++rest) a w
 |[],w,S,S',G,a,L,L',R,h,hn=>by simp only[MK,lM,qU] at h;obtain⟨rfl,rfl⟩:=h;exact hn w G a R (View.le_refl _)
 |i::is,w,S,S',G,a,L,L',R,h,hn=>by
  rw[zca,wpOps_cons];simp only[MK] at h;cases h1:Ea X K fn ops i S with
  |none=>simp[h1] at h
  |some r=>obtain⟨S1,l1⟩:=r;simp only[h1] at h;exact ant hK hnt R h1 λw1 G1 a1 R1 v1=>agS hK hnt R1 h λw' G' a' R' v'=>hn w' G' a' R' (v1.trans' v')
def atp{K:lN}(hK:aa4 X K U M0 w0){fn:Nat}(hnt:XY X.P fn=nt){ops:Array Oper}{Q:Exit->Act->World->Prop}{is:List Nat}{w:World}{S S':St}{G:GS}{a:Act}{L L':List (Nat×Log)}
  (R:Rel base U M0 w0 ν M nt w S G a) (h:MK X K fn ops is S L=some (S',L')) (hn:∀w' G' a',Rel base U M0 w0 ν M nt w' S' G' a'->(Gh U w G).le (Gh U w' G')->Q .normal a' w'):wpOps X.P ops Q is a w:=by
 have:=agS (rest:=[]) hK hnt R h hn
 rwa [List.append_nil] at this
end
def Xc{k:Nat}{c:Cell}{m:Mem}(h:sortedK ((k,c)::m)=true):sortedK m=true:=by
 cases m with
 |nil=>rfl
 |cons x m=>obtain⟨j,d⟩:=x;simp only[sortedK,wo] at h;exact h.2
def agT:∀{m:Mem} {k:Nat} {c:Cell},sortedK ((k,c)::m)=true->∀j d,(j,d)∈m->k<j
 |[],_,_,_,_,_,h=>by simp at h
 |(i,e)::m,k,c,h,j,d,hm=>by
  have h':=h;simp only[sortedK,wo] at h;have hki:k<i:=Nat.le_of_ble_eq_true h.1;simp only[List.mem_cons,qU] at hm;rcases hm with⟨rfl,_⟩|hm
  ·exact hki
  ·exact Nat.lt_trans hki (agT (Xc h') j d hm)
def get_mem{α:Type}{k:Nat}{x:α}:∀{l:List (Nat×α)},get k l=some x->(k,x)∈l
 |[],h=>by simp[get] at h
 |(j,y)::l,h=>by
  simp only[get] at h;cases hb:Nat.beq k j with
  |true=>rw[hb] at h;simp only[aJ,lM] at h;have:=Ia hb;simp[this,h]
  |false=>rw[hb] at h;exact zmm _ (get_mem h)
def get_none{α:Type}{k:Nat}:∀{l:List (Nat×α)},(∀x,(k,x) ∉ l)->get k l=none
 |[],_=>rfl
 |(j,y)::l,h=>by
  have hne:k≠j:=λe=>h y (by simp[e])
  simp only[get,zV hne,aW];exact get_none λx hx=>h x (zmm _ hx)
def live:Cell->Bool
 | .dead=>false
 |_=>true
def YB{all:Mem}{R:List Nat}{k:Nat}:∀{m:Mem},sortedK m=true->∀c',get k (BK all R m)=some c'↔∃c,get k m=some c/\live c=true/\k∈R/\c'=ND all c
 |[],_,c'=>by simp[BK,get]
 |(j,c)::m,hs,c'=>by
  have ih:=YB (all:=all) (R:=R) (k:=k) (Xc hs) c';have hlt:=agT hs
  by_cases hkj:k=j
  ·subst hkj;have hnone:get k m=none:=get_none λx hx=>Nat.lt_irrefl _ (hlt k x hx)
   have hnone':get k (BK all R m)=none:=by
    cases hg:get k (BK all R m) with
    |none=>rfl
    |some c2=>obtain⟨c3,h3,_⟩:=(YB (all:=all) (R:=R) (k:=k) (Xc hs) c2).1 hg;rw[hnone] at h3;cases h3
   have hget:get k ((k,c)::m)=some c:=by simp[get]
   rw[hget];cases c with
   |dead=>simp[BK,hnone',live]
   |box t cs=>
    cases hm:mem? k R with
    |true=>
     have:=(NI k R).1 hm;simp only[BK,hm,aJ];rw[show∀(x:Cell) l,get k ((k,x)::l)=some x from λx l=>by simp[get]];constructor
     ·intro h;exact⟨_,rfl,rfl,this,(Option.some.inj h).symm⟩
     ·rintro⟨c,h1,_,_,rfl⟩;cases h1;rfl
    |false=>
     have hn:k ∉ R:=λh=>by rw[(NI k R).2 h] at hm;cases hm
     simp[BK,hm,hnone',hn]
   |arr fz fl ver s rows=>
    cases hm:mem? k R with
    |true=>
     have:=(NI k R).1 hm;simp only[BK,hm,aJ];rw[show∀(x:Cell) l,get k ((k,x)::l)=some x from λx l=>by simp[get]];constructor
     ·intro h;exact⟨_,rfl,rfl,this,(Option.some.inj h).symm⟩
     ·rintro⟨c,h1,_,_,rfl⟩;cases h1;rfl
    |false=>
     have hn:k ∉ R:=λh=>by rw[(NI k R).2 h] at hm;cases hm
     simp[BK,hm,hnone',hn]
  ·have hget:get k ((j,c)::m)=get k m:=by simp[get,zV hkj]
   rw[hget,<-ih];cases c with
   |dead=>simp[BK]
   |box t cs=>cases hm:mem? j R<;>simp[BK,hm,get,zV hkj]
   |arr fz fl ver s rows=>cases hm:mem? j R<;>simp[BK,hm,get,zV hkj]
def Ue:∀(as l:List Nat) (x:Nat),x∈l\/x∈as->x∈aaS as l
 |[],l,x,h=>by simpa[aaS] using h
 |a::as,l,x,h=>by
  simp only[aaS];cases hm:mem? a l with
  |true=>
   have:=(NI a l).1 hm;refine Ue as l x ?_;rcases h with h|h
   ·exact .inl h
   ·simp only[List.mem_cons] at h;rcases h with rfl|h
    ·exact .inl this
    ·exact .inr h
  |false=>
   refine Ue as (a::l) x ?_;simp only[List.mem_cons] at h|-;rcases h with h|h|h
   ·exact .inl (.inr h)
   ·exact .inl (.inl h)
   ·exact .inr h
def akl(m:Mem):∀(n:Nat) (l:List Nat) (x:Nat),x∈l->x∈reach m n l
 |0,_,_,h=>h
 |n+1,l,x,h=>akl m n _ x (Ue _ _ _ (.inl h))
def alK{μ:Nat->Value}{m m2:Mem}{h:View}{R:List Nat}(hm:∀r c,get r m=some c->live c=true->r∈R->get r m2=some (ND m c)):
  ∀(v:V) (g:Value),bn μ m h v g->(∀r,r∈refs (aaQ m v)->r∈R)->bn μ m2 h (aaQ m v) g
 | .d x,g,q,_=>q
 | .nil s,g,q,_=>q
 | .own r ver,g,q,hr=>by
  simp only[bn] at q;simp only[aaQ] at hr|-;cases hc:get r m with
  |none=>simp[hc] at q
  |some c=>
   rw[hc] at hr;cases c with
   |box _ _=>simp[bn]
   |dead=>simp[bn]
   |arr fz fl tZ s rows=>
    simp only[hc] at q;simp only at hr|-;cases hb:Nat.beq ver tZ with
    |false=>simp[bn]
    |true=>rw[hb] at hr;have hv:=Ia hb;have:=hm r _ hc rfl (hr r (by simp[refs]));simp only[aJ,bn,this,ND];exact⟨q.1,Nat.le_refl _,λ_=>q.2.2 hv⟩
 | .ptr r off,g,q,hr=>by
  simp only[bn] at q;simp only[aaQ] at hr|-;cases hc:get r m with
  |none=>simp[hc] at q
  |some c=>
   rw[hc] at hr;cases c with
   |arr _ _ _ _ _=>simp[bn]
   |dead=>simp[bn]
   |box t cs=>simp only[hc] at q;have:=hm r _ hc rfl (hr r (by simp[refs]));simp only[bn,this,ND];exact q
 | .JI r ver i off,g,q,hr=>by
  simp only[bn] at q;simp only[aaQ] at hr|-;cases hc:get r m with
  |none=>simp[hc] at q
  |some c=>
   rw[hc] at hr;cases c with
   |box _ _=>simp[bn]
   |dead=>simp[bn]
   |arr fz fl tZ s rows=>
    simp only[hc] at q;simp only at hr|-;cases hb:Nat.beq ver tZ with
    |false=>simp[bn]
    |true=>rw[hb] at hr;have hv:=Ia hb;have:=hm r _ hc rfl (hr r (by simp[refs]));simp only[aJ,bn,this,ND];exact⟨q.1,Nat.le_refl _,λ_=>q.2.2 hv⟩
 | .F8 row off,g,q,_=>q
 | .clo f a b,g,q,hr=>by simp only[bn] at q;obtain⟨x,y,rfl,h1,h2⟩:=q;simp only[aaQ,refs] at hr;simp only[aaQ,bn];exact⟨x,y,rfl,V7 hm a _ h1 λr hx=>hr r (by simp[hx]),V7 hm b _ h2 λr hx=>hr r (by simp[hx])⟩
 | .agg cs,g,q,hr=>by simp only[bn] at q;obtain⟨x,rfl,h1⟩:=q;simp only[aaQ,refs] at hr;simp only[aaQ,bn];exact⟨x,rfl,V7 hm cs _ h1 hr⟩
 | .XH cs,g,q,hr=>by simp only[bn] at q;obtain⟨x,rfl,h1⟩:=q;simp only[aaQ,refs] at hr;simp only[aaQ,bn];exact⟨x,rfl,V7 hm cs _ h1 hr⟩
 | .undef,g,q,_=>q
where
 V7 {μ:Nat->Value} {m m2:Mem} {h:View} {R:List Nat} (hm:∀r c,get r m=some c->live c=true->r∈R->get r m2=some (ND m c)):
  ∀(vs:List V) (gs:List Value),dh μ m h vs gs->(∀r,r∈Qn (aaj m vs)->r∈R)->dh μ m2 h (aaj m vs) gs
 |[],gs,q,_=>q
 |v::vs,gs,q,hr=>by obtain⟨g,gs',rfl,h1,h2⟩:=uD q;simp only[aaj,Qn] at hr;simp only[aaj,dh];exact⟨g,gs',rfl,alK hm v g h1 λr hx=>hr r (by simp[hx]),V7 hm vs gs' h2 λr hx=>hr r (by simp[hx])⟩
def aa6{m:Mem}{tm:lX}{t:Nat}{v:V}:∀{ts:List Nat},get t (aaR m tm ts)=some v->∃u,get t tm=some u/\v=aaQ m u
 |[],h=>by simp[aaR,get] at h
 |i::ts,h=>by
  simp only[aaR] at h;cases hi:get i tm with
  |none=>rw[hi] at h;exact aa6 h
  |some u=>
   rw[hi] at h;simp only[get] at h;cases hb:Nat.beq t i with
   |true=>have:=Ia hb;subst this;rw[hb] at h;simp only[aJ,lM] at h;exact⟨u,hi,h.symm⟩
   |false=>rw[hb] at h;exact aa6 h
section
variable {base:Nat} {U:Nat->Prop} {M0:List Nat} {w0 w:World} {ν:Nat->Value} {M:Mem} {nt:Nat} {S S':St} {G:GS} {a:Act}
open Classical in
def atq(R:Rel base U M0 w0 ν M nt w S G a)(hM:∀r c,get r M=some c->PI r=true){ts:List Nat}(h:aqG ts S=some S'):
  ∃G',Rel base U M0 w0 ν M nt w S' G' a/\(Gh U w G).le (Gh U w G'):=by
 simp only[aqG] at h;generalize htm:aaR S.mem S.tm ts=tm at h;generalize hRR:reach S.mem 3 (roots tm S.mem)=RR at h;generalize hmm:BK S.mem RR S.mem=m2 at h;cases hc:(closed RR m2 &&(aHN S.mem && sortedK S.mem)) with
 |false=>simp[hc] at h
 |true=>
  simp only[hc,aJ,lM] at h;subst h;simp only[wo] at hc;obtain⟨hcl,hfm,hso⟩:=hc;have hget:∀k c',get k m2=some c'↔∃c,get k S.mem=some c/\live c=true/\k∈RR/\c'=ND S.mem c:=by intro k c';rw[<-hmm];exact YB hso c'
  have hto:∀r c,get r S.mem=some c->live c=true->r∈RR->get r m2=some (ND S.mem c):=λr c h1 h2 h3=>(hget r _).2 ⟨c,h1,h2,h3,rfl⟩
  have hroot:∀r,r∈roots tm S.mem->r∈RR:=λr hr=>by rw[<-hRR];exact akl _ _ _ _ hr
  have hout:∀r,r ∉ G.out:=λr=>by rw[R.at_.out];simp
  let F2:Nat->List Nat:=λr=>if get r m2=none then[] else G.F r
  have hF:∀r b,b∈F2 r->b∈G.F r:=by
   intro r b hb;simp only[F2] at hb;split at hb
   ·simp at hb
   ·exact hb
  have hex:∀b,excl F2 [] b->excl G.F G.E b:=by
   rintro b (hb|⟨r,hb⟩)
   ·simp at hb
   ·exact .inr ⟨r,hF r b hb⟩
  have hv:(Gh U w G).le (Gh U w ⟨G.μ,F2,[],[]⟩):=UO (λ_ x=>x) hex;have hbox:∀r t cs,get r m2=some (.box t cs)->∀q,q∈Qn cs->q∈RR:=by intro r t cs hr q hq;have:=List.all_eq_true.1 hcl (r,.box t cs) (get_mem hr);simp only[List.all_eq_true] at this;exact(NI q RR).1 (this q hq)
  refine⟨⟨G.μ,F2,[],[]⟩,⟨⟨⟨?_, ?_, ?_, ?_,by simp, ?_,R.at_.ok.up,R.at_.ok.bs, ?_, ?_⟩,rfl,rfl,R.at_.fr.less hex⟩, ?_,R.size,R.defers, ?_⟩,hv⟩
  ·intro r c' hr _;have hF2:F2 r=G.F r:=by simp[F2,hr]
   obtain⟨c,h1,h2,h3,rfl⟩:=(hget r c').1 hr;have hq:=R.at_.ok.cell r c h1 (hout r);show uz G.μ m2 (dO w) (Gh U w ⟨G.μ,F2,[],[]⟩) r (ND S.mem c) (F2 r);rw[hF2];cases c with
   |dead=>cases h2
   |box t cs=>obtain⟨b,arr,e1,e2,e3,e4⟩:=hq;exact⟨b,arr,e1,e2,alK.V7 hto _ _ (wz (yK _ _) hv _ _ e3) (hbox r t _ hr),e4⟩
   |arr fz fl ver s rows=>
    cases fz with
    |true=>exact⟨JK hv _ _ hq.1,hq.2⟩
    |false=>exact VU hv (λ_ _=>rfl) hq
  ·intro r r' hne b hb hb';exact R.at_.ok.dj r r' hne b (hF r b hb) (hF r' b hb')
  ·intro r b hb;simp
  ·intro r;simp only[F2];split
   ·simp
   ·exact R.at_.ok.nd r
  ·intro b hb;exact R.at_.ok.lt b (hex b hb)
  ·intro r hr;simp[F2,hr]
  ·intro r hr;simp at hr
  ·intro t v ht;rw[<-htm] at ht;obtain⟨u,h1,rfl⟩:=aa6 ht;obtain⟨h2,h3⟩:=R.tm t u h1;refine⟨h2,alK hto u _ (PL (yK _ _) hv _ _ h3) λr hr=> ?_⟩;refine hroot r (Ue _ _ _ (.inr ?_));rw[List.mem_flatMap];exact⟨(t,aaQ S.mem u),by rw[<-htm];exact get_mem ht,hr⟩
  ·intro r c hr;obtain⟨c',h1,h2⟩:=R.imp r c hr;have hk:=hM r c hr;have avt:=List.all_eq_true.1 hfm (r,c') (get_mem h1);have hrr:r∈RR:=hroot r (Ue _ _ _ (.inl (by rw[List.mem_filter];exact⟨List.mem_map.2 ⟨(r,c'),get_mem h1,rfl⟩,hk⟩)));cases c' with
   |dead=>simp[hk] at avt
   |box t cs=>refine⟨_,hto r _ h1 rfl hrr, ?_⟩;cases c<;>simp only[ML,ND] at h2|-<;>exact h2
   |arr fz fl ver s rows=>simp only[hk,aJ] at avt;have hv0:=Ia avt;subst hv0;exact⟨_,hto r _ h1 rfl hrr,h2⟩
def azh(R:Rel base U M0 w0 ν M nt w S G a)(r:Nat):∃G',Rel base U M0 w0 ν M nt w ⟨S.tm,aEI r S.mem⟩ G' a/\(Gh U w G).le (Gh U w G'):=by
 unfold aEI;cases hc:get r S.mem with
 |none=>exact⟨G,R,View.le_refl _⟩
 |some c=>
  cases c with
  |arr fz fl ver s rows=>obtain⟨k1,k2,_⟩:=R.at_.ok.freeze hc (by rw[R.at_.out];simp);have hx:=R.at_.still k1 k2 R.at_.out;exact⟨_,R.put (v:=.undef) (g:=.bool true) (dst:=none) hx trivial rfl,hx.view⟩
  |_=>exact⟨G,R,View.le_refl _⟩
def azi(ts:List Nat):∀{tm:lX} {m:Mem} {G:GS} (_:Rel base U M0 w0 ν M nt w ⟨tm,m⟩ G a),∃G',Rel base U M0 w0 ν M nt w ⟨tm,as5 tm ts m⟩ G' a/\(Gh U w G).le (Gh U w G'):=by
 induction ts with
 |nil=>exact λR=>⟨_,R,View.le_refl _⟩
 |cons t ts ih=>
  intro tm m G R;rw[as5];cases Nat.ble 5000 t with
  |false=>exact ih R
  |true=>
   rw[aJ];split
   ·obtain⟨G1,R1,v1⟩:=azh R _;obtain⟨G2,R2,v2⟩:=ih R1;exact⟨G2,R2,v1.trans' v2⟩
   ·exact ih R
def atr(R:Rel base U M0 w0 ν M nt w S G a)(hM:∀r c,get r M=some c->PI r=true){ts:List Nat}(h:adh ts S=some S'):
  ∃G',Rel base U M0 w0 ν M nt w S' G' a/\(Gh U w G).le (Gh U w G'):=by
 obtain⟨G1,R1,v1⟩:=azi ts (tm:=S.tm) (m:=S.mem) R;obtain⟨G2,R2,v2⟩:=atq R1 hM h;exact⟨G2,R2,v1.trans' v2⟩
def agU{f:Nat->Nat}:∀{ks:List Nat},nodupB (ks.map f)=true->∀a b,a∈ks->b∈ks->f a=f b->a=b
 |[],_,a,b,ha,_,_=>absurd ha List.not_mem_nil
 |k::ks,h,a,b,ha,hb,e=>by
  simp only[zmc,nodupB,wo] at h;have h1:=VW h.1;rcases List.mem_cons.1 ha with e1|ha1<;>rcases List.mem_cons.1 hb with e2|hb1
  ·rw[e1,e2]
  ·exact absurd (by rw[<-e1,e];exact List.mem_map.2 ⟨b,hb1,rfl⟩) h1
  ·exact absurd (by rw[<-e2,<-e];exact List.mem_map.2 ⟨a,ha1,rfl⟩) h1
  ·exact agU h.2 a b ha1 hb1 e
def afX{α:Type}{k:Nat}{x:α}{l:List (Nat×α)}(h:get k l=some x):k∈l.map (·.1):=List.mem_map.2 ⟨_,get_mem h,rfl⟩
def aao{L:List (Nat×Nat)}:∀{m:Mem} {k':Nat} {c':Cell},get k' (TR L m)=some c'->∃k c,get k m=some c/\ren L k=k'/\c'=ajc L c
 |[],k',c',h=>by simp[TR,get] at h
 |(j,c0)::m,k',c',h=>by
  simp only[TR] at h;rw[get_put] at h;split at h
  ·rename_i e;cases h;exact⟨j,c0,by simp[get],e.symm,rfl⟩
  ·rename_i e;obtain⟨k,c,h1,h2,h3⟩:=aao h;refine⟨k,c, ?_,h2,h3⟩;have:Nat.beq k j=false:=zV (λq=>e (by rw[<-h2,q]));simp only[get,this,aW];exact h1
def agV{L:List (Nat×Nat)}:∀{m:Mem} (_:∀a b,a∈m.map (·.1)->b∈m.map (·.1)->ren L a=ren L b->a=b) {k:Nat} {c:Cell},get k m=some c->get (ren L k) (TR L m)=some (ajc L c)
 |[],_,k,c,h=>by simp[get] at h
 |(j,c0)::m,hi,k,c,h=>by
  simp only[TR];rw[get_put]
  by_cases hk:k=j
  ·subst hk;have:Nat.beq k k=true:=Nat.beq_refl k;simp only[get,this,aJ,lM] at h;subst h;rw[if_pos rfl]
  ·have hb:Nat.beq k j=false:=zV hk;simp only[get,hb,aW] at h;rw[if_neg]
   ·exact agV (λa b ha hb=>hi a b (zmm _ ha) (zmm _ hb)) h
   ·intro e;exact hk (hi k j (zmm _ (afX h)) zmf e)
def akm{L:List (Nat×Nat)}:∀{tm:lX} {t:Nat} {v:V},get t (agn L tm)=some v->∃u,get t tm=some u/\v=Vh L u
 |[],t,v,h=>by simp[agn,get] at h
 |(j,u)::tm,t,v,h=>by
  simp only[agn,get] at h|-;cases hb:Nat.beq t j with
  |true=>rw[hb] at h;simp only[aJ,lM] at h;exact⟨u,rfl,h.symm⟩
  |false=>rw[hb] at h;simp only[aW] at h|-;exact akm h
mutual
def ar8{L:List (Nat×Nat)}{μ μ':Nat->Value}{m m':Mem}{h:View}(hm:∀k c,get k m=some c->get (ren L k) m'=some (ajc L c)/\μ' (ren L k)=μ k):∀(v:V) (g:Value),bn μ m h v g->bn μ' m' h (Vh L v) g
 | .d x,g,q=>q
 | .nil s,g,q=>q
 | .own r v0,g,q=>by
  simp only[Vh,bn] at q|-;refine⟨q.1, ?_⟩;have q2:=q.2;cases hr:get r m with
  |none=>rw[hr] at q2;exact q2.elim
  |some c=>
   rw[hr] at q2;obtain⟨h1,h2⟩:=hm r c hr;rw[h1];cases c with
   |box t cs=>exact q2.elim
   |arr fz fl ver s rows=>exact⟨q2.1,λe=>by rw[h2];exact q2.2 e⟩
   |dead=>trivial
 | .ptr r off,g,q=>by
  simp only[Vh,bn] at q|-;refine⟨q.1, ?_⟩;have q2:=q.2;cases hr:get r m with
  |none=>rw[hr] at q2;exact q2.elim
  |some c=>
   rw[hr] at q2;obtain⟨h1,h2⟩:=hm r c hr;rw[h1];cases c with
   |box t cs=>obtain⟨b,e1,e2⟩:=q2;exact⟨b,by rw[h2];exact e1,e2⟩
   |arr fz fl ver s rows=>exact q2.elim
   |dead=>trivial
 | .JI r v0 i off,g,q=>by
  simp only[Vh,bn] at q|-;refine⟨q.1, ?_⟩;have q2:=q.2;cases hr:get r m with
  |none=>rw[hr] at q2;exact q2.elim
  |some c=>
   rw[hr] at q2;obtain⟨h1,h2⟩:=hm r c hr;rw[h1];cases c with
   |box t cs=>exact q2.elim
   |arr fz fl ver s rows=>refine⟨q2.1,λe=> ?_⟩;obtain⟨b,n,cap,e1,e2⟩:=q2.2 e;exact⟨b,n,cap,by rw[h2];exact e1,e2⟩
   |dead=>trivial
 | .F8 row off,g,q=>q
 | .clo f a b,g,q=>by simp only[Vh,bn] at q|-;obtain⟨x,y,e,h1,h2⟩:=q;exact⟨x,y,e,V8 hm a _ h1,V8 hm b _ h2⟩
 | .agg cs,g,q=>by simp only[Vh,bn] at q|-;obtain⟨x,e,h1⟩:=q;exact⟨x,e,V8 hm cs _ h1⟩
 | .XH vs,g,q=>by simp only[Vh,bn] at q|-;obtain⟨x,e,h1⟩:=q;exact⟨x,e,V8 hm vs _ h1⟩
 | .undef,g,q=>trivial
def V8{L:List (Nat×Nat)}{μ μ':Nat->Value}{m m':Mem}{h:View}(hm:∀k c,get k m=some c->get (ren L k) m'=some (ajc L c)/\μ' (ren L k)=μ k):∀(vs:List V) (gs:List Value),dh μ m h vs gs->dh μ' m' h (Yk L vs) gs
 |[],gs,q=>q
 |v::vs,gs,q=>by simp only[Yk,dh] at q|-;obtain⟨g,gs',rfl,h1,h2⟩:=q;exact⟨g,gs',rfl,ar8 hm v g h1,V8 hm vs gs' h2⟩
end
open Classical in
def atu(R:Rel base U M0 w0 ν M nt w S G a)(hM:∀r c,get r M=some c->PI r=true)(L:List (Nat×Nat)):
  ∃G',Rel base U M0 w0 ν M nt w (alC L S) G' a/\(Gh U w G).le (Gh U w G'):=by
 simp only[alC];cases hc:abT L (S.mem.map (·.1)) with
 |false=>exact⟨G,R,View.le_refl _⟩
 |true=>
  simp only;simp only[abT,wo] at hc;obtain⟨hnd,himp⟩:=hc;have hinj:=agU hnd
  let inv:Nat->Nat:=λk'=>if h:∃k,k∈S.mem.map (·.1)/\ren L k=k' then h.choose else k'
  let F2:Nat->List Nat:=λk'=>if∃k,k∈S.mem.map (·.1)/\ren L k=k' then G.F (inv k') else[]
  have hinv:∀k,k∈S.mem.map (·.1)->inv (ren L k)=k:=by
   intro k hk;have hex:∃j,j∈S.mem.map (·.1)/\ren L j=ren L k:=⟨k,hk,rfl⟩
   simp only[inv,dif_pos hex];exact hinj _ _ hex.choose_spec.1 hk hex.choose_spec.2
  have hF2:∀k,k∈S.mem.map (·.1)->F2 (ren L k)=G.F k:=by
   intro k hk;have hex:∃j,j∈S.mem.map (·.1)/\ren L j=ren L k:=⟨k,hk,rfl⟩
   simp only[F2,if_pos hex,hinv k hk]
  have hF:∀r b,b∈F2 r->∃k,k∈S.mem.map (·.1)/\ren L k=r/\b∈G.F k:=by
   intro r b hb;simp only[F2] at hb;split at hb
   ·rename_i hex;obtain⟨k,h1,rfl⟩:=hex;rw[hinv k h1] at hb;exact⟨k,h1,rfl,hb⟩
   ·simp at hb
  have hex:∀b,excl F2 [] b->excl G.F G.E b:=by
   rintro b (hb|⟨r,hb⟩)
   ·simp at hb
   ·obtain⟨k,_,_,h⟩:=hF r b hb;exact .inr ⟨k,h⟩
  have hv:(Gh U w G).le (Gh U w ⟨G.μ ∘ inv,F2,[],[]⟩):=UO (λ_ x=>x) hex;have hm:∀k c,get k S.mem=some c->get (ren L k) (TR L S.mem)=some (ajc L c)/\(G.μ ∘ inv) (ren L k)=G.μ k:=by intro k c hk;exact⟨agV hinj hk,by show G.μ (inv (ren L k))=_;rw[hinv k (afX hk)]⟩
  have hout:∀r,r ∉ G.out:=λr=>by rw[R.at_.out];simp
  refine⟨⟨G.μ ∘ inv,F2,[],[]⟩,⟨⟨⟨?_, ?_, ?_, ?_,by simp, ?_,R.at_.ok.up,R.at_.ok.bs, ?_, ?_⟩,rfl,rfl,R.at_.fr.less hex⟩, ?_,R.size,R.defers, ?_⟩,hv⟩
  ·intro r c' hr _;obtain⟨k,c,h1,rfl,rfl⟩:=aao hr;have hq:=R.at_.ok.cell k c h1 (hout k);show uz (G.μ ∘ inv) (TR L S.mem) (dO w) (Gh U w ⟨G.μ ∘ inv,F2,[],[]⟩) (ren L k) (ajc L c) (F2 (ren L k));rw[hF2 k (afX h1)];have hmu:=(hm k c h1).2;cases c with
   |dead=>exact hq
   |box t cs=>obtain⟨b,arr,e1,e2,e3,e4⟩:=hq;exact⟨b,arr,by rw[hmu];exact e1,e2,V8 hm _ _ (wz (yK _ _) hv _ _ e3),e4⟩
   |arr fz fl ver s rows=>
    cases fz with
    |true=>have hq':ro (Gh U w G) (.sl true s rows) (G.μ k)/\G.F k=[]:=hq;refine⟨?_,hq'.2⟩;rw[hmu];exact JK hv _ _ hq'.1
    |false=>have hq':aaT (dO w) (Gh U w G) fl s rows (G.μ k) (G.F k):=hq;show aaT (dO w) (Gh U w ⟨G.μ ∘ inv,F2,[],[]⟩) fl s rows ((G.μ ∘ inv) (ren L k)) (G.F k);rw[hmu];exact VU hv (λ_ _=>rfl) hq'
  ·intro r r' hne b hb hb';obtain⟨k,_,rfl,h1⟩:=hF r b hb;obtain⟨k',_,rfl,h2⟩:=hF r' b hb';exact R.at_.ok.dj k k' (λe=>hne (by rw[e])) b h1 h2
  ·intro r b hb;simp
  ·intro r;simp only[F2];split
   ·exact R.at_.ok.nd _
   ·simp
  ·intro b hb;exact R.at_.ok.lt b (hex b hb)
  ·intro r hr;simp only[F2];split
   ·rename_i hq;obtain⟨k,h1,rfl⟩:=hq;obtain⟨⟨k2,c⟩,h2,h3⟩:=List.mem_map.1 h1;simp only at h3;subst h3;cases hg:get k2 S.mem with
    |none=>rw[hinv k2 h1];exact R.at_.ok.none_ _ hg
    |some c2=>rw[(hm k2 c2 hg).1] at hr;cases hr
   ·rfl
  ·intro r hr;simp at hr
  ·intro t v ht;obtain⟨u,h1,rfl⟩:=akm ht;obtain⟨h2,h3⟩:=R.tm t u h1;exact⟨h2,ar8 hm u _ (PL (yK _ _) hv _ _ h3)⟩
  ·intro r c hr;obtain⟨c',h1,h2⟩:=R.imp r c hr;have hk:=hM r c hr;have hir:=List.all_eq_true.1 himp r (afX h1);simp only[hk,aJ] at hir;have her:=Ia hir;obtain⟨h3,h4⟩:=hm r c' h1;rw[her] at h3 h4;refine⟨_,h3, ?_⟩;cases c<;>cases c'<;>simp only[ML,ajc] at h2|-<;>first
    |exact⟨h2.1,h4.trans h2.2⟩
    |exact⟨h2.1,h2.2.1,λe=>⟨h4.trans (h2.2.2 e).1,(h2.2.2 e).2⟩⟩
    |exact⟨h2.1,λe=>⟨h4.trans (h2.2 e).1,(h2.2 e).2⟩⟩
    |exact h4.trans h2
    |trivial
    |exact h2
def avu(R:Rel base U M0 w0 ν M nt w S G a)(hM:∀r c,get r M=some c->PI r=true):
  ∃G',Rel base U M0 w0 ν M nt w (canon S) G' a/\(Gh U w G).le (Gh U w G'):=by
 unfold canon;cases ay1 S.tm S.mem with
 |nil=>exact⟨G,R,View.le_refl _⟩
 |cons k o=>exact atu R hM _
def avv(R:Rel base U M0 w0 ν M nt w S G a)(hM:∀r c,get r M=some c->PI r=true){ts:List Nat}(h:prune ts S=some S'):
  ∃G',Rel base U M0 w0 ν M nt w S' G' a/\(Gh U w G).le (Gh U w G'):=by
 simp only[prune] at h;cases hp:adh ts S with
 |none=>simp[hp] at h
 |some S1=>simp only[hp,lM] at h;subst h;obtain⟨G1,R1,v1⟩:=atr R hM hp;obtain⟨G2,R2,v2⟩:=avu R1 hM;exact⟨G2,R2,v1.trans' v2⟩
end
def V9{α:Type}{f:Nat->Option α}{x:α}(h:lim f=some x):∃n,f n=some x:=by
 unfold lim at h;split at h
 ·rename_i hx;have:=Classical.choose_spec hx;obtain⟨n,hn⟩:=this;simp only[lM] at h;exact⟨n,by rw[hn,h]⟩
 ·cases h
def aET:Ex->Exit
 | .normal=> .normal
 | .exit id=> .exit id
 | .ret=> .ret
section
variable {base:Nat} {U:Nat->Prop} {M0:List Nat} {w0:World} {ν:Nat->Value} {M:Mem} {nt:Nat} {X:Ctx} {K:lN} {fn:Nat}
def aDN(base:Nat)(U:Nat->Prop)(M0:List Nat)(w0:World)(ν:Nat->Value)(M:Mem)(nt:Nat)(X:Ctx)(K:lN)(fn:Nat):Prop:=
 ∀(id:Nat) (ops:Array Oper) (draw:Bool) (w:World) (S S':St) (G:GS) (a:Act) (Q:Exit->Act->World->Prop),Rel base U M0 w0 ν M nt w S G a->region X K fn id ops draw S=some S'->
  (∀w' G' a',Rel base U M0 w0 ν M nt w' S' G' a'->(Gh U w G).le (Gh U w' G')->Q .normal a' w')->(Code.region id ops draw).wp X.P Q a w
def avw(hR:aDN base U M0 w0 ν M nt X K fn)(c:Code):∀{w:World} {S S':St} {ex:Ex} {G:GS} {a:Act} {Q:Exit->Act->World->Prop},Rel base U M0 w0 ν M nt w S G a->den X K fn c S=some (ex,S')->
  (∀w' G' a',Rel base U M0 w0 ν M nt w' S' G' a'->(Gh U w G).le (Gh U w' G')->Q (aET ex) a' w')->c.wp X.P Q a w:=by
 induction c with
 |skip=>intro w S S' ex G a Q R h hn;simp only[den,lM,qU] at h;obtain⟨rfl,rfl⟩:=h;exact Go.wp_skip (hn _ _ _ R (View.le_refl _))
 |region id ops draw=>
  intro w S S' ex G a Q R h hn;simp only[den] at h;cases hr:region X K fn id ops draw S with
  |none=>simp[hr] at h
  |some S1=>simp only[hr,lM,qU] at h;obtain⟨rfl,rfl⟩:=h;exact hR id ops draw w S S1 G a Q R hr hn
 |seq x y ihx ihy=>
  intro w S S' ex G a Q R h hn;simp only[den] at h;refine wp_seq ?_;cases hx:den X K fn x S with
  |none=>simp[hx] at h
  |some r=>
   obtain⟨e1,S1⟩:=r;rw[hx] at h;cases e1 with
   |normal=>simp only at h;exact ihx R hx λw1 G1 a1 R1 v1=>ihy R1 h λw' G' a' R' v'=>hn w' G' a' R' (v1.trans' v')
   |exit id=>simp only[lM,qU] at h;obtain⟨rfl,rfl⟩:=h;exact ihx R hx λw1 G1 a1 R1 v1=>hn w1 G1 a1 R1 v1
   |ret=>simp only[lM,qU] at h;obtain⟨rfl,rfl⟩:=h;exact ihx R hx λw1 G1 a1 R1 v1=>hn w1 G1 a1 R1 v1
 |cond c x y ihx ihy=>
  intro w S S' ex G a Q R h hn;simp only[den] at h;have hc:∀b,aak X.P S.tm c=some b->a.eval c=.bool b:=by
   intro b hb;have:=Yw (P:=X.P) R.tm 0 c;have he:ev X.P S.tm 0 c=.d (.bool b):=by
    unfold aak at hb;revert hb;generalize ev X.P S.tm 0 c=v;intro hb;cases v with
    |d x=>
     cases x with
     |bool b'=>exact congrArg (λq=>V.d (.bool q)) (Option.some.inj hb)
     |_=>cases hb
    |_=>cases hb
   rw[he] at this;simpa[bn,ro] using this
  cases hb:aak X.P S.tm c with
  |none=>simp[hb] at h
  |some b=>
   rw[hb] at h;cases b with
   |true=>exact wp_cond (hc _ hb) (ihx R h hn)
   |false=>exact wp_cond (hc _ hb) (ihy R h hn)
 |block id c ih=>
  intro w S S' ex G a Q R h hn;simp only[den] at h;refine wp_block ?_;cases hx:den X K fn c S with
  |none=>simp[hx] at h
  |some r=>
   obtain⟨e1,S1⟩:=r;rw[hx] at h;cases e1 with
   |normal=>simp only[lM,qU] at h;obtain⟨rfl,rfl⟩:=h;exact ih R hx λw1 G1 a1 R1 v1=>hn w1 G1 a1 R1 v1
   |ret=>simp only[lM,qU] at h;obtain⟨rfl,rfl⟩:=h;exact ih R hx λw1 G1 a1 R1 v1=>hn w1 G1 a1 R1 v1
   |exit j=>
    refine ih R hx λw1 G1 a1 R1 v1=> ?_
    simp only[aET,Exit.inBlock]
    by_cases hj:j=id
    ·subst hj;simp only[Nat.beq_refl,aJ,lM,qU] at h;obtain⟨rfl,rfl⟩:=h;simp only[if_true];exact hn w1 G1 a1 R1 v1
    ·dsimp only at h;rw[zV hj] at h;simp only[aW,lM,qU] at h;obtain⟨rfl,rfl⟩:=h;simp only[hj,if_false];exact hn w1 G1 a1 R1 v1
 |loop c ih=>
  intro w S S' ex G a Q R h hn;simp only[den,Yo] at h;have hl:=V9 h;clear h;obtain⟨n,h⟩:=hl;refine wp_loop_rounds n ?_;induction n generalizing w S G a with
  |zero=>simp[iter] at h
  |succ n ihn=>
   simp only[iter] at h;rw[rounds_succ];cases hx:den X K fn c S with
   |none=>simp[hx] at h
   |some r=>
    obtain⟨e1,S1⟩:=r;rw[hx] at h;cases e1 with
    |normal=>exact ih R hx λw1 G1 a1 R1 v1=>ihn R1 (λw' G' a' R' v'=>hn w' G' a' R' (v1.trans' v')) h
    |exit id=>simp only[lM,qU] at h;obtain⟨rfl,rfl⟩:=h;exact ih R hx λw1 G1 a1 R1 v1=>hn w1 G1 a1 R1 v1
    |ret=>simp only[lM,qU] at h;obtain⟨rfl,rfl⟩:=h;exact ih R hx λw1 G1 a1 R1 v1=>hn w1 G1 a1 R1 v1
 |exit id=>intro w S S' ex G a Q R h hn;simp only[den,lM,qU] at h;obtain⟨rfl,rfl⟩:=h;exact wp_exit (hn _ _ _ R (View.le_refl _))
 |ret=>intro w S S' ex G a Q R h hn;simp only[den,lM,qU] at h;obtain⟨rfl,rfl⟩:=h;exact wp_ret (hn _ _ _ R (View.le_refl _))
 |_=>intro w S S' ex G a Q R h hn;simp[den] at h
end
structure Eqv(S T:St):Prop where
 tm:∀t,get t S.tm=get t T.tm
 mem:∀k,get k S.mem=get k T.mem
def Eqv.refl(S:St):Eqv S S:=⟨λ_=>rfl,λ_=>rfl⟩
def Eqv.symm{S T:St}(h:Eqv S T):Eqv T S:=⟨λt=>(h.tm t).symm,λk=>(h.mem k).symm⟩
def Eqv.trans{S T V:St}(h:Eqv S T)(k:Eqv T V):Eqv S V:=⟨λt=>(h.tm t).trans (k.tm t),λj=>(h.mem j).trans (k.mem j)⟩
def aap{ops:Array Oper}{o:Oper}{tm Vo tm':lX}{b:Bool}(h:∀t,t∈o.looksAt ops->get t Vo=get t tm)(hw:F9 ops tm o=some (b,tm')):∃aUO,F9 ops Vo o=some (b,aUO):=by
 unfold F9 at hw|-;cases hg:o.guard with
 |none=>simp only[hg,lM,qU] at hw;exact⟨Vo,by simp[hw.1]⟩
 |some jw=>
  obtain⟨j,want⟩:=jw;simp only[hg] at hw|-;cases hj:ops[j]? with
  |none=>simp[hj] at hw
  |some oj=>
   simp only[hj] at hw|-;cases hd:oj.dst with
   |none=>simp[hd] at hw
   |some d=>
    simp only[hd,ZV] at hw|-;rw[h d (by simp[Oper.looksAt,hg,hj,hd])];split at hw
    ·split at hw
     all_goals
      simp only[lM,qU] at hw;exact⟨_,congrArg (λx=>some (x,_)) hw.1⟩
    ·split at hw
     ·simp only[lM,qU] at hw;exact⟨_,congrArg (λx=>some (x,_)) hw.1⟩
     ·cases hw
    ·cases hw
section
variable {X:Ctx} {K:lN} {fn:Nat} {ops:Array Oper}
def YC{i:Nat}{o:Oper}{S S':St}{lg:Log}(ho:ops[i]? =some o)(h:Ea X K fn ops i S=some (S',lg)):
  (∀k,k ∉ lg.w->get k S'.mem=get k S.mem)/\(∀t,o.dst≠some t->get t S'.tm=get t S.tm)/\
  ∀T:St,(∀t,t∈o.looksAt ops->get t T.tm=get t S.tm)->(∀k,k∈lg.r->get k T.mem=get k S.mem)->
   ∃T',Ea X K fn ops i T=some (T',lg)/\(∀k,k∈lg.w->get k T'.mem=get k S'.mem)/\(∀k,k ∉ lg.w->get k T'.mem=get k T.mem)/\
    (∀t,o.dst=some t->get t T'.tm=get t S'.tm)/\(∀t,o.dst≠some t->get t T'.tm=get t T.tm):=by
 unfold Ea at h;simp only[ho] at h;have hdel:∀(tm:lX) t,o.dst≠some t->get t (aex (XY X.P fn) o.dst tm)=get t tm:=by
  intro tm t ht;unfold aex;cases Yl (XY X.P fn) o.dst<;>cases hd:o.dst with
  |none=>rfl
  |some d=>first|exact Qo (λe=>ht (by rw[hd,e])) tm|exact nO (λe=>ht (by rw[hd,e])) _ tm
 have hput:∀(tm:lX) v t,o.dst≠some t->get t (ajb o.dst v tm)=get t tm:=by
  intro tm v t ht;cases hd:o.dst with
  |none=>rfl
  |some d=>exact nO (λe=>ht (by rw[hd,e])) v tm
 cases hw:F9 ops S.tm o with
 |none=>simp[hw] at h
 |some bt=>
  obtain⟨b,tm⟩:=bt;have hsame:=SQ hw;cases b with
  |false=>
   simp only[hw,lM,qU] at h;obtain⟨rfl,rfl⟩:=h;refine⟨λ_ _=>rfl,λt ht=>by rw[hdel tm t ht,hsame t],λT ht hk=> ?_⟩;obtain⟨Vo,hw2⟩:=aap ht hw;have alL:=SQ hw2;refine⟨⟨aex (XY X.P fn) o.dst Vo,T.mem⟩, ?_,λk hk=>by simp[Log.none] at hk,λ_ _=>rfl, ?_,λt ht=>by rw[hdel Vo t ht,alL t]⟩
   ·unfold Ea;simp only[ho,hw2]
   ·intro t htd;rw[htd];simp only[aex,ayZ,ajb];cases Yl (XY X.P fn) (some t) with
    |false=>simp only[aW];rw[NH,NH]
    |true=>simp only[aJ];rw[kD,kD]
  |true=>
   simp only[hw] at h;cases hv:(vop X K fn tm o).run S.mem .none with
   |none=>simp[hv] at h
   |some r=>
    obtain⟨v,m',l⟩:=r;simp only[hv] at h;cases hd:Yl (XY X.P fn) o.dst with
    |false=>simp[hd] at h
    |true=>
     simp only[hd,aJ,lM,qU] at h;obtain⟨rfl,rfl⟩:=h;obtain⟨R,W,e,h1,h2⟩:=atl _ hv;simp only[Log.none,List.append_nil] at e;subst e;refine⟨h1,λt ht=>by rw[hput tm v t ht,hsame t],λT ht hk=> ?_⟩;obtain⟨m2,q1,q2,q3⟩:=h2 T.mem .none hk;obtain⟨Vo,hw2⟩:=aap ht hw;have alL:=SQ hw2;refine⟨⟨ajb o.dst v Vo,m2⟩, ?_,q2,q3, ?_,λt ht=>by rw[hput Vo v t ht,alL t]⟩
     ·unfold Ea;have hc:vop X K fn Vo o=vop X K fn tm o:=atn λx hx i hi=>by rw[alL,hsame];exact ht i (by subst hi;exact List.mem_append_left _ (List.mem_filterMap.2 ⟨.tmp i,by simpa using hx,rfl⟩))
      simp only[ho,hw2,hc,q1,hd,aJ];simp[Log.none]
     ·intro t htd;rw[htd];simp only[ajb];rw[kD,kD]
def adr{a b:List Nat}(h:ay3 a b=true):∀k,k∈a->k ∉ b:=λk hk=>VW (List.all_eq_true.1 h k hk)
structure anu(ops:Array Oper)(i j:Nat)(li lj:Log):Prop where
 ex:∃a b,ops[i]? =some a/\ops[j]? =some b/\(∀d,a.dst=some d->d ∉ b.looksAt ops)/\(∀d,a.dst=some d->b.dst≠some d)/\(∀d,b.dst=some d->d ∉ a.looksAt ops)
 wr:∀k,k∈li.w->k ∉ lj.r
 ww:∀k,k∈li.w->k ∉ lj.w
 rw:∀k,k∈li.r->k ∉ lj.w
def swap{i j:Nat}{li lj:Log}{S S1 S2:St}(hI:anu ops i j li lj)(h1:Ea X K fn ops i S=some (S1,li))(h2:Ea X K fn ops j S1=some (S2,lj)):
  ∃T1 T2,Ea X K fn ops j S=some (T1,lj)/\Ea X K fn ops i T1=some (T2,li)/\Eqv S2 T2:=by
 obtain⟨a,b,ha,hb,i1,i2,i3⟩:=hI.ex;obtain⟨a1,a2,a3⟩:=YC ha h1;obtain⟨b1,b2,b3⟩:=YC hb h2;obtain⟨T1,c1,c2,c3,c4,c5⟩:=b3 S (λt ht=>(a2 t (λe=>i1 t e ht)).symm) (λk hk=>(a1 k (λhw=>hI.wr k hw hk)).symm);obtain⟨T2,d1,d2,d3,d4,d5⟩:=a3 T1 (λt ht=>c5 t (λe=>i3 t e ht)) (λk hk=>c3 k (hI.rw k hk));refine⟨T1,T2,c1,d1,λt=> ?_,λk=> ?_⟩
 ·by_cases hta:a.dst=some t
  ·rw[b2 t (λe=>i2 t hta e),d4 t hta]
  ·rw[d5 t hta]
   by_cases htb:b.dst=some t
   ·rw[c4 t htb]
   ·rw[c5 t htb,b2 t htb,a2 t hta]
 ·by_cases hka:k∈li.w
  ·rw[b1 k (hI.ww k hka),d2 k hka]
  ·rw[d3 k hka]
   by_cases hkb:k∈lj.w
   ·rw[c2 k hkb]
   ·rw[c3 k hkb,b1 k hkb,a1 k hka]
def Tr(X:Ctx)(K:lN)(fn:Nat)(ops:Array Oper):List (Nat×Log)->St->St->Prop
 |[],S,S'=>S=S'
 |(i,l)::is,S,S'=>∃S1,Ea X K fn ops i S=some (S1,l)/\Tr X K fn ops is S1 S'
def agW{i:Nat}{S S':St}{l:Log}(h:Ea X K fn ops i S=some (S',l)):∃o,ops[i]? =some o:=by
 cases ho:ops[i]? with
 |some o=>exact⟨o,rfl⟩
 |none=>simp[Ea,ho] at h
def atv{i:Nat}{S S1 T:St}{l:Log}(h:Ea X K fn ops i S=some (S1,l))(hE:Eqv S T):∃T1,Ea X K fn ops i T=some (T1,l)/\Eqv S1 T1:=by
 obtain⟨o,ho⟩:=agW h;obtain⟨a1,a2,a3⟩:=YC ho h;obtain⟨T1,c1,c2,c3,c4,c5⟩:=a3 T (λt _=>(hE.tm t).symm) (λk _=>(hE.mem k).symm);refine⟨T1,c1,λt=> ?_,λk=> ?_⟩
 ·by_cases ht:o.dst=some t
  ·rw[c4 t ht]
  ·rw[c5 t ht,a2 t ht,hE.tm t]
 ·by_cases hk:k∈l.w
  ·rw[c2 k hk]
  ·rw[c3 k hk,a1 k hk,hE.mem k]
def Tr.eqv:∀{is:List (Nat×Log)} {S S' T:St},Tr X K fn ops is S S'->Eqv S T->∃T',Tr X K fn ops is T T'/\Eqv S' T'
 |[],S,S',T,h,hE=>⟨T,rfl,by cases h;exact hE⟩
 |(i,l)::is,S,S',T,⟨S1,h1,h2⟩,hE=>by obtain⟨T1,c1,e1⟩:=atv h1 hE;obtain⟨T',c2,e2⟩:=Tr.eqv h2 e1;exact⟨T',⟨T1,c1,c2⟩,e2⟩
def Tr.front{i:Nat}{l:Log}{post:List (Nat×Log)}:∀{pre:List (Nat×Log)} {S S':St},Tr X K fn ops (pre++(i,l)::post) S S'->(∀x,x∈pre->anu ops x.1 i x.2 l)->
  ∃S'',Tr X K fn ops ((i,l)::(pre++post)) S S''/\Eqv S' S''
 |[],S,S',h,_=>⟨S',h,Eqv.refl _⟩
 |(j,lj)::pre,S,S',⟨S1,h1,h2⟩,hI=>by obtain⟨T',⟨T1,t1,t2⟩,e1⟩:=Tr.front h2 (λx hx=>hI x (by simp[hx]));obtain⟨V1,V2,v1,v2,ev⟩:=swap (hI (j,lj) (by simp)) h1 t1;obtain⟨V',w1,e2⟩:=Tr.eqv t2 ev;exact⟨V',⟨V1,v1,V2,v2,w1⟩,e1.trans e2⟩
end
def XK(acc:Array Nat)(o:Oper):Array Nat:=acc.push (o.after.foldl (λs e=>if Region.binds .any e then s|||2 ^ e.on|||acc.getD e.on 0 else s) 0)
def anv(look:Nat->Nat)(j:Nat):∀(es:List Edge) (s:Nat),(es.foldl (λs e=>if Region.binds .any e then s|||2 ^ e.on|||look e.on else s) s).testBit j=true->
  s.testBit j=true\/∃e,e∈es/\Region.binds .any e=true/\(j=e.on\/(look e.on).testBit j=true)
 |[],s,h=> .inl h
 |e::es,s,h=>by
  simp only[List.foldl_cons] at h;rcases anv look j es _ h with h|⟨e',h1,h2⟩
  ·cases hb:Region.binds .any e with
   |false=>simp only[hb,Bool.false_eq_true,if_false] at h;exact .inl h
   |true=>
    simp only[hb,if_true,Nat.testBit_or,Bool.or_eq_true] at h;rcases h with(h|h)|h
    ·exact .inl h
    ·rw[Nat.testBit_two_pow] at h;exact .inr ⟨e,by simp,hb,.inl (by simpa using(of_decide_eq_true h).symm)⟩
    ·exact .inr ⟨e,by simp,hb,.inr h⟩
  ·exact .inr ⟨e',by simp[h1],h2⟩
def aH3(l:List Oper):∀(acc:Array Nat),(l.foldl XK acc).size=acc.size+l.length/\(∀i,i<acc.size->(l.foldl XK acc).getD i 0=acc.getD i 0)/\
  ∀k j,((l.foldl XK acc).getD (acc.size+k) 0).testBit j=true->∃o e,l[k]? =some o/\e∈o.after/\Region.binds .any e=true/\(j=e.on\/(e.on<acc.size+k/\((l.foldl XK acc).getD e.on 0).testBit j=true)):=by
 induction l with
 |nil=>intro acc;refine⟨by simp,λi _=>rfl,λk j h=> ?_⟩;rw[List.foldl_nil,Array.getD,dif_neg ak] at h;simp at h
 |cons o l ih=>
  intro acc;obtain⟨s1,s2,s3⟩:=ih (XK acc o);have hsz:(XK acc o).size=acc.size+1:=by simp[XK]
  rw[hsz] at s1 s2 s3;have hold:∀i,i<acc.size->(XK acc o).getD i 0=acc.getD i 0:=by intro i hi;simp only[XK,Array.getD_eq_getD_getElem?,Array.getElem?_push];rw[if_neg ak]
  refine⟨by rw[List.foldl_cons,s1,ZE];omega,λi hi=>by rw[List.foldl_cons,s2 i ak,hold i hi],λk j h=> ?_⟩;rw[List.foldl_cons] at h|-;cases k with
  |zero=>
   rw[Nat.add_zero,s2 _ ak] at h;have hv:(XK acc o).getD acc.size 0=o.after.foldl (λs e=>if Region.binds .any e then s|||2 ^ e.on|||acc.getD e.on 0 else s) 0:=by simp[XK,Array.getD_eq_getD_getElem?]
   rw[hv,<-Array.foldl_toList] at h;rcases anv (λi=>acc.getD i 0) j _ 0 h with h|⟨e,h1,h2,h3⟩
   ·simp at h
   ·refine⟨o,e,rfl,by simpa using h1,h2, ?_⟩;rcases h3 with h3|h3
    ·exact .inl h3
    ·have hlt:e.on<acc.size:=by
      rcases Nat.lt_or_ge e.on acc.size with h'|h'
      ·exact h'
      ·simp[Array.getD,Nat.not_lt.2 h'] at h3
     refine .inr ⟨ak, ?_⟩;rw[s2 _ ak,hold _ hlt];exact h3
  |succ k=>obtain⟨o',e,q1,q2,q3,q4⟩:=s3 k j (by rwa [show acc.size+(k+1)=acc.size+1+k by omega] at h);exact⟨o',e,by simpa using q1,q2,q3,q4.imp id fun⟨x,y⟩=>⟨ak,y⟩⟩
def agX{ops:Array Oper}{i j:Nat}(h:ordered (Region.before ops) i j=true):∃o e,ops[i]? =some o/\e∈o.after/\Region.binds .any e=true/\(j=e.on\/(e.on<i/\ordered (Region.before ops) e.on j=true)):=by
 have he:Region.before ops=ops.toList.foldl XK #[]:=by unfold Region.before;rw[<-Array.foldl_toList];rfl
 unfold ordered at h|-;rw[he] at h|-;obtain⟨o,e,h1,h2,h3,h4⟩:=(aH3 ops.toList #[]).2.2 i j (by simpa using h);exact⟨o,e,by simpa using h1,h2,h3,by simpa using h4⟩
section
variable {base:Nat} {U:Nat->Prop} {M0:List Nat} {w0 w:World} {ν:Nat->Value} {M:Mem} {nt:Nat} {S T:St} {G:GS} {a:Act} {X:Ctx} {K:lN} {fn:Nat} {ops:Array Oper}
def ads(h:Eqv S T)(μ:Nat->Value):Jc μ S.mem μ T.mem:=λr c hc=>⟨c,by rw[<-h.mem r];exact hc,aez μ r c⟩
def Rel.eqv(R:Rel base U M0 w0 ν M nt w S G a)(h:Eqv S T):Rel base U M0 w0 ν M nt w T G a:=by
 have ok:=R.at_.ok;refine⟨⟨⟨?_,ok.dj,ok.djE,ok.nd,ok.ndE,ok.lt,ok.up,ok.bs, ?_,ok.out_⟩,R.at_.E,R.at_.out,R.at_.fr⟩, ?_,R.size,R.defers,zy R.imp (ads h _)⟩
 ·intro r c hc ho;exact NG (ads h _) (View.le_refl _) rfl (λ_ _=>rfl) (ok.cell r c (by rw[h.mem r];exact hc) ho)
 ·intro r hr;exact ok.none_ r (by rw[h.mem r];exact hr)
 ·intro t v hv;obtain⟨h1,h2⟩:=R.tm t v (by rw[h.tm t];exact hv);exact⟨h1,PL (ads h _) (View.le_refl _) _ _ h2⟩
def Cl(ops:Array Oper)(listed:Array Bool):Prop:=∀k,listed.getD k false=true->∀o,ops[k]? =some o->∀e,e∈o.after->Region.binds .any e=true->listed.getD e.on false=true
def Cl.path{listed:Array Bool}(h:Cl ops listed):∀(k j:Nat),listed.getD k false=true->ordered (Region.before ops) k j=true->listed.getD j false=true:=by
 intro k;induction k using Nat.strongRecOn with
 |_ k ih=>
  intro j hk ho;obtain⟨o,e,h1,h2,h3,h4⟩:=agX ho;have he:=h k hk o h1 e h2 h3;rcases h4 with rfl|⟨h5,h6⟩
  ·exact he
  ·exact ih e.on h5 j he h6
def Ok(ops:Array Oper):List (Nat×Log)->Prop:=List.Pairwise λp q=>ordered (Region.before ops) q.1 p.1=true\/anu ops p.1 q.1 p.2 q.2
def aeV:∀{L:List (Nat×Log)},Ym ops (Region.before ops) L=true->L.Pairwise λq p=>ordered (Region.before ops) q.1 p.1=true\/anu ops p.1 q.1 p.2 q.2
 |[],_=>List.Pairwise.nil
 |(i,l)::L,h=>by
  simp only[Ym,wo] at h;refine List.Pairwise.cons ?_ (aeV h.2);rintro⟨j,l'⟩ hj;have:=List.all_eq_true.1 h.1 (j,l') hj;simp only[Bool.or_eq_true,wo] at this;rcases this with h1|⟨h1,h2⟩
  ·exact .inl h1
  ·right;cases ha:ops[i]? with
   |none=>simp[ha] at h2
   |some a=>
    cases hb:ops[j]? with
    |none=>simp[ha,hb] at h2
    |some b=>simp only[ha,hb] at h2;obtain⟨p1,p2,p3⟩:=Oper.apart_spec h2;simp only[Log.apart,wo] at h1;refine⟨⟨b,a,hb,ha,p3,λd hd he=>p2 d he hd,p1⟩,λk hk hr=>adr h1.2 k hr hk,λk hk hr=>adr h1.1.2 k hr hk,λk hk hr=>adr h1.1.1 k hr hk⟩
def akn:∀{is:List Nat} {S S':St} {L L':List (Nat×Log)},MK X K fn ops is S L=some (S',L')->
  ∃T:List (Nat×Log),L'=T.reverse++L/\Tr X K fn ops T S S'/\T.map (·.1)=is
 |[],S,S',L,L',h=>by simp only[MK,lM,qU] at h;obtain⟨rfl,rfl⟩:=h;exact⟨[],rfl,rfl,rfl⟩
 |i::is,S,S',L,L',h=>by
  simp only[MK] at h;cases h1:Ea X K fn ops i S with
  |none=>simp[h1] at h
  |some r=>obtain⟨S1,l1⟩:=r;simp only[h1] at h;obtain⟨T,e,t,m⟩:=akn h;exact⟨(i,l1)::T,by rw[e];simp,⟨S1,h1,t⟩,by simp[m]⟩
def aaq:∀{l:List Oper} {n k:Nat} {o:Oper},Yn n l=true->l[k]? =some o->∀e,e∈o.after->Region.binds .any e=true->e.on<n+k
 |[],_,_,_,_,h=>by simp at h
 |o'::l,n,0,o,hb,h=>by simp only[List.getElem?_cons_zero,lM] at h;subst h;simp only[Yn,wo] at hb;intro e he hbi;have:=List.all_eq_true.1 hb.1 e (by simpa using he);rw[hbi] at this;simpa using this
 |o'::l,n,k+1,o,hb,h=>by simp only[Yn,wo] at hb;intro e he hbi;have:=aaq hb.2 (by simpa using h) e he hbi;omega
def anw{k:Nat}{o:Oper}(hb:backOk ops=true)(h:ops[k]? =some o):∀e,e∈o.after->Region.binds .any e=true->e.on<k:=by intro e he hbi;have:=aaq (n:=0) hb (k:=k) (o:=o) (by simpa using h) e he hbi;omega
def any_ok(hK:aa4 X K U M0 w0)(hnt:XY X.P fn=nt)(hb:backOk ops=true){Q:Exit->Act->World->Prop}:∀(fuel:Nat) {listed:Array Bool} {L:List (Nat×Log)} {w:World} {S S':St} {G:GS} {a:Act}
  (_:L.length<=fuel) (_:listed.size=ops.size) (_:Cl ops listed) (_:∀i,i<ops.size->(listed.getD i true=false↔i∈L.map (·.1))) (_:(L.map (·.1)).Nodup)
  (_:Ok ops L) (_:Tr X K fn ops L S S') (_:Rel base U M0 w0 ν M nt w S G a)
  (_:∀w' G' a',Rel base U M0 w0 ν M nt w' S' G' a'->(Gh U w G).le (Gh U w' G')->Q .normal a' w'),wpAny X.P .any ops Q fuel listed a w
 |0,listed,L,w,S,S',G,a,hf,hs,hcl,hl,hnd,hok,htr,R,hn=>by have:L=[]:=List.length_eq_zero_iff.1 (Nat.le_zero.1 hf);subst this;cases htr;refine⟨?_,hn w G a R (View.le_refl _)⟩;rw[List.eq_nil_iff_forall_not_mem];intro i hi;obtain⟨h1,o,h2,_⟩:=mem_ready.1 hi;have hlt:i<ops.size:=(Array.getElem?_eq_some_iff.1 h2).1;simpa using(hl i hlt).1 h1
 |fuel+1,listed,L,w,S,S',G,a,hf,hs,hcl,hl,hnd,hok,htr,R,hn=>by
  refine⟨λhr=> ?_,λi hi=> ?_⟩
  ·have hL:L=[]:=by
    rw[List.eq_nil_iff_forall_not_mem];have hall:∀i,i ∉ L.map (·.1):=by
     intro i;induction i using Nat.strongRecOn with
     |_ i ih=>
      intro hi;have hlt:i<ops.size:=by
       rcases Nat.lt_or_ge i ops.size with h|h
       ·exact h
       ·obtain⟨⟨i',l⟩,hx,rfl⟩:=List.mem_map.1 hi;exfalso;have:∀{L:List (Nat×Log)} {S S':St},Tr X K fn ops L S S'->∀x,x∈L->∃o,ops[x.1]? =some o:=by
         intro L;induction L with
         |nil=>intro _ _ _ x hx;simp at hx
         |cons y L ihL=>
          rintro S S' ⟨S1,h1,h2⟩ x hx;rcases List.mem_cons.1 hx with rfl|hx
          ·exact agW h1
          ·exact ihL h2 x hx
        obtain⟨o,ho⟩:=this htr _ hx;have:=(Array.getElem?_eq_some_iff.1 ho).1;simp at this h;omega
      have hni:i ∉ Region.ready .any ops listed:=by rw[hr];simp
      apply hni;rw[mem_ready];refine⟨(hl i hlt).2 hi,ops[i],by simp[hlt],λe he hbi=> ?_⟩;have hei:=anw hb (k:=i) (by simp[hlt]) e he hbi;have hel:e.on<ops.size:=Nat.lt_trans hei hlt;have:=ih e.on hei;rw[<-hl e.on hel] at this;have hsz:e.on<listed.size:=by rw[hs];exact hel
      simp only[Array.getD,hsz,dite_true] at this|-;simpa using this
    intro x hx;exact hall x.1 (List.mem_map.2 ⟨x,hx,rfl⟩)
   subst hL;cases htr;exact hn w G a R (View.le_refl _)
  ·obtain⟨h1,o,h2,h3⟩:=mem_ready.1 hi;have hlt:i<ops.size:=(Array.getElem?_eq_some_iff.1 h2).1;obtain⟨⟨i',l⟩,hx,rfl⟩:=List.mem_map.1 ((hl i hlt).1 h1);obtain⟨pre,post,rfl⟩:=List.append_of_mem hx;simp only at h1 h2 h3 hlt hi;have hsz:i'<listed.size:=by rw[hs];exact hlt
   have hun:∀x,x∈pre->listed.getD x.1 false=false/\x.1<ops.size:=by
    intro x hxp;have hxo:∃o,ops[x.1]? =some o:=by
     have:∀{L:List (Nat×Log)} {S S':St},Tr X K fn ops L S S'->∀x,x∈L->∃o,ops[x.1]? =some o:=by
      intro L;induction L with
      |nil=>intro _ _ _ x hx;simp at hx
      |cons y L ihL=>
       rintro S S' ⟨S1,h1,h2⟩ x hx;rcases List.mem_cons.1 hx with rfl|hx
       ·exact agW h1
       ·exact ihL h2 x hx
     exact this htr x (by simp[hxp])
    obtain⟨ox,hox⟩:=hxo;have hxl:=(Array.getElem?_eq_some_iff.1 hox).1;have:=(hl x.1 hxl).2 (List.mem_map.2 ⟨x,by simp[hxp],rfl⟩);have hsx:x.1<listed.size:=by rw[hs];exact hxl
    simp only[Array.getD,hsx,dite_true] at this|-;exact⟨this,hxl⟩
   have aUP:∀x,x∈pre->anu ops x.1 i' x.2 l:=by
    intro x hxp;have:=(List.pairwise_append.1 hok).2.2 x hxp (i',l) (by simp);rcases this with ho|ho
    ·exfalso;obtain⟨o',e,q1,q2,q3,q4⟩:=agX ho;simp only at q1;rw[h2] at q1;cases q1;have hel:=h3 e q2 q3;have hx0:=(hun x hxp).1;rcases q4 with q4|⟨_,q4⟩
     ·rw[q4,hel] at hx0;cases hx0
     ·rw[hcl.path e.on x.1 hel q4] at hx0;cases hx0
    ·exact ho
   obtain⟨S'',⟨S1,r1,r2⟩,hE⟩:=Tr.front htr aUP;refine ant hK hnt R r1 λw1 G1 a1 R1 v1=> ?_
   have hnd':((pre++post).map (·.1)).Nodup/\i' ∉(pre++post).map (·.1):=by
    have h':(pre.map (·.1)++i'::post.map (·.1)).Nodup:=by simpa using hnd
    have h'':=(List.perm_middle (a:=i') (l₁:=pre.map (·.1)) (l₂:=post.map (·.1))).nodup_iff.1 h';rw[List.nodup_cons] at h'';exact⟨by simpa using h''.2,by simpa using h''.1⟩
   refine any_ok hK hnt hb fuel (L:=pre++post) ?_ ?_ ?_ ?_ hnd'.1 ?_ r2 R1 ?_
   ·simp at hf|-;omega
   ·simp[hs]
   ·intro k hk o' ho' e he hbd
    by_cases hki:k=i'
    ·subst hki;rw[h2] at ho';cases ho';have:=h3 e he hbd
     by_cases hei:k=e.on
     ·simp[Array.getD,<-hei,hsz]
     ·rw[getD_set_ne false hei];exact this
    ·rw[getD_set_ne false (Ne.symm hki)] at hk;have:=hcl k hk o' ho' e he hbd
     by_cases hei:i'=e.on
     ·simp[Array.getD,<-hei,hsz]
     ·rw[getD_set_ne false hei];exact this
   ·intro k hk
    by_cases hki:k=i'
    ·subst hki;have e1:(listed.setIfInBounds k true).getD k true=true:=by simp[Array.getD,hsz]
     rw[e1];exact⟨λh=>by simp at h,λh=>absurd h hnd'.2⟩
    ·rw[getD_set_ne true (Ne.symm hki),hl k hk];simp[hki]
   ·have h':=List.pairwise_append.1 hok;exact List.pairwise_append.2 ⟨h'.1,(List.pairwise_cons.1 h'.2.1).2,λx hx y hy=>h'.2.2 x hx y (by simp[hy])⟩
   ·intro w' G' a' R' v';exact hn w' G' a' (R'.eqv hE.symm) (v1.trans' v')
def atx(hK:aa4 X K U M0 w0)(hnt:XY X.P fn=nt)(hM:∀r c,get r M=some c->PI r=true):aDN base U M0 w0 ν M nt X K fn:=by
 intro id ops draw w S S' G a Q R h hn;simp only[region] at h;cases hr:JJ X K fn id ops draw S with
 |none=>simp[hr] at h
 |some r=>
  obtain⟨S1,L⟩:=r;simp only[hr] at h;have hfin:prune (X.TI.keep fn id) S1=some S'->∀w1 G1 a1,Rel base U M0 w0 ν M nt w1 S1 G1 a1->(Gh U w G).le (Gh U w1 G1)->Q .normal a1 w1:=by intro hp w1 G1 a1 R1 v1;obtain⟨G2,R2,v2⟩:=avv R1 hM hp;exact hn w1 G2 a1 R2 (v1.trans' v2)
  simp only[JJ] at hr;cases draw with
  |false=>simp only[aJ] at h;exact wp_region (atp hK hnt R hr (hfin h))
  |true=>
   simp only at h;cases hc:(X.P.follows .mixedOrders &&(backOk ops && Ym ops (Region.before ops) L)) with
   |false=>simp[hc] at h
   |true=>
    simp only[hc,aJ] at h;simp only[wo] at hc;obtain⟨hm,hb,hd⟩:=hc;obtain⟨T,e,ht,hmp⟩:=akn hr;simp only[List.append_nil] at e;subst e;have hok:Ok ops T:=by have:=aeV hd;rw[List.pairwise_reverse] at this;exact this
    have hlen:T.length=ops.size:=by have:=congrArg List.length hmp;simpa using this
    have hR':Rel base U M0 w0 ν M nt {w with drawn:=w.drawn+1} S G a:=by have ok:=R.at_.ok;have fr:=R.at_.fr;have kp:=fr.keep;exact⟨⟨⟨ok.cell,ok.dj,ok.djE,ok.nd,ok.ndE,ok.lt,ok.up,ok.bs,ok.none_,ok.out_⟩,R.at_.E,R.at_.out,⟨⟨kp.os,kp.tape,kp.output,kp.size,kp.block⟩,fr.fr⟩⟩,R.tm,R.size,R.defers,R.imp⟩
    refine wp_region_any hm (any_ok hK hnt hb ops.size (L:=T) ak (by simp) ?_ ?_ ?_ hok ht hR' ?_)
    ·intro k hk;simp[Array.getD] at hk
    ·intro i hi;simp[Array.getD,hi,hmp]
    ·rw[hmp];exact List.nodup_range
    ·intro w' G' a' R' v';exact hfin h w' G' a' R' v'
end
section
variable {base:Nat} {U:Nat->Prop} {w:World} {X:Ctx}
def aty{f i:Nat}{fl:Bool}{m:Mem}{G:GS}{v v':V}{g:Value}{N N1 N2 E:List Nat}(hg:Hu base U w m G)(ho:G.out=[])(hN:N=N1++N2)(hE:(N++E).Perm G.E)
  (hq:match PG X.TI f i with
   |1=>∃x,v=.d x/\ow (dO w) (Gh U w G) x g N1
   |_=>N1=[]/\bn G.μ m (Gh U w G) v g) {m':Mem} {l l':Log} (h:(aqH X.TI f i fl v).run m l=some (v',m',l')):
  ∃G',Hu base U w m' G'/\ZI m G m' G'/\(N2++E).Perm G'.E/\G'.out=[]/\bn G'.μ m' (Gh U w G') v' g:=by
 subst hN;rw[VN] at hE;unfold aqH at h;split at hq
 ·rename_i hmo;obtain⟨x,rfl,hx⟩:=hq;rw[hmo] at h;simp only at h;have hdef:∀y,ow (dO w) (Gh U w G) y g N1->(Pure.pure (V.d (roD y)):Acc V).run m l=some (v',m',l')->
    ∃G',Hu base U w m' G'/\ZI m G m' G'/\(N2++E).Perm G'.E/\G'.out=[]/\bn G'.μ m' (Gh U w G') v' g:=by
   intro y hy h;obtain⟨rfl,rfl,rfl⟩:=rpu h;obtain⟨d1,d2,d3⟩:=hg.agB hE;refine⟨_,d1,d2,List.Perm.refl _,ho, ?_⟩;simp only[bn];exact avf (d3 hy)
  split at h
  ·rename_i s rows he;cases he;replace h:=ay h;obtain⟨x1,m1,l1,h1,h⟩:=h;obtain⟨rfl,rfl,rfl⟩:=rpu h;obtain⟨G1,g1,s1⟩:=aj8 hg (λr hr=>by rw[ho] at hr;simp at hr) hE hx h1;exact⟨G1,g1.ok,g1.le,by rw[g1.E],g1.out.trans ho,s1⟩
  ·rename_i y hne he;cases he;exact hdef _ hx h
  ·exact aN h
 ·rename_i hmo;obtain⟨rfl,hs⟩:=hq;split at h
  ·rename_i e;exact absurd e hmo
  ·obtain⟨rfl,rfl,rfl⟩:=rpu h;exact⟨G,hg,ZI.refl _ _,by simpa using hE,ho,hs⟩
def agY{f:Nat}:∀{vs:List V} {i:Nat} {ts:List TypeId} {gs:List Value} {m:Mem} {G:GS} {N E:List Nat} (_:Hu base U w m G) (_:G.out=[]) (_:(N++E).Perm G.E)
  (_:TU X.TI f G.μ m (dO w) (Gh U w G) i vs gs N) {tm:lX} {m':Mem} {l l':Log} (_:(abU X f i ts vs).run m l=some (tm,m',l')),
  ∃G',Came base U w m G m' G' E/\∀t v,get t tm=some v->∃k g,t=i+k/\gs[k]? =some g/\bn G'.μ m' (Gh U w G') v g
 |[],i,ts,gs,m,G,N,E,hg,ho,hE,hq,tm,m',l,l',h=>by simp only[abU,run_pure,lM,qU] at h;obtain⟨rfl,rfl,rfl⟩:=h;obtain⟨d1,d2,_⟩:=hg.agB hE;exact⟨_,⟨d1,d2,rfl,ho⟩,λt v ht=>by simp[get] at ht⟩
 |v::vs,i,ts,gs,m,G,N,E,hg,ho,hE,hq,tm,m',l,l',h=>by
  simp only[TU] at hq;obtain⟨g,gs',N1,N2,rfl,hN,q1,q2⟩:=hq;simp only[abU] at h;replace h:=ay h;obtain⟨v1,m1,l1,h1,h⟩:=h;replace h:=ay h;obtain⟨r,m2,l2,h2,h⟩:=h;obtain⟨rfl,rfl,rfl⟩:=rpu h;obtain⟨G1,g1,le1,e1,o1,s1⟩:=aty hg ho hN hE q1 h1;have q2':=VX (A:=X.TI) (f:=f) le1.mem le1.view (H':=dO w) (λ_ _=>rfl) q2;obtain⟨G2,c2,s2⟩:=agY g1 o1 e1 q2' h2;refine⟨G2,⟨c2.ok,le1.trans c2.le,c2.E,c2.out⟩,λt u ht=> ?_⟩;simp only[get] at ht
  by_cases hti:t=i
  ·subst hti;simp only[Nat.beq_refl,aJ,lM] at ht;subst ht;exact⟨0,g,by simp,rfl,c2.le.bn s1⟩
  ·rw[zV hti] at ht;simp only[aW] at ht;obtain⟨k,g',e,hk,hs⟩:=s2 t u ht;exact⟨k+1,g',ak,by simpa using hk,hs⟩
def aeW{A:Adv}{f:Nat}{μ:Nat->Value}{m:Mem}{H:Heap}{h:View}:∀{vs:List V} {i:Nat} {gs:List Value} {N:List Nat},TU A f μ m H h i vs gs N->gs.length=vs.length
 |[],_,_,_,q=>by simp only[TU] at q;simp[q.1]
 |v::vs,i,_,_,q=>by simp only[TU] at q;obtain⟨g,gs',N1,N2,rfl,_,_,q2⟩:=q;simp[aeW q2]
def Vp{H:Heap}{h:View}:∀{cs:List Cell} {gs:List Value} {N:List Nat},cellsB H h cs gs N->gs.length=cs.length
 |[],_,_,q=>by simp[q.1]
 |c::cs,_,_,⟨g,gs',N1,N2,e,_,_,q⟩=>by subst e;simp[Vp q]
def agZ{H:Heap}{h:View}{c:Cell}{g:Value}{N:List Nat}(q:anh H h c g N):sameKind c c:=by
 cases c with
 |box t vs=>exact rfl
 |arr fz fl ver s rows=>obtain⟨_,hv,_⟩:=q;exact⟨hv,hv,rfl,rfl⟩
 |dead=>exact q
def adt{H:Heap}{h:View}{m:Mem}:∀{cs:List Cell} {k:Nat} {gs:List Value} {N:List Nat},(∀i,get (uy+(k+i)) m=cs[i]?)->cellsB H h cs gs N->kinds m ((List.range' k cs.length).map (uy+ ·)) cs
 |[],k,gs,N,_,_=>by simp[kinds]
 |c::cs,k,_,_,hm,⟨g,gs',N1,N2,e,_,q1,q2⟩=>by rw[ZE,List.range'_succ,zmc];refine⟨c,c,cs,rfl,by have:=hm 0;simpa using this,agZ q1,adt (λi=> ?_) q2⟩;have:=hm (i+1);rw[show k+1+i=k+(i+1) by omega];simpa using this
def ag0(n:Nat):yc n=(List.range' 0 n).map (uy+ ·):=by rw[yc,List.range_eq_range']
def aar(n:Nat):(yc n).Nodup:=by unfold yc;exact List.Pairwise.map _ (λa b h e=>h (Nat.add_left_cancel e)) List.nodup_range
def aeX{n i:Nat}(h:i<n):(yc n)[i]? =some (uy+i):=by simp[yc,h]
def ag1(n:Nat):(yc n).length=n:=by simp[yc]
def aeY(gs:List Value):(yc gs.length).map (impμ gs)=gs:=by
 apply List.ext_getElem?;intro i;rw[List.getElem?_map]
 by_cases h:i<gs.length
 ·rw[aeX h];simp[impμ,h]
 ·rw[List.getElem?_eq_none (by rw[ag1];omega),List.getElem?_eq_none ak];rfl
def RJ:∀{cs:List Cell} {k r:Nat} {c:Cell},get r (wu k cs)=some c->∃i,r=uy+(k+i)/\cs[i]? =some c
 |[],_,_,_,h=>by simp[wu,get] at h
 |c'::cs,k,r,c,h=>by
  simp only[wu,get] at h
  by_cases e:r=uy+k
  ·subst e;simp only[Nat.beq_refl,aJ,lM] at h;exact⟨0,by simp,by simp[h]⟩
  ·rw[zV e] at h;simp only[aW] at h;obtain⟨i,h1,h2⟩:=RJ h;exact⟨i+1,ak,by simpa using h2⟩
def avx{f:Nat}{fn:Func}{args:List V}{cells:List Cell}{gargs nG:List Value}{N1 N2:List Nat}(hG:Given X base U w f args cells gargs nG N1 N2){tm:lX}{m':Mem}{l':Log}
  (h:(entry X f fn args cells).run (wu 0 cells) .none=some (tm,m',l')) (hn:args.length<=fn.ntmps):
  ∃G,Rel base U (N1++N2) w (impμ nG) (wu 0 cells) fn.ntmps w ⟨tm,m'⟩ G {tmps:=gargs.toArray++Array.replicate (fn.ntmps - gargs.toArray.size) undef,defers:=[]}:=by
 simp only[entry] at h;replace h:=ay h;obtain⟨_,m1,l1,h1,h⟩:=h;have hlen:=Vp hG.cells;have aEU:∀b,excl (λ_=>[]) (N1++N2) b↔b∈N1++N2:=by
  intro b;constructor
  ·rintro(hb|⟨r,hb⟩)
   ·exact hb
   ·simp at hb
  ·exact λhb=> .inl hb
 have hg0:Hu base U w (wu 0 cells) ⟨impμ nG,λ_=>[],N1++N2,yc cells.length⟩:=by
  refine⟨?_, ?_, ?_, ?_,hG.nd, ?_,hG.up,hG.bs, ?_, ?_⟩
  ·intro r c hr hro;exfalso;apply hro;obtain⟨i,e,hi⟩:=RJ hr;have hil:i<cells.length:=(Qm.1 hi).1;show r∈yc cells.length;rw[e,yc];exact List.mem_map.2 ⟨0+i,List.mem_range.2 ak,rfl⟩
  ·intro r r' _ b hb;simp at hb
  ·intro r b hb;simp at hb
  ·intro r;simp
  ·intro b hb;exact hG.lt b ((aEU b).1 hb)
  ·intro r _;rfl
  ·intro r _;rfl
 have hv:(view w U (· ∈N1++N2)).le (Gh U w ⟨impμ nG,λ_=>[],N1++N2,yc cells.length⟩):=UO (λ_ x=>x) (λb hb=>(aEU b).1 hb);have hk0:kinds (wu 0 cells) (yc cells.length) (cells.drop 0):=by rw[List.drop_zero,ag0];exact adt (λi=>by rw[Nat.zero_add];exact UR cells i) hG.cells
 obtain⟨G1,c1⟩:=agG (i:=0) (N:=N2) (E:=N1) hg0 (aar _) rfl hk0 List.perm_append_comm (by rw[List.drop_zero,<-hlen,aeY];exact Ro hv hG.cells) h1;obtain⟨G2,c2,s2⟩:=agY (N:=N1) (E:=[]) c1.ok c1.out (by rw[c1.E];simp) (VX c1.le.mem (hv.trans' c1.le.view) (λ_ _=>rfl) hG.args) h;have hal:=aeW hG.args;refine⟨G2,⟨c2.ok,c2.E,c2.out,⟨Keep.refl _ _,λb hb=> .inl ((aEU b).1 (c1.le.ex b (c2.le.ex b hb)))⟩⟩, ?_, ?_,rfl,zy c1.le.mem c2.le.mem⟩
 ·intro t v ht;obtain⟨k,g,e,hk,hs⟩:=s2 t v ht;have hkl:k<gargs.length:=(Qm.1 hk).1;have ht':t<(gargs.toArray++Array.replicate (fn.ntmps - gargs.toArray.size) undef).size:=by simp;omega
  refine⟨ht', ?_⟩;have:(gargs.toArray++Array.replicate (fn.ntmps - gargs.toArray.size) undef).getD t undef=g:=by rw[Array.getD_eq_getD_getElem?,Array.getElem?_append_left (by simp;omega)];have:t=k:=ak;subst this;simp[hk]
  simp only[this];exact hs
 ·simp;omega
end
section
variable {base:Nat} {U:Nat->Prop} {w:World} {X:Ctx} {P:Program}
def alM(tmps:Array Value):ResultVar->Sem Value
 | .tmp t=>pure (tmps.getD t undef)
 | .cell a t=>do loadVar t (<-asAddr (tmps.getD a undef))
def aas{α:Type}(f:α->Sem Value):∀(l:List α) (gs:List Value),(∀(i:Nat) x,l[i]? =some x->∃g,gs[i]? =some g/\(f x).run P w=.ok g w)->l.length=gs.length->(l.mapM f).run P w=.ok gs w
 |[],gs,_,hl=>by have:gs=[]:=List.length_eq_zero_iff.1 hl.symm;subst this;rfl
 |x::l,gs,h,hl=>by
  cases gs with
  |nil=>simp at hl
  |cons g gs=>obtain⟨g',h1,h2⟩:=h 0 x rfl;simp only[List.getElem?_cons_zero,lM] at h1;subst h1;have ih:=aas f l gs (λi y hy=>by simpa using h (i+1) y (by simpa using hy)) (by simpa using hl);rw[List.mapM_cons];simp only[Sem.run_bind,h2,Result.andThen_ok,ih];rfl
def aeZ{fn:Func}{tmps:Array Value}{gs:List Value}(h:∀(i:Nat) x,fn.results.toList[i]? =some x->∃g,gs[i]? =some g/\(alM tmps x).run P w=.ok g w)(hl:fn.results.toList.length=gs.length):
  (results fn tmps).run P w=.ok (afl gs) w:=by
 have hm:=aas (P:=P) (w:=w) (alM tmps) fn.results.toList gs h hl;have e:results fn tmps=(do
  let vs<-fn.results.mapM (alM tmps)
  pure (if h:vs.size=1 then vs[0] else .tuple vs)):=by
  unfold results
  first
   |rfl
   |(congr 1;done)
   |(congr 1;congr 1;done)
 rw[e,Array.mapM_eq_mapM_toList];simp only[map_eq_pure_bind,Sem.run_bind,hm,Result.andThen_ok,Sem.run_pure];congr 1;unfold afl;cases gs with
 |nil=>rfl
 |cons g gs=>cases gs with
  |nil=>simp
  |cons _ _=>simp
def anx{m0:Mem}{G:GS}{T:TypeId}{v:V}{g:Value}(hg:Hu base U w m0 G)(ho:G.out=[])(hx:bn G.μ m0 (Gh U w G) v g){row:Row}{m':Mem}{l l':Log}(h:(agp T v).run m0 l=some (row,m',l')):
  ∃G' N g',Ny base U w m0 G m' G' N/\g=g'/\∃b a N1,g'=.pointer (some ⟨b,0,none⟩)/\dO w b=some (.cells a T (0,0))/\jU (dO w) (Gh U w G') row a.toList N1/\row.length=a.size/\N=b::N1:=by
 unfold agp at h;split at h
 ·rename_i r off;replace h:=ay h;obtain⟨c,m2,l2,h2,h⟩:=h;rw[Bo] at h2;cases h2;cases hc:get r m0 with
  |none=>rw[hc] at h;exact aN h
  |some c=>
   rw[hc] at h;cases c with
   |box T' cs=>
    simp only at h;replace h:=ay h;obtain⟨_,m2,l2,h2,h⟩:=h;obtain⟨hck,rfl,rfl⟩:=gV h2;simp only[wo] at hck;have e1:=Ia hck.1;have e2:=Ia hck.2;subst e1 e2;replace h:=ay h;obtain⟨_,m3,l3,h3,h⟩:=h;rw[PN] at h3;cases h3;have hr:r ∉ G.out:=by simp[ho]
    obtain⟨b,a,q1,q2,q3,q4⟩:=hg.cell r _ hc hr;simp only[bn,hc] at hx;obtain⟨_,b',hμ,rfl⟩:=hx;rw[hμ] at q1;cases q1;have hbF:b∈G.F r:=by rw[q4];simp
    have hle:=JL (μ:=G.μ) (μ':=G.μ) (c':=.dead) (λ_ _=>rfl) (λc h=>by rw[hc] at h;cases h;trivial);obtain⟨k1,k2⟩:=hg.set r .dead G.μ [] (G.E++[b]) G.out (by
     simpa using List.nodup_append.2 ⟨hg.ndE,by simp,λx hx y hy e=>by simp only[List.mem_singleton] at hy;subst hy;subst e;exact hg.djE r _ hbF hx⟩) (by
     simp only[List.nil_append,List.mem_append,List.mem_singleton];rintro x (hx|rfl)
     ·exact .inr hx
     ·exact .inl hbF) hle (λ_ _=>rfl) (λ_ _=>Iff.rfl) (λ_=>rfl) (λ_ _=>rfl)
    have t0:Ny base U w _ G _ ⟨G.μ,upF G.F r [],G.E++[b],G.out⟩ [b]:=⟨k1,k2,rfl,rfl,rfl⟩
    obtain⟨G',N,t1,p1,hl⟩:=TT k1 (k2.dh q3) ho h;exact⟨G',[b]++N,_,t0.trans t1,rfl,b,a,N,rfl,q2,p1,by rw[hl,<-kE q3,Array.length_toList],rfl⟩
   |_=>exact aN h
 ·exact aN h
def atz{m:Mem}{G:GS}{tm:lX}{a:Act}{r:ResultVar}{t:TypeId}(hg:Hu base U w m G)(ho:G.out=[])(hT:ab1 G.μ m (Gh U w G) tm a){row:Row}{m':Mem}{l l':Log}(h:(alD P tm r t).run m l=some (row,m',l')):
  ∃G' N g,Ny base U w m G m' G' N/\(alM a.tmps r).run P w=.ok g w/\agD P (dO w) (Gh U w G') t row g N:=by
 cases r with
 |tmp x=>
  simp only[alD] at h;have hx:=Yw (P:=P) hT 0 (.tmp x);simp only[ev] at hx;cases hpt:alu P t with
  |some T=>rw[hpt] at h;simp only[agD,hpt];obtain⟨G',N,g,t1,hg1,q1⟩:=anx hg ho hx h;exact⟨G',N,g,t1,by rw[<-hg1];rfl,q1⟩
  |none=>
  rw[hpt] at h;simp only[Rn hpt];have hgo:∀v:V,bn G.μ m (Gh U w G) v (a.eval (.tmp x))->RH P t=false->(VP [v]).run m l=some (row,m',l')->
    ∃G' N g,Ny base U w m G m' G' N/\(alM a.tmps (.tmp x)).run P w=.ok g w/\∃cs,valOf P t cs g/\jU (dO w) (Gh U w G') row cs N/\row.length=cs.length:=by
   intro v hv ht h;obtain⟨G',N,t1,q1,hl⟩:=TT hg (vs:=[v]) (gs:=[a.eval (.tmp x)]) (by simp only[dh];exact⟨_,_,rfl,hv,rfl⟩) ho h;exact⟨G',N,a.eval (.tmp x),t1,rfl,[a.eval (.tmp x)],by simp[valOf,ht],q1,by rw[hl];rfl⟩
  cases ht:RH P t with
  |true=>
   rw[ht] at h;cases hv:ZV x tm with
   |agg cs=>rw[hv] at h hx;simp only[bn] at hx;obtain⟨arr,e,hs⟩:=hx;obtain⟨G',N,t1,q1,hl⟩:=TT hg hs ho h;refine⟨G',N,_,t1,rfl,arr.toList, ?_,q1,by rw[hl,kE hs]⟩;simp only[valOf,ht,if_true];exact e
   |_=>rw[hv] at h;exact aN h
  |false=>
   rw[ht] at h;cases hv:ZV x tm with
   |agg cs=>rw[hv] at h;exact aN h
   |_=>rw[hv] at h hx;exact hgo _ hx ht h
 |cell y T=>
  simp only[alD] at h;have hx:=Yw (P:=P) hT 0 (.tmp y);simp only[ev] at hx;split at h
  ·rename_i r he;rw[he] at hx;replace h:=ay h;obtain⟨c,m2,l2,h2,h⟩:=h;rw[Bo] at h2;cases h2;cases hc:get r m with
   |none=>rw[hc] at h;exact aN h
   |some c=>
    rw[hc] at h;cases c with
    |box T' cs=>
     simp only at h;replace h:=ay h;obtain⟨_,m2,l2,h2,h⟩:=h;obtain⟨hck,rfl,rfl⟩:=gV h2;simp only[wo,Bool.or_eq_true] at hck;obtain⟨⟨⟨hTt,hlen⟩,hok,hagg⟩,aEV⟩:=hck;have aEV:alu P t=none:=by simpa using aEV
     have hTt:=Ia hTt;have hlen:=Ia hlen;subst hTt;simp only[bn,hc] at hx;obtain⟨_,b,hμ,hg0⟩:=hx;obtain⟨b',arr,e1,e2,e3,e4⟩:=hg.cell r _ hc (by rw[ho];simp);rw[hμ] at e1;cases e1;obtain⟨G',N,t1,q1,hl⟩:=TT hg e3 ho h;have hal:=kE e3;obtain⟨g,hvg⟩:∃g,valOf P T arr.toList g:=by
      unfold valOf;cases ha:RH P T with
      |true=>exact⟨_,rfl⟩
      |false=>
       have h1:cs.length=1:=by
        rcases hagg with h1|h1
        ·rw[ha] at h1;cases h1
        ·exact Ia h1
       cases hr:arr.toList with
       |nil=>rw[hr] at hal;simp[h1] at hal
       |cons g r=>
        cases r with
        |nil=>exact⟨g,rfl⟩
        |cons _ _=>rw[hr] at hal;simp[h1] at hal
     refine⟨G',N,g,t1, ?_,(Rn aEV).2 ⟨arr.toList,hvg,q1,by rw[hl,hal]⟩⟩;have hrun:=WU (P:=P) (w:=w) (t:=T) (b:=b) (off:=0) (cs:=arr.toList) (g:=g) hok (by rw[hal,hlen]) (by intro j v hj;have hH:w.heap[b]? =some (.cells arr T' (0,0)):=e2;simp only[World.cell?,hH,Nat.zero_add];simpa using hj) hvg;simp only[alM];have hg0:a.tmps.getD y undef=.pointer (some ⟨b,0,none⟩):=hg0;rw[hg0];simpa[Instr.loadAt,Instr.sureAddr,asAddr] using hrun
    |_=>exact aN h
  ·exact aN h
def ag2{tm:lX}{a:Act}:∀{rs:List ResultVar} {ts:List TypeId} {m:Mem} {G:GS} (_:Hu base U w m G) (_:G.out=[]) (_:ab1 G.μ m (Gh U w G) tm a) {rows:List Row} {m':Mem} {l l':Log}
  (_:(ZH P tm rs ts).run m l=some (rows,m',l')),∃G' N gs,Ny base U w m G m' G' N/\(∀(i:Nat) x,rs[i]? =some x->∃g,gs[i]? =some g/\(alM a.tmps x).run P w=.ok g w)/\rs.length=gs.length/\
   VY P (dO w) (Gh U w G') ts rows gs N
 |[],[],m,G,hg,ho,hT,rows,m',l,l',h=>by simp only[ZH,run_pure,lM,qU] at h;obtain⟨rfl,rfl,rfl⟩:=h;exact⟨G,[],[],Ny.same hg,λi x h=>by simp at h,rfl,rfl,rfl,rfl⟩
 |r::rs,t::ts,m,G,hg,ho,hT,rows,m',l,l',h=>by
  simp only[ZH] at h;replace h:=ay h;obtain⟨row,m1,l1,h1,h⟩:=h;replace h:=ay h;obtain⟨rows',m2,l2,h2,h⟩:=h;obtain⟨rfl,rfl,rfl⟩:=rpu h;obtain⟨G1,N1,g,t1,r1,v1⟩:=atz hg ho hT h1;obtain⟨G2,N2,gs,t2,r2,e2,q2⟩:=ag2 t1.ok (t1.out.trans ho) (λt v hv=>⟨(hT t v hv).1,t1.le.bn (hT t v hv).2⟩) h2;refine⟨G2,N1++N2,g::gs,t1.trans t2, ?_,by simp[e2],row,rows',g,gs,N1,N2,rfl,rfl,rfl,aj9 t2.le.view (λ_ _=>rfl) v1,q2⟩;intro i x hx;cases i with
  |zero=>simp only[List.getElem?_cons_zero,lM] at hx;subst hx;exact⟨g,rfl,r1⟩
  |succ i=>simpa using r2 i x (by simpa using hx)
 |[],_::_,_,_,_,_,_,_,_,_,_,h=>aN h
 |_::_,[],_,_,_,_,_,_,_,_,_,h=>aN h
def atA{μ μ':Nat->Value}{r:Nat}{c c' d:Cell}(hc:sameKind c c)(h:ML μ μ' r c c')(k:sameKind c' d):μ' r=μ r/\sameKind c d:=by
 cases c<;>cases c'<;>cases d<;>simp only[sameKind,ML] at hc h k|-
 ·exact⟨h.2,h.1.symm.trans k⟩
 ·obtain⟨a1,a2,a3,a4⟩:=k;obtain⟨b1,b2,b3⟩:=h;obtain⟨c1,_,_,_⟩:=hc;have:=b3 (c1.trans a1.symm);exact⟨this.1,c1,a2,b2.symm.trans a3,this.2.symm.trans a4⟩
 all_goals trivial
def ako{μ μ':Nat->Value}{m0 m1:Mem}(hle:Jc μ m0 μ' m1):∀{rs:List Nat} {cs ds:List Cell},kinds m0 rs cs->kinds m1 rs ds->(∀c,c∈cs->sameKind c c)->(∀(i r:Nat) c,rs[i]? =some r->cs[i]? =some c->get r m0=some c)->rs.map μ'=rs.map μ/\ar6 cs ds
 |[],cs,ds,h,k,_,_=>by simp only[kinds] at h k;subst h;subst k;exact⟨rfl,rfl⟩
 |r::rs,cs,ds,⟨c,c',cs',e1,h1,h2,h3⟩,⟨d,d',ds',e2,k1,k2,k3⟩,hs,hg=>by subst e1;subst e2;have hc:=hg 0 r c' rfl rfl;obtain⟨c2,q1,q2⟩:=hle r c' hc;rw[k1] at q1;cases q1;obtain⟨p1,p2⟩:=atA (hs c' (by simp)) q2 k2;obtain⟨r1,r2⟩:=ako hle h3 k3 (λc hc=>hs c (by simp[hc])) (λi r c hr hc=>hg (i+1) r c (by simpa using hr) (by simpa using hc));exact⟨by simp[p1,r1],d',ds',rfl,p2,r2⟩
def ae0{H:Heap}{h:View}:∀{cs:List Cell} {gs:List Value} {N:List Nat},cellsB H h cs gs N->∀c,c∈cs->sameKind c c
 |[],_,_,_,c,hc=>by simp at hc
 |c::cs,_,_,⟨g,gs',N1,N2,e,_,q1,q2⟩,d,hd=>by
  rcases List.mem_cons.1 hd with rfl|hd
  ·exact agZ q1
  ·exact ae0 q2 d hd
def avy{f:Nat}{fn:Func}{args:List V}{cells outs:List Cell}{gargs nG:List Value}{N1 N2:List Nat}{w':World}(hG:Given X base U w f args cells gargs nG N1 N2){S:St}{G:GS}{a:Act}{nt:Nat}
  (R:Rel base U (N1++N2) w (impμ nG) (wu 0 cells) nt w' S G a) {rows:List Row} (h:leave X fn cells.length S=some (rows,outs)):
  ∃gs M1 M2,(results fn a.tmps).run X.P w'=.ok (afl gs) w'/\Did X.P U w w' (N1++N2) fn.resultTypes.toList cells outs nG rows gs M1 M2:=by
 simp only[leave] at h;split at h
 ·rename_i r m' l' hr;simp only[lM] at h;subst h;replace hr:=ay hr;obtain⟨a1D,m1,l1,h1,hr⟩:=hr;replace hr:=ay hr;obtain⟨cs1,m2,l2,h2,hr⟩:=hr;simp only[run_pure,lM,qU] at hr;obtain⟨⟨rfl,rfl⟩,rfl,rfl⟩:=hr;obtain⟨G1,Nr,gs,t1,r1,e1,q1⟩:=ag2 R.at_.ok R.at_.out R.tm h1;have ho1:G1.out=[]:=t1.out.trans R.at_.out;obtain⟨G2,Nc,t2,q2,kd2⟩:=adk t1.ok (aar cells.length) (λr hr=>⟨hr,by rw[ho1];simp⟩) (λr hr=>by rw[ho1] at hr;simp at hr) h2;have hE2:G2.E=Nr++Nc:=by rw[t2.E,t1.E,R.at_.E];rfl
  have hlen:=Vp hG.cells;have hk0:kinds (wu 0 cells) (yc cells.length) cells:=by rw[ag0];exact adt (λi=>by rw[Nat.zero_add];exact UR cells i) hG.cells
  obtain⟨b1,b2⟩:=ako (zy R.imp t1.le.mem) hk0 kd2 (ae0 hG.cells) (by intro i r c hr hc;have hi:i<cells.length:=(Qm.1 hc).1;rw[aeX hi] at hr;cases hr;rw[UR];exact hc);have hv:(Gh U w' G2).le (view w' U (· ∈Nc++Nr)):=UO (λ_ x=>x) (λb hb=> .inl (by rw[hE2];simp only[List.mem_append] at hb|-;exact hb.symm));refine⟨gs,Nc,Nr,aeZ r1 e1,R.at_.fr.keep, ?_, ?_,b2, ?_, ?_⟩
  ·have:=t2.ok.ndE;rw[hE2] at this;exact(List.perm_append_comm.nodup_iff).1 this
  ·intro b hb;have hbE:b∈G2.E:=by rw[hE2];simp only[List.mem_append] at hb|-;exact hb.symm
   exact⟨R.at_.fr.fr b (t1.le.ex b (t2.le.ex b (.inl hbE))),(t2.ok.lt b (.inl hbE)).1⟩
  ·rw[b1,<-hlen,aeY] at q2;exact Ro hv q2
  ·exact TV (t2.le.view.trans' hv) (λ_ _=>rfl) q1
 ·cases h
def azj{K:lN}(hK:Sound X K){f:FuncId}{fn:Func}{args:List V}{cells:List Cell}{rows:List Row}{outs:List Cell}(hf:X.P.funcs[f]? =some fn)(h:body X K f args cells=some (rows,outs))
  {gargs nG:List Value} {N1 N2:List Nat} (hG:Given X base U w f args cells gargs nG N1 N2):
  Calls X.P f gargs.toArray w λe w'=>∃gs M1 M2,e=.returned (afl gs)/\Did X.P U w w' (N1++N2) fn.resultTypes.toList cells outs nG rows gs M1 M2:=by
 simp only[body,hf] at h;cases hb:fn.body with
 |none=>simp[hb] at h
 |some c=>
  simp only[hb] at h;cases hn:(Nat.ble cells.length uy && Nat.ble args.length fn.ntmps) with
  |false=>simp[hn] at h
  |true=>
   simp only[hn,Bool.not_true,aW] at h;simp only[wo] at hn;have hn1:=Nat.le_of_ble_eq_true hn.1;have hn2:=Nat.le_of_ble_eq_true hn.2;split at h
   ·rename_i tm m' l' he;obtain⟨G,R⟩:=avx hG he hn2;have hM:∀r c,get r (wu 0 cells)=some c->PI r=true:=by intro r c hr;obtain⟨i,e,hi⟩:=RJ hr;have hil:i<cells.length:=(Qm.1 hi).1;subst e;simp only[PI,wo];exact⟨Nat.ble_eq_true_of_le ak,by rw[Nat.blt_eq];omega⟩
    have hnt:XY X.P f=fn.ntmps:=by simp[XY,hf]
    have aH4:=atx (base:=base) (U:=U) (M0:=N1++N2) (w0:=w) (ν:=impμ nG) ⟨hK,hG.gl⟩ hnt hM;have hfin:∀ex S,leave X fn cells.length S=some (rows,outs)->(ex=Ex.normal\/ex=Ex.ret)->∀w' G' a',Rel base U (N1++N2) w (impμ nG) (wu 0 cells) fn.ntmps w' S G' a'->(Gh U w G).le (Gh U w' G')->
      bodyPost X.P fn (λe w'=>∃gs M1 M2,e=.returned (afl gs)/\Did X.P U w w' (N1++N2) fn.resultTypes.toList cells outs nG rows gs M1 M2) (aET ex) a' w':=by
     intro ex S hl hex w' G' a' R' _;obtain⟨gs,M1,M2,hr,hd⟩:=avy hG R' hl;rcases hex with rfl|rfl<;>exact⟨R'.defers,_,hr,gs,M1,M2,rfl,hd⟩
    split at h
    ·rename_i S hd;exact calls_of_wp hf hb (avw aH4 c R hd (hfin _ _ h (.inl rfl)))
    ·rename_i S hd;exact calls_of_wp hf hb (avw aH4 c R hd (hfin _ _ h (.inr rfl)))
    ·cases h
   ·cases h
end
def alN(X:Ctx):Prop:=∀(f:FuncId) (p:List V->List Cell->Option (List Row×List Cell)) (fn:Func) (args:List V) (cells:List Cell) (rows:List Row) (outs:List Cell),X.VO f=some p->X.P.funcs[f]? =some fn->fn.body.isSome=true->p args cells=some (rows,outs)->
 ∀(base:Nat) (U:Nat->Prop) (w:World) (gargs nG:List Value) (N1 N2:List Nat),Given X base U w f args cells gargs nG N1 N2->
  Calls X.P f gargs.toArray w λe w'=>∃gs M1 M2,e=.returned (afl gs)/\Did X.P U w w' (N1++N2) fn.resultTypes.toList cells outs nG rows gs M1 M2
def anz{X:Ctx}(hp:alN X):∀n,Sound X (Yp X n)
 |0=>by intro f fn args cells rows outs hf hb h;simp[Yp] at h
 |n+1=>by
  intro f fn args cells rows outs hf hb h base U w gargs nG N1 N2 hG;simp only[Yp] at h;cases hx:X.VO f with
  |some p=>rw[hx] at h;exact hp f p fn args cells rows outs hx hf hb h base U w gargs nG N1 N2 hG
  |none=>rw[hx] at h;exact azj (anz hp n) hf h hG
def azk{X:Ctx}(hp:alN X):Sound X (call X):=by intro f fn args cells rows outs hf hb h base U w gargs nG N1 N2 hG;obtain⟨n,hn⟩:=V9 h;exact anz hp n f fn args cells rows outs hf hb hn base U w gargs nG N1 N2 hG
def KLe(K K':lN):Prop:=∀f args cells r,K f args cells=some r->K' f args cells=some r
def KLe.refl(K:lN):KLe K K:=λ_ _ _ _ h=>h
def KLe.trans{K1 K2 K3:lN}(h:KLe K1 K2)(k:KLe K2 K3):KLe K1 K3:=λf a c r q=>k f a c r (h f a c r q)
def DT{α:Type}(A:lN->Acc α):Prop:=∀K K',KLe K K'->∀m l r,(A K).run m l=some r->(A K').run m l=some r
def DT.const{α:Type}(a:Acc α):DT λ_=>a:=λ_ _ _ _ _ _ h=>h
def DT.bind{α β:Type}{A:lN->Acc α}{B:lN->α->Acc β}(h:DT A)(k:∀x,DT λK=>B K x):DT λK=>A K>>=B K:=by intro K K' hK m l r hr;obtain⟨y,m',l'⟩:=r;obtain⟨x,m1,l1,h1,h2⟩:=ay hr;rw[run_bind,h K K' hK m l _ h1];exact k x K K' hK m1 l1 _ h2
def DT.op{f:Nat}{args:List V}{cells:List Cell}:DT λK=>op' (K f args cells):=by intro K K' hK m l r hr;obtain⟨x,m',l'⟩:=r;obtain⟨h1,rfl,rfl⟩:=lV hr;simp only;rw[hK f args cells x h1];rfl
def ACt{α:Type}(Kn:Nat->lN)(K:lN)(A:lN->Acc α):Prop:=∀m l r,(A K).run m l=some r->∃n,(A (Kn n)).run m l=some r
def Chain(Kn:Nat->lN):Prop:=∀n,KLe (Kn n) (Kn (n+1))
def Chain.le{Kn:Nat->lN}(h:Chain Kn){n k:Nat}(hk:n<=k):KLe (Kn n) (Kn k):=by
 induction hk with
 |refl=>exact KLe.refl _
 |step _ ih=>exact ih.trans (h _)
section
variable {Kn:Nat->lN} {K:lN} (hc:Chain Kn)
def ACt.const{α:Type}(a:Acc α):ACt Kn K λ_=>a:=λ_ _ _ h=>⟨0,h⟩
include hc in
theorem ACt.bind{α β:Type}{A:lN->Acc α}{B:lN->α->Acc β}(hu:DT A)(ku:∀x,DT λK=>B K x)(h:ACt Kn K A)(k:∀x,ACt Kn K λK=>B K x):ACt Kn K λK=>A K>>=B K:=by intro m l r hr;obtain⟨y,m',l'⟩:=r;obtain⟨x,m1,l1,h1,h2⟩:=ay hr;obtain⟨n1,q1⟩:=h m l _ h1;obtain⟨n2,q2⟩:=k x m1 l1 _ h2;refine⟨max n1 n2, ?_⟩;rw[run_bind,hu _ _ (hc.le (Nat.le_max_left n1 n2)) m l _ q1];exact ku x _ _ (hc.le (Nat.le_max_right n1 n2)) m1 l1 _ q2
theorem ACt.op(hK:∀f args cells r,K f args cells=some r->∃n,Kn n f args cells=some r){f:Nat}{args:List V}{cells:List Cell}:ACt Kn K λK=>op' (K f args cells):=by intro m l r hr;obtain⟨x,m',l'⟩:=r;obtain⟨h1,rfl,rfl⟩:=lV hr;obtain⟨n,hn⟩:=hK f args cells x h1;refine⟨n, ?_⟩;simp only;rw[hn];rfl
end
def avz(X:Ctx)(fn dst f:Nat)(args:List V):DT λK=>abR X K fn dst f args:=by unfold abR;refine DT.bind (DT.const _) λg=>DT.bind (DT.const _) λ_=>DT.bind (DT.const _) λargs=>DT.bind (DT.const _) λcells=>DT.bind (DT.const _) fun⟨args,Ri⟩=>DT.bind (DT.const _) λ_=>DT.bind DT.op λout=>DT.const _
def avA{Kn:Nat->lN}{K:lN}(hc:Chain Kn)(hK:∀f args cells r,K f args cells=some r->∃n,Kn n f args cells=some r)(X:Ctx)(fn dst f:Nat)(args:List V):ACt Kn K λK=>abR X K fn dst f args:=by
 unfold abR;refine ACt.bind hc (DT.const _) ?_ (ACt.const _) λg=> ?_
 ·exact λg=>DT.bind (DT.const _) λ_=>DT.bind (DT.const _) λargs=>DT.bind (DT.const _) λcells=>DT.bind (DT.const _) fun⟨args,Ri⟩=>DT.bind (DT.const _) λ_=>DT.bind DT.op λout=>DT.const _
 refine ACt.bind hc (DT.const _) ?_ (ACt.const _) λ_=> ?_
 ·exact λg=>DT.bind (DT.const _) λargs=>DT.bind (DT.const _) λcells=>DT.bind (DT.const _) fun⟨args,Ri⟩=>DT.bind (DT.const _) λ_=>DT.bind DT.op λout=>DT.const _
 refine ACt.bind hc (DT.const _) ?_ (ACt.const _) λargs=> ?_
 ·exact λg=>DT.bind (DT.const _) λcells=>DT.bind (DT.const _) fun⟨args,Ri⟩=>DT.bind (DT.const _) λ_=>DT.bind DT.op λout=>DT.const _
 refine ACt.bind hc (DT.const _) ?_ (ACt.const _) λcells=> ?_
 ·exact λg=>DT.bind (DT.const _) fun⟨args,Ri⟩=>DT.bind (DT.const _) λ_=>DT.bind DT.op λout=>DT.const _
 refine ACt.bind hc (DT.const _) ?_ (ACt.const _) fun⟨args,Ri⟩=> ?_
 ·exact fun⟨args,Ri⟩=>DT.bind (DT.const _) λ_=>DT.bind DT.op λout=>DT.const _
 refine ACt.bind hc (DT.const _) ?_ (ACt.const _) λ_=> ?_
 ·exact λ_=>DT.bind DT.op λout=>DT.const _
 exact ACt.bind hc DT.op (λout=>DT.const _) (ACt.op hK) λout=>ACt.const _
def aEW(X:Ctx)(fn:Nat)(tm:lX)(o:Oper):DT λK=>vop X K fn tm o:=by
 obtain⟨dst,op,type,pos,after,guard⟩:=o;cases op<;>try exact DT.const _
 case call c=>
  obtain⟨callee,args,tys⟩:=c;cases callee with
  |value f=>
   simp only[vop];split
   ·exact avz X fn _ _ _
   ·exact DT.const _
  |invoke r m=>exact DT.const _
  |builtin b=>cases b<;>exact DT.const _
 case slice a b c d e=>cases e<;>exact DT.const _
def aEX{Kn:Nat->lN}{K:lN}(hc:Chain Kn)(hK:∀f args cells r,K f args cells=some r->∃n,Kn n f args cells=some r)(X:Ctx)(fn:Nat)(tm:lX)(o:Oper):ACt Kn K λK=>vop X K fn tm o:=by
 obtain⟨dst,op,type,pos,after,guard⟩:=o;cases op<;>try exact ACt.const _
 case call c=>
  obtain⟨callee,args,tys⟩:=c;cases callee with
  |value f=>
   simp only[vop];split
   ·exact avA hc hK X fn _ _ _
   ·exact ACt.const _
  |invoke r m=>exact ACt.const _
  |builtin b=>cases b<;>exact ACt.const _
 case slice a b c d e=>cases e<;>exact ACt.const _
def Up{β:Type}(E:lN->Option β):Prop:=∀K K',KLe K K'->∀r,E K=some r->E K'=some r
def Ct{β:Type}(Kn:Nat->lN)(K:lN)(E:lN->Option β):Prop:=∀r,E K=some r->∃n,E (Kn n)=some r
def Up.const{β:Type}(e:Option β):Up λ_=>e:=λ_ _ _ _ h=>h
def Ct.const{β:Type}{Kn:Nat->lN}{K:lN}(e:Option β):Ct Kn K λ_=>e:=λ_ h=>⟨0,h⟩
def Up.bind{α β:Type}{E:lN->Option α}{F:lN->α->Option β}(h:Up E)(k:∀x,Up λK=>F K x):Up λK=>(E K).bind (F K):=by intro K K' hK r hr;simp only[Option.bind_eq_some_iff] at hr|-;obtain⟨x,h1,h2⟩:=hr;exact⟨x,h K K' hK x h1,k x K K' hK r h2⟩
def Ct.bind{α β:Type}{Kn:Nat->lN}{K:lN}(hc:Chain Kn){E:lN->Option α}{F:lN->α->Option β}(hu:Up E)(ku:∀x,Up λK=>F K x)(h:Ct Kn K E)(k:∀x,Ct Kn K λK=>F K x):Ct Kn K λK=>(E K).bind (F K):=by intro r hr;simp only[Option.bind_eq_some_iff] at hr|-;obtain⟨x,h1,h2⟩:=hr;obtain⟨n1,q1⟩:=h x h1;obtain⟨n2,q2⟩:=k x r h2;exact⟨max n1 n2,x,hu _ _ (hc.le (Nat.le_max_left n1 n2)) x q1,ku x _ _ (hc.le (Nat.le_max_right n1 n2)) r q2⟩
def anA(X:Ctx)(fn:Nat)(ops:Array Oper)(i:Nat)(S:St):Up λK=>Ea X K fn ops i S:=by
 intro K K' hK r hr;simp only[Ea] at hr|-;cases ho:ops[i]? with
 |none=>simp[ho] at hr
 |some o=>
  simp only[ho] at hr|-;cases hw:F9 ops S.tm o with
  |none=>simp[hw] at hr
  |some bt=>
   obtain⟨b,tm⟩:=bt;cases b with
   |false=>simpa[hw] using hr
   |true=>
    simp only[hw] at hr|-;cases hv:(vop X K fn tm o).run S.mem .none with
    |none=>simp[hv] at hr
    |some q=>rw[aEW X fn tm o K K' hK S.mem .none q hv];rw[hv] at hr;exact hr
def avC{Kn:Nat->lN}{K:lN}(hc:Chain Kn)(hK:∀f args cells r,K f args cells=some r->∃n,Kn n f args cells=some r)(X:Ctx)(fn:Nat)(ops:Array Oper)(i:Nat)(S:St):Ct Kn K λK=>Ea X K fn ops i S:=by
 intro r hr;simp only[Ea] at hr|-;cases ho:ops[i]? with
 |none=>simp[ho] at hr
 |some o=>
  simp only[ho] at hr|-;cases hw:F9 ops S.tm o with
  |none=>simp[hw] at hr
  |some bt=>
   obtain⟨b,tm⟩:=bt;cases b with
   |false=>exact⟨0,by simpa[hw] using hr⟩
   |true=>
    simp only[hw] at hr|-;cases hv:(vop X K fn tm o).run S.mem .none with
    |none=>simp[hv] at hr
    |some q=>obtain⟨n,hn⟩:=aEX hc hK X fn tm o S.mem .none q hv;exact⟨n,by rw[hn];rw[hv] at hr;exact hr⟩
def adu(X:Ctx)(fn:Nat)(ops:Array Oper)(i:Nat)(is:List Nat)(S:St)(L:List (Nat×Log))(K:lN):
  MK X K fn ops (i::is) S L=(Ea X K fn ops i S).bind λr=>MK X K fn ops is r.1 ((i,r.2)::L):=by
 simp only[MK];cases Ea X K fn ops i S with
 |none=>rfl
 |some r=>rfl
def adw(X:Ctx)(fn:Nat)(ops:Array Oper):∀(is:List Nat) (S:St) (L:List (Nat×Log)),Up λK=>MK X K fn ops is S L
 |[],S,L=>Up.const _
 |i::is,S,L=>by simp only[adu];exact Up.bind (anA X fn ops i S) λr=>adw X fn ops is r.1 _
def akp{Kn:Nat->lN}{K:lN}(hc:Chain Kn)(hK:∀f args cells r,K f args cells=some r->∃n,Kn n f args cells=some r)(X:Ctx)(fn:Nat)(ops:Array Oper):∀(is:List Nat) (S:St) (L:List (Nat×Log)),Ct Kn K λK=>MK X K fn ops is S L
 |[],S,L=>Ct.const _
 |i::is,S,L=>by simp only[adu];exact Ct.bind hc (anA X fn ops i S) (λr=>adw X fn ops is r.1 _) (avC hc hK X fn ops i S) λr=>akp hc hK X fn ops is r.1 _
def ab9(X:Ctx)(fn id:Nat)(ops:Array Oper)(draw:Bool)(S:St):Up λK=>JJ X K fn id ops draw S:=adw X fn ops _ S _
def alO{Kn:Nat->lN}{K:lN}(hc:Chain Kn)(hK:∀f args cells r,K f args cells=some r->∃n,Kn n f args cells=some r)(X:Ctx)(fn id:Nat)(ops:Array Oper)(draw:Bool)(S:St):Ct Kn K λK=>JJ X K fn id ops draw S:=akp hc hK X fn ops _ S _
def adx(X:Ctx)(fn id:Nat)(ops:Array Oper)(draw:Bool)(S:St)(K:lN):
  region X K fn id ops draw S=(JJ X K fn id ops draw S).bind λr=>bif(match draw with|false=>true|true=>X.P.follows .mixedOrders &&(backOk ops && Ym ops (Region.before ops) r.2)) then prune (X.TI.keep fn id) r.1 else none:=by
 simp only[region];cases JJ X K fn id ops draw S with
 |none=>rfl
 |some r=>rfl
def akq(X:Ctx)(fn id:Nat)(ops:Array Oper)(draw:Bool)(S:St):Up λK=>region X K fn id ops draw S:=by simp only[adx];exact Up.bind (ab9 X fn id ops draw S) λr=>Up.const _
def atB{Kn:Nat->lN}{K:lN}(hc:Chain Kn)(hK:∀f args cells r,K f args cells=some r->∃n,Kn n f args cells=some r)(X:Ctx)(fn id:Nat)(ops:Array Oper)(draw:Bool)(S:St):Ct Kn K λK=>region X K fn id ops draw S:=by simp only[adx];exact Ct.bind hc (ab9 X fn id ops draw S) (λr=>Up.const _) (alO hc hK X fn id ops draw S) λr=>Ct.const _
def ady{b:St->Option (Ex×St)}:∀{n k:Nat} {S:St} {r:Ex×St},iter b n S=some r->n<=k->iter b k S=some r
 |0,_,_,_,h,_=>by simp[iter] at h
 |n+1,0,_,_,_,hk=>by omega
 |n+1,k+1,S,r,h,hk=>by
  simp only[iter] at h|-;cases hb:b S with
  |none=>simp[hb] at h
  |some q=>
   obtain⟨e,S'⟩:=q;rw[hb] at h;cases e with
   |normal=>exact ady h ak
   |exit id=>exact h
   |ret=>exact h
def sF{α:Type}{f:Nat->Option α}{x:α}{n:Nat}(hn:f n=some x)(h:∀m y,f m=some y->y=x):lim f=some x:=by unfold lim;rw[dif_pos ⟨x,n,hn⟩];congr 1;obtain⟨m,hm⟩:=Classical.choose_spec (⟨x,n,hn⟩:∃a n,f n=some a);exact h m _ hm
def acd{b:St->Option (Ex×St)}{S:St}{r:Ex×St}{n:Nat}(h:iter b n S=some r):Yo b S=some r:=by
 refine sF h λm y hy=> ?_
 have h1:=ady h (Nat.le_max_left n m);rw[ady hy (Nat.le_max_right n m)] at h1;exact Option.some.inj h1
def aa7{b:St->Option (Ex×St)}{S:St}{r:Ex×St}(h:Yo b S=some r):∃n,iter b n S=some r:=V9 h
def iter_eq{b:St->Option (Ex×St)}{n:Nat}{S:St}:iter b (n+1) S=(b S).bind λq=>match q with|(.normal,S')=>iter b n S'|(e,S')=>some (e,S'):=by
 simp only[iter];cases b S with
 |none=>rfl
 |some q=>obtain⟨e,S'⟩:=q;cases e<;>rfl
def alP{B:lN->St->Option (Ex×St)}(h:∀S,Up λK=>B K S):∀(n:Nat) (S:St),Up λK=>iter (B K) n S
 |0,S=>Up.const _
 |n+1,S=>by
  simp only[iter_eq];refine Up.bind (h S) λq=> ?_
  obtain⟨e,S'⟩:=q;cases e with
  |normal=>exact alP h n S'
  |exit id=>exact Up.const _
  |ret=>exact Up.const _
def ar9{Kn:Nat->lN}{K:lN}(hc:Chain Kn){B:lN->St->Option (Ex×St)}(hu:∀S,Up λK=>B K S)(h:∀S,Ct Kn K λK=>B K S):∀(n:Nat) (S:St),Ct Kn K λK=>iter (B K) n S
 |0,S=>Ct.const _
 |n+1,S=>by
  simp only[iter_eq];refine Ct.bind hc (hu S) (λq=> ?_) (h S) λq=> ?_
  all_goals
   obtain⟨e,S'⟩:=q;cases e
  ·exact alP hu n S'
  ·exact Up.const _
  ·exact Up.const _
  ·exact ar9 hc hu h n S'
  ·exact Ct.const _
  ·exact Ct.const _
def avD{B:lN->St->Option (Ex×St)}(h:∀S,Up λK=>B K S)(S:St):Up λK=>Yo (B K) S:=by intro K K' hK r hr;obtain⟨n,hn⟩:=aa7 hr;exact acd (alP h n S K K' hK r hn)
def avE{Kn:Nat->lN}{K:lN}(hc:Chain Kn){B:lN->St->Option (Ex×St)}(hu:∀S,Up λK=>B K S)(h:∀S,Ct Kn K λK=>B K S)(S:St):Ct Kn K λK=>Yo (B K) S:=by intro r hr;obtain⟨n,hn⟩:=aa7 hr;obtain⟨k,hk⟩:=ar9 hc hu h n S r hn;exact⟨k,acd hk⟩
def alQ(X:Ctx)(fn:Nat)(c:Code):∀S,Up λK=>den X K fn c S:=by
 induction c with
 |region id ops draw=>
  intro S K K' hK r hr;simp only[den] at hr|-;cases h:region X K fn id ops draw S with
  |none=>simp[h] at hr
  |some S'=>have he0:=akq X fn id ops draw S K K' hK S' h;dsimp only at he0;rw[he0];rw[h] at hr;exact hr
 |seq a b iha ihb=>
  intro S K K' hK r hr;simp only[den] at hr|-;cases h:den X K fn a S with
  |none=>simp[h] at hr
  |some q=>
   have he0:=iha S K K' hK q h;dsimp only at he0;rw[he0];rw[h] at hr;obtain⟨e,S'⟩:=q;cases e with
   |normal=>exact ihb S' K K' hK r hr
   |exit id=>exact hr
   |ret=>exact hr
 |cond c a b iha ihb=>
  intro S K K' hK r hr;simp only[den] at hr|-;cases h:aak X.P S.tm c with
  |none=>simp[h] at hr
  |some q=>
   rw[h] at hr;cases q with
   |true=>exact iha S K K' hK r hr
   |false=>exact ihb S K K' hK r hr
 |block id c ih=>
  intro S K K' hK r hr;simp only[den] at hr|-;cases h:den X K fn c S with
  |none=>simp[h] at hr
  |some q=>have he0:=ih S K K' hK q h;dsimp only at he0;rw[he0];rw[h] at hr;exact hr
 |loop c ih=>intro S;exact avD ih S
 |_=>intro S;exact Up.const _
def aEY{Kn:Nat->lN}{K:lN}(hc:Chain Kn)(hK:∀f args cells r,K f args cells=some r->∃n,Kn n f args cells=some r)(X:Ctx)(fn:Nat)(c:Code):∀S,Ct Kn K λK=>den X K fn c S:=by
 induction c with
 |region id ops draw=>
  intro S r hr;simp only[den] at hr|-;cases h:region X K fn id ops draw S with
  |none=>simp[h] at hr
  |some S'=>obtain⟨n,hn⟩:=atB hc hK X fn id ops draw S S' h;dsimp only at hn;exact⟨n,by rw[hn];rw[h] at hr;exact hr⟩
 |seq a b iha ihb=>
  intro S r hr;simp only[den] at hr|-;cases h:den X K fn a S with
  |none=>simp[h] at hr
  |some q=>
   obtain⟨n,hn⟩:=iha S q h;dsimp only at hn;rw[h] at hr;obtain⟨e,S'⟩:=q;cases e with
   |normal=>obtain⟨k,hk⟩:=ihb S' r hr;dsimp only at hk;refine⟨max n k, ?_⟩;have he0:=alQ X fn a S _ _ (hc.le (Nat.le_max_left n k)) _ hn;dsimp only at he0;rw[he0];exact alQ X fn b S' _ _ (hc.le (Nat.le_max_right n k)) _ hk
   |exit id=>exact⟨n,by rw[hn];exact hr⟩
   |ret=>exact⟨n,by rw[hn];exact hr⟩
 |cond c a b iha ihb=>
  intro S r hr;simp only[den] at hr|-;cases h:aak X.P S.tm c with
  |none=>simp[h] at hr
  |some q=>
   rw[h] at hr;cases q with
   |true=>exact iha S r hr
   |false=>exact ihb S r hr
 |block id c ih=>
  intro S r hr;simp only[den] at hr|-;cases h:den X K fn c S with
  |none=>simp[h] at hr
  |some q=>obtain⟨n,hn⟩:=ih S q h;dsimp only at hn;exact⟨n,by rw[hn];rw[h] at hr;exact hr⟩
 |loop c ih=>intro S;exact avE hc (alQ X fn c) ih S
 |_=>intro S;exact Ct.const _
def asa(X:Ctx)(f:Nat)(args:List V)(cells:List Cell):Up λK=>body X K f args cells:=by
 intro K K' hK r hr;simp only[body] at hr|-;cases hg:X.P.funcs[f]? with
 |none=>simp[hg] at hr
 |some g=>
  simp only[hg] at hr|-;cases hcd:g.body with
  |none=>simp[hcd] at hr
  |some c=>
   simp only[hcd] at hr|-;revert hr;generalize (!(Nat.ble cells.length uy && Nat.ble args.length g.ntmps))=q;cases q with
   |true=>exact id
   |false=>
    simp only[aW];intro hr;split at hr
    ·rename_i tm m l he;cases h:den X K f c ⟨tm,m⟩ with
     |none=>simp[h] at hr
     |some q=>have he0:=alQ X f c ⟨tm,m⟩ K K' hK q h;dsimp only at he0;rw[he0];rw[h] at hr;exact hr
    ·cases hr
def azl{Kn:Nat->lN}{K:lN}(hc:Chain Kn)(hK:∀f args cells r,K f args cells=some r->∃n,Kn n f args cells=some r)(X:Ctx)(f:Nat)(args:List V)(cells:List Cell):Ct Kn K λK=>body X K f args cells:=by
 intro r hr;simp only[body] at hr|-;cases hg:X.P.funcs[f]? with
 |none=>simp[hg] at hr
 |some g=>
  simp only[hg] at hr|-;cases hcd:g.body with
  |none=>simp[hcd] at hr
  |some c=>
   simp only[hcd] at hr|-;revert hr;generalize (!(Nat.ble cells.length uy && Nat.ble args.length g.ntmps))=q;cases q with
   |true=>exact λh=>⟨0,h⟩
   |false=>
    simp only[aW];intro hr;split at hr
    ·rename_i tm m l he;cases h:den X K f c ⟨tm,m⟩ with
     |none=>simp[h] at hr
     |some q=>obtain⟨n,hn⟩:=aEY hc hK X f c ⟨tm,m⟩ q h;dsimp only at hn;exact⟨n,by rw[hn];rw[h] at hr;exact hr⟩
    ·cases hr
def UY(X:Ctx):Chain (Yp X)
 |0=>λf args cells r h=>by simp[Yp] at h
 |n+1=>λf args cells r h=>by
  simp only[Yp] at h|-;cases hp:X.VO f with
  |some p=>simpa[hp] using h
  |none=>simp only[hp] at h|-;exact asa X f args cells _ _ (UY X n) r h
def akr{X:Ctx}{n:Nat}{f:Nat}{args:List V}{cells:List Cell}{r:List Row×List Cell}(h:Yp X n f args cells=some r):call X f args cells=some r:=by
 refine sF h λm y hy=> ?_
 have h1:=(UY X).le (Nat.le_max_left n m) f args cells r h;rw[(UY X).le (Nat.le_max_right n m) f args cells y hy] at h1;exact Option.some.inj h1
def azm{X:Ctx}{K:lN}(hK:KLe K (call X)){f:Nat}{args:List V}{cells:List Cell}{r:List Row×List Cell}(hp:X.VO f=none)(h:body X K f args cells=some r):call X f args cells=some r:=by have h1:=asa X f args cells K (call X) hK r h;obtain⟨n,hn⟩:=azl (UY X) (λf a c r hr=>V9 hr) X f args cells r h1;dsimp only at hn;refine akr (n:=n+1) ?_;simp only[Yp,hp];exact hn
def alR{X:Ctx}{f:Nat}{p:List V->List Cell->Option (List Row×List Cell)}{args:List V}{cells:List Cell}{r:List Row×List Cell}(hp:X.VO f=some p)(h:p args cells=some r):call X f args cells=some r:=
 akr (n:=1) (by simp only[Yp,hp];exact h)
abbrev Loops:=Nat->St->Option (Ex×St)
def lid:Code->Nat
 | .region id _ _=>id
 | .seq a b=>match lid a with
  |0=>lid b
  |n=>n
 | .block _ c=>lid c
 | .loop c=>lid c
 | .cond _ a b=>match lid a with
  |0=>lid b
  |n=>n
 |_=>0
def loops:Code->List Code
 | .seq a b=>loops a++loops b
 | .cond _ a b=>loops a++loops b
 | .block _ c=>loops c
 | .loop c=>[c]
 |_=>[]
def KL(X:Ctx)(K:lN)(L:Loops)(fn:Nat):Code->St->Option (Ex×St)
 | .skip,S=>some (.normal,S)
 | .region id ops draw,S=>match region X K fn id ops draw S with
  |some S'=>some (.normal,S')
  |none=>none
 | .seq a b,S=>match KL X K L fn a S with
  |some (.normal,S')=>KL X K L fn b S'
  |r=>r
 | .cond c a b,S=>match aak X.P S.tm c with
  |some true=>KL X K L fn a S
  |some false=>KL X K L fn b S
  |none=>none
 | .block id c,S=>match KL X K L fn c S with
  |some (.exit j,S')=>bif Nat.beq j id then some (.normal,S') else some (.exit j,S')
  |r=>r
 | .loop c,S=>L (lid c) S
 | .exit id,S=>some (.exit id,S)
 | .ret,S=>some (.ret,S)
 |_,_=>none
def codeOf(P:Program)(f:Nat):Code:=match P.funcs[f]? with
 |some g=>match g.body with
  |some c=>c
  |none=> .skip
 |none=> .skip
def ae1(X:Ctx)(K:lN)(L:Loops)(f:Nat)(args:List V)(cells:List Cell):Option (List Row×List Cell):=
 match X.P.funcs[f]? with
 |some g=>match g.body with
  |some c=>bif !(Nat.ble cells.length uy && Nat.ble args.length g.ntmps) then none else match(entry X f g args cells).run (wu 0 cells) .none with
   |some (tm,m,_)=>(match KL X K L f c ⟨tm,m⟩ with
    |some (.normal,S)=>leave X g cells.length S
    |some (.ret,S)=>leave X g cells.length S
    |_=>none)
   |none=>none
  |none=>none
 |none=>none
def LOk(X:Ctx)(K:lN)(fn:Nat)(L:Loops)(cs:List Code):Prop:=∀c,c∈cs->∀S r,L (lid c) S=some r->Yo (den X K fn c) S=some r
def avF{X:Ctx}{K:lN}{L:Loops}{fn:Nat}:∀{c:Code} {S:St} {r:Ex×St},LOk X K fn L (loops c)->KL X K L fn c S=some r->den X K fn c S=some r:=by
 intro c;induction c with
 |seq a b iha ihb=>
  intro S r hL h;have hLa:LOk X K fn L (loops a):=λd hd=>hL d (by simp[loops,hd])
  have hLb:LOk X K fn L (loops b):=λd hd=>hL d (by simp[loops,hd])
  simp only[KL] at h;simp only[den];cases ha:KL X K L fn a S with
  |none=>simp[ha] at h
  |some q=>
   rw[iha hLa ha];rw[ha] at h;obtain⟨e,S'⟩:=q;cases e with
   |normal=>exact ihb hLb h
   |exit id=>exact h
   |ret=>exact h
 |cond c a b iha ihb=>
  intro S r hL h;have hLa:LOk X K fn L (loops a):=λd hd=>hL d (by simp[loops,hd])
  have hLb:LOk X K fn L (loops b):=λd hd=>hL d (by simp[loops,hd])
  simp only[KL] at h;simp only[den];cases hc:aak X.P S.tm c with
  |none=>simp[hc] at h
  |some q=>
   rw[hc] at h;cases q with
   |true=>exact iha hLa h
   |false=>exact ihb hLb h
 |block id c ih=>
  intro S r hL h;simp only[KL] at h;simp only[den];cases ha:KL X K L fn c S with
  |none=>simp[ha] at h
  |some q=>rw[ih hL ha];rw[ha] at h;exact h
 |loop c ih=>intro S r hL h;exact hL c (by simp[loops]) S r h
 |region id ops draw=>intro S r hL h;exact h
 |skip=>intro S r hL h;exact h
 |exit id=>intro S r hL h;exact h
 |ret=>intro S r hL h;exact h
 |_=>intro S r hL h;simp[KL] at h
def asb(X:Ctx)(L:Loops)(fn:Nat)(c:Code):∀S,Up λK=>KL X K L fn c S:=by
 induction c with
 |region id ops draw=>
  intro S K K' hK r hr;simp only[KL] at hr|-;cases h:region X K fn id ops draw S with
  |none=>simp[h] at hr
  |some S'=>have he0:=akq X fn id ops draw S K K' hK S' h;dsimp only at he0;rw[he0];rw[h] at hr;exact hr
 |seq a b iha ihb=>
  intro S K K' hK r hr;simp only[KL] at hr|-;cases h:KL X K L fn a S with
  |none=>simp[h] at hr
  |some q=>
   have he0:=iha S K K' hK q h;dsimp only at he0;rw[he0];rw[h] at hr;obtain⟨e,S'⟩:=q;cases e with
   |normal=>exact ihb S' K K' hK r hr
   |exit id=>exact hr
   |ret=>exact hr
 |cond c a b iha ihb=>
  intro S K K' hK r hr;simp only[KL] at hr|-;cases h:aak X.P S.tm c with
  |none=>simp[h] at hr
  |some q=>
   rw[h] at hr;cases q with
   |true=>exact iha S K K' hK r hr
   |false=>exact ihb S K K' hK r hr
 |block id c ih=>
  intro S K K' hK r hr;simp only[KL] at hr|-;cases h:KL X K L fn c S with
  |none=>simp[h] at hr
  |some q=>have he0:=ih S K K' hK q h;dsimp only at he0;rw[he0];rw[h] at hr;exact hr
 |_=>intro S;exact Up.const _
def avG(X:Ctx)(L:Loops)(f:Nat)(args:List V)(cells:List Cell):Up λK=>ae1 X K L f args cells:=by
 intro K K' hK r hr;simp only[ae1] at hr|-;cases hg:X.P.funcs[f]? with
 |none=>simp[hg] at hr
 |some g=>
  simp only[hg] at hr|-;cases hcd:g.body with
  |none=>simp[hcd] at hr
  |some c=>
   simp only[hcd] at hr|-;revert hr;generalize (!(Nat.ble cells.length uy && Nat.ble args.length g.ntmps))=q;cases q with
   |true=>exact id
   |false=>
    simp only[aW];intro hr;split at hr
    ·rename_i tm m l he;cases h:KL X K L f c ⟨tm,m⟩ with
     |none=>simp[h] at hr
     |some q=>have he0:=asb X L f c ⟨tm,m⟩ K K' hK q h;dsimp only at he0;rw[he0];rw[h] at hr;exact hr
    ·cases hr
def azn{X:Ctx}{K:lN}{L:Loops}{f:Nat}{args:List V}{cells:List Cell}{r:List Row×List Cell}(hL:LOk X K f L (loops (codeOf X.P f)))(h:ae1 X K L f args cells=some r):body X K f args cells=some r:=by
 simp only[ae1] at h;simp only[body];cases hg:X.P.funcs[f]? with
 |none=>simp[hg] at h
 |some g=>
  simp only[hg] at h|-;cases hcd:g.body with
  |none=>simp[hcd] at h
  |some c=>
   simp only[hcd] at h|-;have hcode:codeOf X.P f=c:=by simp[codeOf,hg,hcd]
   rw[hcode] at hL;revert h;generalize (!(Nat.ble cells.length uy && Nat.ble args.length g.ntmps))=q;cases q with
   |true=>exact id
   |false=>
    simp only[aW];intro h;split at h
    ·rename_i tm m l he;simp only[he];cases hd:KL X K L f c ⟨tm,m⟩ with
     |none=>simp[hd] at h
     |some q=>rw[avF hL hd];rw[hd] at h;exact h
    ·cases h
def avH{X:Ctx}{K:lN}{L:Loops}{f:Nat}{args:List V}{cells:List Cell}{r:List Row×List Cell}(hp:X.VO f=none)(hK:KLe K (call X))(hL:LOk X (call X) f L (loops (codeOf X.P f)))
  (h:ae1 X K L f args cells=some r):call X f args cells=some r:=by
 exact azm (KLe.refl _) hp (azn hL (avG X L f args cells K (call X) hK r h))
def azo{X:Ctx}{K:lN}{L:Loops}{fn:Nat}{c:Code}{S:St}{r:Ex×St}(hK:KLe K (call X))(hL:LOk X (call X) fn L (loops c))(h:KL X K L fn c S=some r):den X (call X) fn c S=some r:=
 avF hL (asb X L fn c S K (call X) hK r h)
structure Res(α:Type) where
 β:Type
 o:Option β
 enc:β->α
def Res.val{α:Type}(r:Res α):Option α:=r.o.map r.enc
abbrev SS:=Nat->List V->List Cell->Res (List Row×List Cell)
inductive Alt(α:Type):Type 1 where
 |leaf (β:Type) (enc:β->α)
 |sum (a b:Alt α)
def Alt.T{α:Type}:Alt α->Type
 | .leaf β _=>β
 | .sum a b=>a.T⊕b.T
def Alt.enc{α:Type}:(a:Alt α)->a.T->α
 | .leaf _ enc,x=>enc x
 | .sum a _,.inl x=>a.enc x
 | .sum _ b,.inr x=>b.enc x
structure adz(α:Type) where
 alt:Alt α
 o:Option alt.T
def adz.val{α:Type}(r:adz α):Option α:=r.o.map r.alt.enc
def adz.none{α:Type}:adz α:=⟨.leaf Empty Empty.elim,.none⟩
abbrev XL:=Nat->St->adz (Ex×St)
def SS.to(K:SS):lN:=λf a c=>(K f a c).val
def XL.to(L:XL):Loops:=λn S=>(L n S).val
def Res.none{α:Type}:Res α:=⟨Empty,.none,Empty.elim⟩
section
variable {R:Type}
def kT{α β γ:Type}(r:α⊕β)(f:α->Option γ)(g:β->Option γ):Option γ:=match r with
 | .inl x=>f x
 | .inr y=>g y
def Alt.go{α:Type}:(a:Alt α)->a.T->(α->Option R)->Option R
 | .leaf _ enc=>λx k=>k (enc x)
 | .sum a b=>λx k=>kT x (λx=>a.go x k) (λy=>b.go y k)
def Alt.go_eq{α:Type}(k:α->Option R):∀(a:Alt α) (x:a.T),a.go x k=k (a.enc x)
 | .leaf _ enc,x=>rfl
 | .sum a _,.inl x=>Alt.go_eq k a x
 | .sum _ b,.inr x=>Alt.go_eq k b x
def adz.ag3{α:Type}{r:adz α}{x:α}(h:r.val=some x):∃y,r.o=some y/\r.alt.enc y=x:=by simpa[adz.val,Option.map_eq_some_iff] using h
def Res.ag3{α:Type}{r:Res α}{x:α}(h:r.val=some x):∃y,r.o=some y/\r.enc y=x:=by simpa[Res.val,Option.map_eq_some_iff] using h
def Acc.anB{α:Type}:Acc α->Mem->Log->(α->Mem->Log->Option R)->Option R
 | .ret a,m,l,k=>k a m l
 | .fail,_,_,_=>none
 | .get i c,m,l,k=>(c (Vm.get i m)).anB m (l.rd i) k
 | .set i x c,m,l,k=>c.anB (put i x m) (l.wr i) k
 | .opt o c,m,l,k=>match o with|some b=>(c b).anB m l k|none=>none
 | .guard b c,m,l,k=>match b with|true=>c.anB m l k|false=>none
def aqS(X:Ctx)(K:SS)(fn dst f:Nat)(args:List V):Acc V:=do
 let g<-op' X.P.funcs[f]?
 ck (g.body.isSome && !(g.name == "runtime.NumGoroutine"))
 let imp:=SN X.TI f 0 [] args
 let args<-VQ X.TI f 0 args
 let cells<-Yj X.TI imp imp
 let(args,Ri)<-VR X.TI imp f 0 args
 ck (Ri.all λr=> !(mem? r imp))
 let b<-op' (K f args cells).o
 let out:=(K f args cells).enc b
 ck (Nat.beq out.1.length g.resultTypes.size)
 let need:= !(Ri.isEmpty) &&(ZG X.P (X.TI.att fn dst) 0 g.resultTypes.toList && imp.isEmpty)
 ck (bif need then out.1.all lU else true)
 freeze (bif need then[] else Ri)
 aew X dst out.2 0 imp
 let vs<-aaP X (X.TI.att fn dst) dst out.1 0 g.resultTypes.toList
 match vs with
 |[v]=>pure v
 |vs=>pure (.XH vs)
def aEZ(X:Ctx)(K:SS)(fn:Nat)(tm:lX)(o:Oper):Acc V:=
 match o.op with
 | .call {callee:=.value f,args,argTypes}=>match ev X.P tm 0 f with
  | .clo g first caps=>aqS X K fn (o.dst.getD 0) g (first++zk X.P tm args.toList argTypes.toList++caps)
  |_=> .fail
 |_=>vop X (λ_ _ _=>none) fn tm o
def avI(x:D)(k:D->Option R):Option R:=match x with
 | .int j n=>k (.int j n)
 | .bool b=>k (.bool b)
 | .str s=>k (.str s)
 | .XW=>k .XW
 | .sl o s rows=>match o with
  |true=>k (.sl true s rows)
  |false=>k (.sl false s rows)
mutual
def NM(v:V)(k:V->Option R):Option R:=match v with
 | .d x=>avI x λx=>k (.d x)
 | .nil s=>k (.nil s)
 | .own r v=>k (.own r v)
 | .ptr r o=>k (.ptr r o)
 | .JI r v i o=>k (.JI r v i o)
 | .F8 row o=>k (.F8 row o)
 | .clo f a b=>SV a λa=>SV b λb=>k (.clo f a b)
 | .agg cs=>SV cs λcs=>k (.agg cs)
 | .XH cs=>SV cs λcs=>k (.XH cs)
 | .undef=>k .undef
def SV(vs:List V)(k:List V->Option R):Option R:=match vs with
 |[]=>k []
 |v::vs=>NM v λv=>SV vs λvs=>k (v::vs)
end
def ZM(tm:lX)(k:lX->Option R):Option R:=match tm with
 |[]=>k []
 |(t,v)::tm=>NM v λv=>ZM tm λtm=>k ((t,v)::tm)
def adA(c:Cell)(k:Cell->Option R):Option R:=match c with
 | .box t cs=>SV cs λcs=>k (.box t cs)
 | .arr fz fl ver s rows=>k (.arr fz fl ver s rows)
 | .dead=>k .dead
def Uf(m:Mem)(k:Mem->Option R):Option R:=match m with
 |[]=>k []
 |(r,c)::m=>adA c λc=>Uf m λm=>k ((r,c)::m)
def atC(L:List (Nat×Nat))(r:Nat)(k:Nat->Option R):Option R:=match get r L with
 |some j=>k j
 |none=>k r
mutual
def Wh(L:List (Nat×Nat))(v:V)(k:V->Option R):Option R:=match v with
 | .d x=>k (.d x)
 | .nil s=>k (.nil s)
 | .own r v=>atC L r λr=>k (.own r v)
 | .ptr r o=>atC L r λr=>k (.ptr r o)
 | .JI r v i o=>atC L r λr=>k (.JI r v i o)
 | .F8 row o=>k (.F8 row o)
 | .clo f a b=>Xd L a λa=>Xd L b λb=>k (.clo f a b)
 | .agg cs=>Xd L cs λcs=>k (.agg cs)
 | .XH vs=>Xd L vs λvs=>k (.XH vs)
 | .undef=>k .undef
def Xd(L:List (Nat×Nat))(vs:List V)(k:List V->Option R):Option R:=match vs with
 |[]=>k []
 |v::vs=>Wh L v λv=>Xd L vs λvs=>k (v::vs)
end
def alS(L:List (Nat×Nat))(tm:lX)(k:lX->Option R):Option R:=match tm with
 |[]=>k []
 |(t,v)::tm=>Wh L v λv=>alS L tm λtm=>k ((t,v)::tm)
def avJ(L:List (Nat×Nat))(c:Cell)(k:Cell->Option R):Option R:=match c with
 | .box t cs=>Xd L cs λcs=>k (.box t cs)
 | .arr fz fl ver s rows=>k (.arr fz fl ver s rows)
 | .dead=>k .dead
def afY(L:List (Nat×Nat))(m:Mem)(k:Mem->Option R):Option R:=match m with
 |[]=>k []
 |(r,c)::m=>atC L r λr=>avJ L c λc=>afY L m λm=>Uf (put r c m) k
def alT(l:List Nat)(k:List Nat->Option R):Option R:=match l with
 |[]=>k []
 |x::l=>alT l λl=>k (x::l)
def afZ(l:List (Nat×Nat))(k:List (Nat×Nat)->Option R):Option R:=match l with
 |[]=>k []
 |(x,y)::l=>afZ l λl=>k ((x,y)::l)
def alU(S:St)(k:St->Option R):Option R:=alT (ay1 S.tm S.mem) λo=>match o with
 |[]=>k S
 |a::o=>afZ (ay2 names (a::o)) λL=>match abT L (S.mem.map (·.1)) with
  |true=>alS L S.tm λtm=>afY L S.mem λm=>k ⟨tm,m⟩
  |false=>k S
def alV(ops:Array Oper)(tm:lX)(o:Oper)(k:Bool->lX->Option R):Option R:=
 match o.guard with
 |none=>k true tm
 |some (j,want)=>match ops[j]? with
  |some oj=>match oj.dst with
   |some d=>match ZV d tm with
    | .d (.bool b)=>match b with
     |true=>k want (put d (.d (.bool true)) tm)
     |false=>k (!want) (put d (.d (.bool false)) tm)
    | .XH vs=>match vs with
     |[]=>k false (put d (.XH []) tm)
     |_::_=>none
    |_=>none
   |none=>none
  |none=>none
def aqT(X:Ctx)(K:SS)(fn:Nat)(ops:Array Oper)(i:Nat)(S:St)(k:St->Log->Option R):Option R:=
 match ops[i]? with
 |none=>none
 |some o=>alV ops S.tm o λb tm=>match b with
  |false=>k ⟨aex (XY X.P fn) o.dst tm,S.mem⟩ .none
  |true=>(aEZ X K fn tm o).anB S.mem .none λv m l=>bif Yl (XY X.P fn) o.dst then NM v λv=>k ⟨ajb o.dst v tm,m⟩ l else none
def af0(X:Ctx)(K:SS)(fn:Nat)(ops:Array Oper):List Nat->St->List (Nat×Log)->(St->List (Nat×Log)->Option R)->Option R
 |[],S,L,k=>k S L
 |i::is,S,L,k=>aqT X K fn ops i S λS' l=>af0 X K fn ops is S' ((i,l)::L) k
def aDO(X:Ctx)(ops:Array Oper)(L:List (Nat×Log)):Bool->Bool
 |false=>true
 |true=>X.P.follows .mixedOrders &&(backOk ops && Ym ops (Region.before ops) L)
def aa8(X:Ctx)(K:SS)(fn id:Nat)(ops:Array Oper)(draw:Bool)(S:St)(k:St->List (Nat×Log)->Option R):Option R:=af0 X K fn ops (List.range ops.size) S [] k
def alW(X:Ctx)(K:SS)(fn id:Nat)(ops:Array Oper)(draw:Bool)(S:St)(k:St->Option R):Option R:=
 aa8 X K fn id ops draw S λS' L=>
  bif aDO X ops L draw then(match adh (X.TI.keep fn id) S' with
   |some S''=>ZM S''.tm λtm=>Uf S''.mem λm=>alU ⟨tm,m⟩ k
   |none=>none) else none
def rep(k:Nat)(x:V):lX->lX
 |[]=>[]
 |(j,y)::l=>match Nat.beq k j with
  |true=>(j,x)::l
  |false=>(j,y)::rep k x l
def azp(c:Operand)(b:Bool)(S:St):St:=match c with
 | .tmp i=>⟨rep i (.d (.bool b)) S.tm,S.mem⟩
 |_=>S
def asc{k:Nat}{x:V}:∀{l:lX},get k l=some x->rep k x l=l
 |[],h=>rfl
 |(j,y)::l,h=>by
  simp only[get] at h;rw[rep];cases hb:Nat.beq k j with
  |true=>rw[hb] at h;simp only[aJ,lM] at h;rw[h]
  |false=>rw[hb] at h;simp only;rw[asc h]
def ase{P:Program}{c:Operand}{b:Bool}{S:St}(h:ev P S.tm 0 c=.d (.bool b)):azp c b S=S:=by
 cases c with
 |tmp i=>
  simp only[ev,ZV] at h;cases hg:get i S.tm with
  |none=>rw[hg] at h;cases h
  |some v=>rw[hg] at h;simp only at h;subst h;rw[azp,asc hg]
 |_=>rfl
def aa9(X:Ctx)(K:SS)(L:XL)(fn:Nat):Code->St->(Ex->St->Option R)->Option R
 | .skip,S,k=>k .normal S
 | .region id ops draw,S,k=>alW X K fn id ops draw S λS'=>k .normal S'
 | .seq a b,S,k=>aa9 X K L fn a S λe S'=>match e with
  | .normal=>aa9 X K L fn b S' k
  |e=>k e S'
 | .cond c a b,S,k=>match ev X.P S.tm 0 c with
  | .d (.bool t)=>(match t with
   |true=>aa9 X K L fn a (azp c true S) k
   |false=>aa9 X K L fn b (azp c false S) k)
  |_=>none
 | .block id c,S,k=>aa9 X K L fn c S λe S'=>match e with
  | .exit j=>bif Nat.beq j id then k .normal S' else k (.exit j) S'
  |e=>k e S'
 | .loop c,S,k=>match(L (lid c) S).o with
  |some b=>(L (lid c) S).alt.go b λr=>k r.1 r.2
  |none=>none
 | .exit id,S,k=>k (.exit id) S
 | .ret,S,k=>k .ret S
 |_,_,_=>none
def alX(X:Ctx)(g:Func)(n:Nat)(S:St)(k:List Row->List Cell->Option R):Option R:=
 (do
  let rows<-ZH X.P S.tm g.results.toList g.resultTypes.toList
  let cells<-Yj X.TI (yc n) (yc n)
  pure (rows,cells):Acc (List Row×List Cell)).anB S.mem .none λr _ _=>k r.1 r.2
def bodyC(X:Ctx)(K:SS)(L:XL)(f:Nat)(args:List V)(cells:List Cell)(k:List Row->List Cell->Option R):Option R:=
 match X.P.funcs[f]? with
 |some g=>match g.body with
  |some c=>bif !(Nat.ble cells.length uy && Nat.ble args.length g.ntmps) then none else(entry X f g args cells).anB (wu 0 cells) .none λtm m _=>
   ZM tm λtm=>Uf m λm=>aa9 X K L f c ⟨tm,m⟩ λe S=>match e with
    | .normal=>alX X g cells.length S k
    | .ret=>alX X g cells.length S k
    | .exit _=>none
  |none=>none
 |none=>none
def alY{α:Type}(A:Acc α):∀(m:Mem) (l:Log) (k:α->Mem->Log->Option R),A.anB m l k=(A.run m l).bind λr=>k r.1 r.2.1 r.2.2:=by
 induction A with
 |ret a=>intro m l k;rfl
 |fail=>intro m l k;rfl
 |get i c ih=>intro m l k;exact ih _ _ _ _
 |set i x c ih=>intro m l k;exact ih _ _ _
 |opt o c ih=>intro m l k;cases o with
  |none=>rfl
  |some b=>exact ih b _ _ _
 |guard b c ih=>intro m l k;cases b with
  |false=>rfl
  |true=>exact ih _ _ _
def atD(x:D)(k:D->Option R):avI x k=k x:=by
 cases x with
 |sl o s rows=>cases o<;>rfl
 |_=>rfl
mutual
def adB:∀(v:V) (k:V->Option R),NM v k=k v
 | .d x,k=>by simp only[NM,atD]
 | .nil s,k=>by simp only[NM]
 | .own r v,k=>by simp only[NM]
 | .ptr r o,k=>by simp only[NM]
 | .JI r v i o,k=>by simp only[NM]
 | .F8 row o,k=>by simp only[NM]
 | .clo f a b,k=>by simp only[NM];rw[PY a,PY b]
 | .agg cs,k=>by simp only[NM];rw[PY cs]
 | .XH cs,k=>by simp only[NM];rw[PY cs]
 | .undef,k=>by simp only[NM]
def PY:∀(vs:List V) (k:List V->Option R),SV vs k=k vs
 |[],k=>by simp only[SV]
 |v::vs,k=>by simp only[SV];rw[adB v,PY vs]
end
def abb:∀(tm:lX) (k:lX->Option R),ZM tm k=k tm
 |[],k=>rfl
 |(t,v)::tm,k=>by simp only[ZM];rw[adB v,abb tm]
def alZ(c:Cell)(k:Cell->Option R):adA c k=k c:=by
 cases c with
 |box t cs=>simp only[adA,PY]
 |_=>rfl
def UZ:∀(m:Mem) (k:Mem->Option R),Uf m k=k m
 |[],k=>rfl
 |(t,v)::m,k=>by simp only[Uf];rw[alZ v,UZ m]
def af2(L:List (Nat×Nat))(r:Nat)(k:Nat->Option R):atC L r k=k (ren L r):=by unfold atC ren;cases get r L<;>rfl
mutual
def anC(L:List (Nat×Nat)):∀(v:V) (k:V->Option R),Wh L v k=k (Vh L v)
 | .d x,k=>by simp only[Wh,Vh]
 | .nil s,k=>by simp only[Wh,Vh]
 | .own r v,k=>by simp only[Wh,Vh,af2]
 | .ptr r o,k=>by simp only[Wh,Vh,af2]
 | .JI r v i o,k=>by simp only[Wh,Vh,af2]
 | .F8 row o,k=>by simp only[Wh,Vh]
 | .clo f a b,k=>by simp only[Wh,Vh];rw[TK L a,TK L b]
 | .agg cs,k=>by simp only[Wh,Vh];rw[TK L cs]
 | .XH vs,k=>by simp only[Wh,Vh];rw[TK L vs]
 | .undef,k=>by simp only[Wh,Vh]
def TK(L:List (Nat×Nat)):∀(vs:List V) (k:List V->Option R),Xd L vs k=k (Yk L vs)
 |[],k=>by simp only[Xd,Yk]
 |v::vs,k=>by simp only[Xd,Yk];rw[anC L v,TK L vs]
end
def aks(L:List (Nat×Nat)):∀(tm:lX) (k:lX->Option R),alS L tm k=k (agn L tm)
 |[],k=>rfl
 |(t,v)::tm,k=>by simp only[alS,agn];rw[anC L v,aks L tm]
def avK(L:List (Nat×Nat))(c:Cell)(k:Cell->Option R):avJ L c k=k (ajc L c):=by
 cases c with
 |box t cs=>simp only[avJ,ajc,TK]
 |_=>rfl
def ag4(L:List (Nat×Nat)):∀(m:Mem) (k:Mem->Option R),afY L m k=k (TR L m)
 |[],k=>rfl
 |(r,c)::m,k=>by simp only[afY,TR,af2,avK];rw[ag4 L m,UZ]
def akt:∀(l:List Nat) (k:List Nat->Option R),alT l k=k l
 |[],k=>rfl
 |x::l,k=>by simp only[alT];rw[akt l]
def ag5:∀(l:List (Nat×Nat)) (k:List (Nat×Nat)->Option R),afZ l k=k l
 |[],k=>rfl
 |(x,y)::l,k=>by simp only[afZ];rw[ag5 l]
def atE(S:St)(k:St->Option R):alU S k=k (canon S):=by
 unfold alU canon;rw[akt];cases ay1 S.tm S.mem with
 |nil=>rfl
 |cons a o=>
  simp only[ag5,alC];cases abT (ay2 names (a::o)) (S.mem.map (·.1)) with
  |true=>simp only[aks,ag4]
  |false=>rfl
def adC{α:Type}(a b:Acc α):Prop:=∀m l,a.run m l=b.run m l
def adC.bind{α β:Type}{a:Acc α}{f g:α->Acc β}(h:∀x,adC (f x) (g x)):adC (a>>=f) (a>>=g):=by
 intro m l;rw[run_bind,run_bind];cases a.run m l with
 |none=>rfl
 |some r=>obtain⟨x,m,l⟩:=r;exact h x m l
def adC.enc{α β γ:Type}{o:Option β}{enc:β->α}{f:α->Acc γ}:adC (op' o>>=λb=>f (enc b)) (op' (o.map enc)>>=f):=by intro m l;rw[run_bind,run_bind];cases o<;>rfl
def aqU{X:Ctx}{K:SS}{fn dst f:Nat}{args:List V}{m:Mem}{l:Log}:(aqS X K fn dst f args).run m l=(abR X K.to fn dst f args).run m l:=by
 revert m l;show adC _ _;unfold aqS abR;refine adC.bind λg=>adC.bind λ_=>adC.bind λargs=>adC.bind λcells=>adC.bind fun⟨args,Ri⟩=>adC.bind λ_=> ?_
 exact adC.enc (o:=(K f args cells).o) (enc:=(K f args cells).enc) (f:=λout=>do
  ck (Nat.beq out.1.length g.resultTypes.size)
  ck (bif(!(Ri.isEmpty) &&(ZG X.P (X.TI.att fn dst) 0 g.resultTypes.toList &&(SN X.TI _ 0 [] _).isEmpty)) then out.1.all lU else true)
  freeze (bif(!(Ri.isEmpty) &&(ZG X.P (X.TI.att fn dst) 0 g.resultTypes.toList &&(SN X.TI _ 0 [] _).isEmpty)) then[] else Ri)
  aew X dst out.2 0 (SN X.TI _ 0 [] _)
  let vs<-aaP X (X.TI.att fn dst) dst out.1 0 g.resultTypes.toList
  match vs with
  |[v]=>pure v
  |vs=>pure (.XH vs))
def avL{X:Ctx}{K:SS}{fn:Nat}{tm:lX}{o:Oper}{m:Mem}{l:Log}:(aEZ X K fn tm o).run m l=(vop X K.to fn tm o).run m l:=by
 obtain⟨dst,op,type,pos,after,guard⟩:=o;cases op<;>try rfl
 case call c=>
  obtain⟨callee,args,tys⟩:=c;cases callee with
  |value f=>
   simp only[aEZ,vop];cases ev X.P tm 0 f with
   |clo g a b=>exact aqU
   |_=>rfl
  |invoke r m=>rfl
  |builtin b=>cases b<;>rfl
 case slice a b c d e=>cases e<;>rfl
def aqV(ops:Array Oper)(tm:lX)(o:Oper)(k:Bool->lX->Option R):alV ops tm o k=(F9 ops tm o).bind λr=>k r.1 r.2:=by
 unfold alV F9;cases o.guard with
 |none=>rfl
 |some jw=>
  obtain⟨j,want⟩:=jw;simp only;cases ops[j]? with
  |none=>rfl
  |some oj=>
   simp only;cases oj.dst with
   |none=>rfl
   |some d=>
    simp only;cases ZV d tm with
    |d x=>cases x with
     |bool b=>cases b<;>rfl
     |_=>rfl
    |XH vs=>cases vs<;>rfl
    |_=>rfl
def atF(X:Ctx)(K:SS)(fn:Nat)(ops:Array Oper)(i:Nat)(S:St)(k:St->Log->Option R):aqT X K fn ops i S k=(Ea X K.to fn ops i S).bind λr=>k r.1 r.2:=by
 unfold aqT Ea;cases ops[i]? with
 |none=>rfl
 |some o=>
  simp only[aqV];cases F9 ops S.tm o with
  |none=>rfl
  |some r=>
   obtain⟨b,tm⟩:=r;cases b with
   |false=>rfl
   |true=>
    simp only[Option.bind_some,alY,avL];cases(vop X K.to fn tm o).run S.mem .none with
    |none=>rfl
    |some r=>
     obtain⟨v,m,l⟩:=r;simp only[Option.bind_some];cases Yl (XY X.P fn) o.dst with
     |false=>rfl
     |true=>simp only[aJ,adB];rfl
def ag6(X:Ctx)(K:SS)(fn:Nat)(ops:Array Oper):∀(is:List Nat) (S:St) (L:List (Nat×Log)) (k:St->List (Nat×Log)->Option R),af0 X K fn ops is S L k=(MK X K.to fn ops is S L).bind λr=>k r.1 r.2
 |[],S,L,k=>rfl
 |i::is,S,L,k=>by
  simp only[af0,adu,atF];cases Ea X K.to fn ops i S with
  |none=>rfl
  |some r=>simp only[Option.bind_some];exact ag6 X K fn ops is _ _ k
def ajk(X:Ctx)(K:SS)(fn id:Nat)(ops:Array Oper)(draw:Bool)(S:St)(k:St->List (Nat×Log)->Option R):aa8 X K fn id ops draw S k=(JJ X K.to fn id ops draw S).bind λr=>k r.1 r.2:=by rw[aa8,ag6];rfl
def aqW(X:Ctx)(K:SS)(fn id:Nat)(ops:Array Oper)(draw:Bool)(S:St)(k:St->Option R):alW X K fn id ops draw S k=(region X K.to fn id ops draw S).bind k:=by
 simp only[alW,adx,ajk];cases JJ X K.to fn id ops draw S with
 |none=>rfl
 |some r=>
  simp only[Option.bind_some];have hp:(match adh (X.TI.keep fn id) r.1 with
   |some S''=>ZM S''.tm λtm=>Uf S''.mem λm=>alU ⟨tm,m⟩ k
   |none=>none)=(prune (X.TI.keep fn id) r.1).bind k:=by
   unfold prune;cases adh (X.TI.keep fn id) r.1 with
   |none=>rfl
   |some S''=>simp only[abb,UZ,atE];rfl
  rw[hp];cases draw with
  |false=>rfl
  |true=>simp only[aDO];cases(X.P.follows .mixedOrders &&(backOk ops && Ym ops (Region.before ops) r.2))<;>rfl
def asf(X:Ctx)(K:SS)(L:XL)(fn:Nat)(c:Code):∀(S:St) (k:Ex->St->Option R),aa9 X K L fn c S k=(KL X K.to L.to fn c S).bind λr=>k r.1 r.2:=by
 induction c with
 |skip=>intro S k;rfl
 |region id ops draw=>intro S k;simp only[aa9,KL,aqW];cases region X K.to fn id ops draw S<;>rfl
 |seq a b iha ihb=>
  intro S k;simp only[aa9,KL,iha];cases KL X K.to L.to fn a S with
  |none=>rfl
  |some r=>
   obtain⟨e,S'⟩:=r;cases e with
   |normal=>exact ihb S' k
   |exit id=>rfl
   |ret=>rfl
 |cond c a b iha ihb=>
  intro S k;simp only[aa9,KL,aak];cases hev:ev X.P S.tm 0 c with
  |d x=>cases x with
   |bool t=>cases t with
    |true=>simp only[ase hev];exact iha S k
    |false=>simp only[ase hev];exact ihb S k
   |_=>rfl
  |_=>rfl
 |block id c ih=>
  intro S k;simp only[aa9,KL,ih];cases KL X K.to L.to fn c S with
  |none=>rfl
  |some r=>
   obtain⟨e,S'⟩:=r;cases e with
   |normal=>rfl
   |ret=>rfl
   |exit j=>simp only[Option.bind_some];cases Nat.beq j id<;>rfl
 |loop c ih=>intro S k;simp only[aa9,KL,XL.to,adz.val,Alt.go_eq];cases(L (lid c) S).o<;>rfl
 |exit id=>intro S k;rfl
 |ret=>intro S k;rfl
 |_=>intro S k;rfl
def aku(X:Ctx)(g:Func)(n:Nat)(S:St)(k:List Row->List Cell->Option R):alX X g n S k=(leave X g n S).bind λr=>k r.1 r.2:=by
 simp only[alX,leave,alY];split
 ·rename_i r m l he;simp only[he];rfl
 ·rename_i he;simp only[he];rfl
def avM(X:Ctx)(K:SS)(L:XL)(f:Nat)(args:List V)(cells:List Cell)(k:List Row->List Cell->Option R):bodyC X K L f args cells k=(ae1 X K.to L.to f args cells).bind λr=>k r.1 r.2:=by
 simp only[bodyC,ae1];cases X.P.funcs[f]? with
 |none=>rfl
 |some g=>
  simp only;cases g.body with
  |none=>rfl
  |some c=>
   simp only;generalize (!(Nat.ble cells.length uy && Nat.ble args.length g.ntmps))=q;cases q with
   |true=>rfl
   |false=>
    simp only[aW,alY];cases(entry X f g args cells).run (wu 0 cells) .none with
    |none=>rfl
    |some r=>
     obtain⟨tm,m,l⟩:=r;simp only[Option.bind_some,abb,UZ,asf];cases KL X K.to L.to f c ⟨tm,m⟩ with
     |none=>rfl
     |some r=>
      obtain⟨e,S⟩:=r;cases e with
      |normal=>simp only[Option.bind_some,aku]
      |ret=>simp only[Option.bind_some,aku]
      |exit j=>rfl
end
def avN{X:Ctx}{K:SS}{L:XL}{f:Nat}{args:List V}{cells:List Cell}{r:List Row×List Cell}(hp:X.VO f=none)(hK:KLe K.to (call X))(hL:LOk X (call X) f L.to (loops (codeOf X.P f)))
  (h:bodyC X K L f args cells (λa b=>some (a,b))=some r):call X f args cells=some r:=by
 refine avH hp hK hL ?_;rw[avM] at h;cases hb:ae1 X K.to L.to f args cells with
 |none=>rw[hb] at h;cases h
 |some q=>rw[hb] at h;exact h
def azq{X:Ctx}{K:SS}{L:XL}{fn:Nat}{c:Code}{S:St}{r:Ex×St}(hK:KLe K.to (call X))(hL:LOk X (call X) fn L.to (loops c))(h:aa9 X K L fn c S (λa b=>some (a,b))=some r):den X (call X) fn c S=some r:=by
 refine azo hK hL ?_;rw[asf] at h;cases hb:KL X K.to L.to fn c S with
 |none=>rw[hb] at h;cases h
 |some q=>rw[hb] at h;exact h
def iterM{σ τ:Type}(b:σ->Option (σ⊕τ)):Nat->σ->Option τ
 |0,_=>none
 |n+1,s=>match b s with
  |some (.inl s')=>iterM b n s'
  |some (.inr t)=>some t
  |none=>none
def abd{σ τ:Type}{b:σ->Option (σ⊕τ)}:∀{n k:Nat} {s:σ} {t:τ},iterM b n s=some t->n<=k->iterM b k s=some t
 |0,_,_,_,h,_=>by simp[iterM] at h
 |n+1,0,_,_,_,hk=>by omega
 |n+1,k+1,s,t,h,hk=>by
  simp only[iterM] at h|-;cases hb:b s with
  |none=>simp[hb] at h
  |some q=>
   rw[hb] at h;cases q with
   |inl s'=>exact abd h ak
   |inr t'=>exact h
noncomputable def dU{σ τ:Type}(b:σ->Option (σ⊕τ))(s:σ):Option τ:=lim λn=>iterM b n s
def ace{σ τ:Type}{b:σ->Option (σ⊕τ)}{s:σ}{t:τ}{n:Nat}(h:iterM b n s=some t):dU b s=some t:=by
 refine sF h λm y hy=> ?_
 have h1:=abd h (Nat.le_max_left n m);rw[abd hy (Nat.le_max_right n m)] at h1;exact Option.some.inj h1
def abe{σ τ:Type}{b:σ->Option (σ⊕τ)}{s:σ}{t:τ}(h:dU b s=some t):∃n,iterM b n s=some t:=V9 h
def bI{σ τ:Type}{b:σ->Option (σ⊕τ)}{s s':σ}(h:b s=some (.inl s')):dU b s=dU b s':=by
 cases hl:dU b s' with
 |some t=>obtain⟨n,hn⟩:=abe hl;exact ace (n:=n+1) (by simp only[iterM,h];exact hn)
 |none=>
  cases hs:dU b s with
  |none=>rfl
  |some t=>
   obtain⟨n,hn⟩:=abe hs;cases n with
   |zero=>simp[iterM] at hn
   |succ n=>simp only[iterM,h] at hn;rw[ace hn] at hl;cases hl
def aQ{σ τ:Type}{b:σ->Option (σ⊕τ)}{s:σ}{t:τ}(h:b s=some (.inr t)):dU b s=some t:=
 ace (n:=1) (by simp only[iterM,h])
def yg{σ τ:Type}{b:σ->Option (σ⊕τ)}{t:τ}(st:Nat->σ)(n:Nat)(h:∀i,i<n->b (st i)=some (.inl (st (i+1))))(he:b (st n)=some (.inr t)):∀i,i<=n->dU b (st i)=some t:=by
 intro i hi;obtain⟨d,rfl⟩:∃d,n=i+d:=⟨n - i,ak⟩
 induction d generalizing i with
 |zero=>exact aQ he
 |succ d ih=>rw[bI (h i ak),ih (i+1) (λj hj=>h j ak) (by rw[show i+1+d=i+(d+1) by omega];exact he) ak]
def aqX{σ τ:Type}{b:σ->Option (σ⊕τ)}{D:St->Option (Ex×St)}{tm:σ->St}{tx:τ->Ex×St}
  (h:∀s r,b s=some r->D (tm s)=some (match r with| .inl s'=>(.normal,tm s')| .inr t=>tx t)) (hx:∀t,(tx t).1≠.normal) {s:σ} {t:τ} (hl:dU b s=some t):Yo D (tm s)=some (tx t):=by
 obtain⟨n,hn⟩:=abe hl;induction n generalizing s with
 |zero=>simp[iterM] at hn
 |succ n ih=>
  simp only[iterM] at hn;cases hb:b s with
  |none=>simp[hb] at hn
  |some q=>
   rw[hb] at hn;have hd:=h s q hb;cases q with
   |inl s'=>have hl':=ih (ace hn) hn;obtain⟨k,hk⟩:=aa7 hl';refine acd (n:=k+1) ?_;simp only[iter,hd];exact hk
   |inr t'=>
    simp only[lM] at hn;subst hn;refine acd (n:=1) ?_;simp only[iter,hd];have:=hx t';cases ht:tx t' with
    |mk e S=>cases e with
     |normal=>rw[ht] at this;exact absurd rfl this
     |exit id=>rfl
     |ret=>rfl
def findLoop(n:Nat):Code->Option Code
 | .seq a b=>match findLoop n a with
  |some c=>some c
  |none=>findLoop n b
 | .cond _ a b=>match findLoop n a with
  |some c=>some c
  |none=>findLoop n b
 | .block _ c=>findLoop n c
 | .loop c=>bif Nat.beq (lid c) n then some c else findLoop n c
 |_=>none
def YD(P:Program)(f n:Nat):Code:=match findLoop n (codeOf P f) with
 |some c=>c
 |none=> .skip
def avO{X:Ctx}{K:SS}{L:XL}{f:Nat}{args:List V}{cells:List Cell}{ρ:Type}{o:Option ρ}{enc:ρ->List Row×List Cell}(hp:X.VO f=none)(hK:KLe K.to (call X))(hL:LOk X (call X) f L.to (loops (codeOf X.P f)))
  (h:bodyC X K L f args cells (λa b=>some (a,b))=o.bind λr=>some (enc r)) {r:ρ} (hr:o=some r):call X f args cells=some (enc r):=by
 refine avN hp hK hL ?_;rw[h,hr];rfl
def avP{X:Ctx}{K:SS}{L:XL}{f:Nat}{c:Code}{σ τ:Type}{b:σ->Option (σ⊕τ)}{tm:σ->St}{tx:τ->Ex×St}(hK:KLe K.to (call X))(hL:LOk X (call X) f L.to (loops c))
  (h:∀s,aa9 X K L f c (tm s) (λa b=>some (a,b))=(b s).bind λr=>some (match r with| .inl s'=>(.normal,tm s')| .inr t=>tx t)) (hx:∀t,(tx t).1≠.normal) {s:σ} {t:τ} (hl:dU b s=some t):
  Yo (den X (call X) f c) (tm s)=some (tx t):=by
 refine aqX (λs r hr=> ?_) hx hl;refine azq hK hL ?_;rw[h s,hr];rfl
def avQ{α β:Type}(c:Bool)(a b:Option α)(f:α->Option β):(bif c then a else b).bind f=bif c then a.bind f else b.bind f:=by cases c<;>rfl
def atG{α β γ:Type}(o:Option α)(g:α->Option β)(f:β->Option γ):(o.bind g).bind f=o.bind λx=>(g x).bind f:=by cases o<;>rfl
def ah{α β:Type}(a:α)(f:α->Option β):(some a).bind f=f a:=rfl
def atH{α β:Type}(f:α->Option β):(none:Option α).bind f=none:=rfl
def atI{α β:Type}(o:Option α)(n:Option β)(f:α->Option β):Option β:=match o with
 |none=>n
 |some x=>f x
def letE{α β:Type}(x:α)(f:α->Option β):Option β:=f x
def akv{α β γ:Type}(o:Option α)(n:Option β)(f:α->Option β)(g:β->Option γ):(atI o n f).bind g=atI o (n.bind g) λx=>(f x).bind g:=by cases o<;>rfl
def akw{α β γ δ:Type}(r:α⊕β)(f:α->Option γ)(g:β->Option γ)(k:γ->Option δ):(kT r f g).bind k=kT r (λx=>(f x).bind k) (λy=>(g y).bind k):=by cases r<;>rfl
def akx{α β γ:Type}(x:α)(f:α->Option β)(g:β->Option γ):(letE x f).bind g=letE x λy=>(f y).bind g:=rfl
structure Pt(β:Type) where
 α:Type
 enc:α->β
 dec:β->Option α
 ok:∀b x,dec b=some x->b=enc x
noncomputable section
def pS:Pt V:=⟨List UInt8,λs=> .d (.str s),λv=>match v with| .d (.str s)=>some s|_=>none,by intro b x h;split at h<;>simp_all⟩
def pK(k:IntKind):Pt V:=⟨Int,λn=> .d (.int k n),λv=>match v with| .d (.int k' n)=>(match decEq k' k with| .isTrue _=>some n| .isFalse _=>none)|_=>none,by
 intro b x h;split at h
 ·split at h<;>simp_all
 ·cases h⟩
def pI:Pt V:=pK .i64
def pB:Pt V:=⟨Bool,λs=> .d (.bool s),λv=>match v with| .d (.bool s)=>some s|_=>none,by intro b x h;split at h<;>simp_all⟩
def pL(o:Bool)(s:Nat):Pt V:=⟨List Row,λr=> .d (.sl o s r),λv=>match v with| .d (.sl o' s' r)=>bif(o==o') && Nat.beq s s' then some r else none|_=>none,by
 intro b x h;split at h
 ·rename_i o' s' r;cases ho:(o==o')<;>cases hs:Nat.beq s s'<;>simp only[ho,hs,Bool.and_true,Bool.and_false,Bool.false_and,aJ,aW,lM] at h
  all_goals first|cases h;done|skip
  cases h;rw[beq_iff_eq] at ho;rw[Ia hs,ho]
 ·cases h⟩
def pZ{β:Type}(v:β)(t:β->Bool)(h:∀b,t b=true->b=v):Pt β:=⟨Unit,λ_=>v,λb=>bif t b then some () else none,by
 intro b x e;cases ht:t b with
 |true=>exact h b ht
 |false=>rw[ht] at e;cases e⟩
def XZ(s:Nat):Pt V:=pZ (.nil s) (λv=>match v with| .nil t=>Nat.beq s t|_=>false) (by
 intro b h;split at h
 ·rw[Ia h]
 ·cases h)
def avR{a b:Bool}(h:(a && b)=true):a=true/\b=true:=by simpa using h
def pO(r n:Nat):Pt V:=pZ (.own r n) (λv=>match v with| .own a b=>Nat.beq r a && Nat.beq n b|_=>false) (by
 intro b h;split at h
 ·obtain⟨h1,h2⟩:=avR h;rw[Ia h1,Ia h2]
 ·cases h)
def pP(r n:Nat):Pt V:=pZ (.ptr r n) (λv=>match v with| .ptr a b=>Nat.beq r a && Nat.beq n b|_=>false) (by
 intro b h;split at h
 ·obtain⟨h1,h2⟩:=avR h;rw[Ia h1,Ia h2]
 ·cases h)
def aH5{β:Type}(p:Pt β)(q:Pt (List β)):Pt (List β):=⟨p.α×q.α,λx=>p.enc x.1::q.enc x.2,λl=>match l with|a::b=>(match p.dec a with|some x=>(match q.dec b with|some y=>some (x,y)|none=>none)|none=>none)|[]=>none,by
 intro b x h;split at h
 ·split at h
  ·rename_i hp;split at h
   ·rename_i hq;cases h;rw[p.ok _ _ hp,q.ok _ _ hq]
   ·cases h
  ·cases h
 ·cases h⟩
def aUQ{β:Type}:Pt (List β):=pZ [] (λl=>match l with|[]=>true|_=>false) (by intro b h;split at h<;>simp_all)
def pl{β:Type}(l:List (Pt β)):Pt (List β):=List.rec aUQ (λp _ q=>aH5 p q) l
def avS(f:Nat)(a b:List (Pt V)):Pt V:=⟨(pl a).α×(pl b).α,λx=> .clo f ((pl a).enc x.1) ((pl b).enc x.2),λv=>match v with| .clo g x y=>bif Nat.beq f g then(match(pl a).dec x with|some x=>(match(pl b).dec y with|some y=>some (x,y)|none=>none)|none=>none) else none|_=>none,by
 intro v x h;split at h
 ·rename_i g u w;cases ht:Nat.beq f g with
  |false=>rw[ht] at h;cases h
  |true=>
   rw[ht,aJ] at h;split at h
   ·rename_i hp;split at h
    ·rename_i hq;cases h;rw[(pl a).ok _ _ hp,(pl b).ok _ _ hq,Ia ht]
    ·cases h
   ·cases h
 ·cases h⟩
def kF(a:List (Pt V)):Pt V:=⟨(pl a).α,λx=> .agg ((pl a).enc x),λv=>match v with| .agg x=>(pl a).dec x|_=>none,by
 intro v x h;split at h
 ·rw[(pl a).ok _ _ h]
 ·cases h⟩
def cB(t:TypeId)(a:List (Pt V)):Pt Cell:=⟨(pl a).α,λx=> .box t ((pl a).enc x),λv=>match v with| .box u x=>bif Nat.beq t u then(pl a).dec x else none|_=>none,by
 intro v x h;split at h
 ·rename_i u y;cases ht:Nat.beq t u with
  |false=>rw[ht] at h;cases h
  |true=>rw[ht,aJ] at h;rw[(pl a).ok _ _ h,Ia ht]
 ·cases h⟩
def cA(z l:Bool)(n s:Nat):Pt Cell:=⟨List Row,λr=> .arr z l n s r,λv=>match v with| .arr z' l' n' s' r=>bif(z==z') &&((l==l') &&(Nat.beq n n' && Nat.beq s s')) then some r else none|_=>none,by
 intro b x h;split at h
 ·rename_i z' l' n' s' r;cases ht:((z==z') &&((l==l') &&(Nat.beq n n' && Nat.beq s s'))) with
  |false=>rw[ht] at h;cases h
  |true=>rw[ht] at h;obtain⟨h1,h2⟩:=avR ht;obtain⟨h2,h3⟩:=avR h2;obtain⟨h3,h4⟩:=avR h3;cases h;rw[beq_iff_eq] at h1 h2;rw[h1,h2,Ia h3,Ia h4]
 ·cases h⟩
def cu{β:Type}(n:Nat)(p:Pt β):Pt (Nat×β):=⟨p.α,λx=>(n,p.enc x),λy=>bif Nat.beq n y.1 then p.dec y.2 else none,by
 intro y x h;cases ht:Nat.beq n y.1 with
 |false=>rw[ht] at h;cases h
 |true=>rw[ht,aJ] at h;rw[<-p.ok _ _ h,Ia ht]⟩
def I5(t:List (Pt (Nat×V)))(m:List (Pt (Nat×Cell))):Pt St:=⟨(pl t).α×(pl m).α,λx=>⟨(pl t).enc x.1,(pl m).enc x.2⟩,λS=>match(pl t).dec S.tm with|some x=>(match(pl m).dec S.mem with|some y=>some (x,y)|none=>none)|none=>none,by
 intro S x h;split at h
 ·rename_i hp;split at h
  ·rename_i hq;cases h;cases S;have e1:=(pl t).ok _ _ hp;have e2:=(pl m).ok _ _ hq;simp only at e1 e2;rw[e1,e2]
  ·cases h
 ·cases h⟩
def pOr{β:Type}(p q:Pt β):Pt β:=⟨p.α⊕q.α,λx=>match x with| .inl x=>p.enc x| .inr y=>q.enc y,λb=>match p.dec b with|some x=>some (.inl x)|none=>(match q.dec b with|some y=>some (.inr y)|none=>none),by
 intro b x h;split at h
 ·rename_i hp;cases h;exact p.ok _ _ hp
 ·split at h
  ·rename_i hq;cases h;exact q.ok _ _ hq
  ·cases h⟩
structure dJ where
 f:Nat
 p:Pt (List V)
 q:Pt (List Cell)
 ρ:Type
 enc:ρ->List Row×List Cell
@[reducible] def sg(f:Nat)(a:List (Pt V))(c:List (Pt Cell)){ρ:Type}(enc:ρ->List Row×List Cell):dJ:=⟨f,pl a,pl c,ρ,enc⟩
abbrev dJ.α(S:dJ):Type:=S.p.α×S.q.α
def dJ.ok(S:dJ)(X:Ctx)(o:S.α->Option S.ρ):Prop:=∀x r,o x=some r->call X S.f (S.p.enc x.1) (S.q.enc x.2)=some (S.enc r)
structure FE(X:Ctx) where
 f:Nat
 P:List V->List Cell->Option (Res (List Row×List Cell))
 ok:∀a c q r,P a c=some q->q.val=some r->call X f a c=some r
def fe{X:Ctx}{S:dJ}{o:S.α->Option S.ρ}(h:S.ok X o):FE X:=⟨S.f,λa c=>match S.p.dec a with|some x=>(match S.q.dec c with|some y=>some ⟨S.ρ,o (x,y),S.enc⟩|none=>none)|none=>none,by
 intro a c q r hq hr;split at hq
 ·rename_i x hx;split at hq
  ·rename_i y hy;cases hq;obtain⟨z,hz,rfl⟩:=Res.ag3 hr;rw[S.p.ok _ _ hx,S.q.ok _ _ hy];exact h (x,y) z hz
  ·cases hq
 ·cases hq⟩
def kt{X:Ctx}(l:List (FE X)):SS:=List.rec (λ_ _ _=> .none) (λe _ K g a c=>bif Nat.beq g e.f then(match e.P a c with|some r=>r|none=>K g a c) else K g a c) l
def aDP{X:Ctx}(l:List (FE X)):KLe (kt l).to (call X):=by
 induction l with
 |nil=>exact λ_ _ _ _ h=>by simp[SS.to,kt,Res.none,Res.val] at h
 |cons e l ih=>
  intro g a c r hr;have hr':(bif Nat.beq g e.f then(match e.P a c with|some r=>r|none=>kt l g a c) else kt l g a c).val=some r:=hr
  by_cases h:g=e.f
  ·subst h;simp only[Nat.beq_refl,aJ] at hr';split at hr'
   ·rename_i q hq;exact e.ok a c q r hq hr'
   ·exact ih _ a c r hr'
  ·rw[zV h] at hr';exact ih g a c r hr'
structure LE(X:Ctx)(f:Nat) where
 n:Nat
 c:Code
 P:St->Option (adz (Ex×St))
 hn:lid c=n
 ok:∀S q r,P S=some q->q.val=some r->Yo (den X (call X) f c) S=some r
def lt{X:Ctx}{f:Nat}(l:List (LE X f)):XL:=List.rec (λ_ _=> .none) (λe _ L n S=>bif Nat.beq n e.n then(match e.P S with|some r=>r|none=> .none) else L n S) l
def apart(l:List Nat):Bool:=match l with
 |[]=>true
 |x::l=>l.all (λy=> !(Nat.beq x y)) && apart l
def avT{X:Ctx}{f:Nat}:∀(l:List (LE X f)),apart (l.map LE.n)=true->∀e,e∈l->∀S r,(lt l e.n S).val=some r->Yo (den X (call X) f e.c) S=some r
 |[],_,e,h,_,_,_=>by cases h
 |d::l,hd,e,he,S,r,hr=>by
  have hr':(bif Nat.beq e.n d.n then(match d.P S with|some r=>r|none=> .none) else lt l e.n S).val=some r:=hr;simp only[zmc,apart,wo] at hd;rcases List.mem_cons.1 he with rfl|he
  ·simp only[Nat.beq_refl,aJ] at hr';split at hr'
   ·rename_i q hq;exact e.ok S q r hq hr'
   ·simp[adz.none,adz.val] at hr'
  ·have h1:=List.all_eq_true.1 hd.1 e.n (List.mem_map_of_mem he);have h2:e.n≠d.n:=by intro h;rw[h,Nat.beq_refl] at h1;cases h1
   rw[zV h2] at hr';exact avT l hd.2 e he S r hr'
def aDQ{X:Ctx}{f:Nat}{l:List (LE X f)}{cs:List Code}(h:cs=l.map LE.c)(hd:apart (l.map LE.n)=true):LOk X (call X) f (lt l).to cs:=by intro c hc S r hr;rw[h] at hc;obtain⟨e,he,rfl⟩:=List.mem_map.1 hc;rw[e.hn] at hr;exact avT l hd e he S r hr
def fnS{X:Ctx}{S:dJ}{o:S.α->Option S.ρ}(C:∀{R:Type},S.α->(S.ρ->Option R)->Option R)(K:List (FE X))(L:List (LE X S.f))(hn:∀{R:Type} x (k:S.ρ->Option R),C x k=(C x some).bind k)
  (hE:∀{R:Type} x (k:List Row->List Cell->Option R),bodyC X (kt K) (lt L) S.f (S.p.enc x.1) (S.q.enc x.2) k=C x (λr=>k (S.enc r).1 (S.enc r).2):=by intros;kernel_rfl)
  (hL:loops (codeOf X.P S.f)=L.map LE.c:=by kernel_rfl) (hd:apart (L.map LE.n)=true:=by kernel_rfl) (hp:X.VO S.f=none:=by kernel_rfl) (ho:∀x,o x=C x some:=by intros;rfl):S.ok X o:=by
 intro x r h;rw[ho] at h;exact avO hp (aDP K) (aDQ hL hd) (by rw[hE,hn]) h
def dJ.lim{X:Ctx}{S:dJ}{o:Nat->S.α->Option S.ρ}(h:∀n,S.ok X (o n)):S.ok X λx=>Vm.lim λn=>o n x:=by intro x r hr;obtain⟨n,hn⟩:=V9 hr;exact h n x r hn
def dJ.zero{X:Ctx}{S:dJ}:S.ok X λ_=>none:=λ_ _ h=>by cases h
def dJ.sF{X:Ctx}{S:dJ}{o:Nat->S.α->Option S.ρ}(h:∀n,S.ok X (o n))(hi:∀a b,S.enc a=S.enc b->a=b){x:S.α}{n:Nat}{r:S.ρ}(hr:o n x=some r):(Vm.lim λn=>o n x)=some r:=by
 refine Vm.sF hr λm y hy=> ?_
 have h1:=h n x r hr;have h2:=h m x y hy;rw[h1] at h2;exact(hi _ _ (Option.some.inj h2)).symm
def dJ.VO{X:Ctx}{S:dJ}{o:S.α->Option S.ρ}{p:List V->List Cell->Option (List Row×List Cell)}(h:∀x,p (S.p.enc x.1) (S.q.enc x.2)=(o x).map S.enc:=by intros;rfl)(hp:X.VO S.f=some p:=by kernel_rfl):S.ok X o:=by intro x r hr;exact alR hp (by rw[h,hr];rfl)
def le{X:Ctx}{f:Nat}(n:Nat)(p:Pt St){σ:Type}(v:p.α->σ)(g:p.α->σ->p.α)(A:p.α->Alt (Ex×St))(C:∀{R:Type} (x:p.α),σ->(σ->Option R)->((A x).T->Option R)->Option R)(K:List (FE X))(L:List (LE X f))
  (hn:∀{R:Type} x s (kn:σ->Option R) (ke:(A x).T->Option R),C x s kn ke=(C x s (λs=>some (Sum.inl s)) (λt=>some (Sum.inr t))).bind λr=>match r with| .inl s=>kn s| .inr t=>ke t)
  (hE:∀{R:Type} x s (k:Ex->St->Option R),aa9 X (kt K) (lt L) f (YD X.P f n) (p.enc (g x s)) k=C x s (λs=>k .normal (p.enc (g x s))) (λt=>(A x).go t λr=>k r.1 r.2):=by intros;kernel_rfl)
  (hx:∀x t,((A x).enc t).1≠.normal:=by first|(intro x t h;cases h;done)|(intro x t;rcases t with t|t<;>first|(intro h;cases h;done)|(rcases t with t|t<;>first|(intro h;cases h;done)|(rcases t with t|t<;>(intro h;cases h)))))
  (hv:∀x,g x (v x)=x:=by first|(intros;rfl)|(rintro(_|_)<;>rfl)|(rintro(_|_|_)<;>rfl)|(rintro(_|_|_|_)<;>rfl))
  (hL:loops (YD X.P f n)=L.map LE.c:=by kernel_rfl) (hd:apart (L.map LE.n)=true:=by kernel_rfl) (hi:lid (YD X.P f n)=n:=by kernel_rfl):LE X f:=
 ⟨n,YD X.P f n,λS=>match p.dec S with|some x=>some ⟨A x,dU (λs=>C x s (λs=>some (Sum.inl s)) (λt=>some (Sum.inr t))) (v x)⟩|none=>none,hi,by
  intro S q r hq hr;split at hq
  ·rename_i x hp;cases hq;obtain⟨t,ht,rfl⟩:=adz.ag3 hr;rw[p.ok _ _ hp];have h:=avP (X:=X) (f:=f) (c:=YD X.P f n) (K:=kt K) (L:=lt L) (tm:=λs=>p.enc (g x s)) (tx:=(A x).enc) (aDP K) (aDQ hL hd) (λs=>by
    rw[hE,hn];congr 1;funext r;cases r
    ·rfl
    ·exact Alt.go_eq _ _ _) (hx x) ht
   rwa [hv] at h
  ·cases hq⟩
def nb:(∀(α β:Type) (c:Bool) (a b:Option α) (f:α->Option β),(bif c then a else b).bind f=bif c then a.bind f else b.bind f)/\(∀(α β γ:Type) (o:Option α) (g:α->Option β) (f:β->Option γ),(o.bind g).bind f=o.bind λx=>(g x).bind f)/\
  (∀(α β:Type) (a:α) (f:α->Option β),(some a).bind f=f a)/\(∀(α β:Type) (f:α->Option β),(none:Option α).bind f=none)/\
  (∀(α β γ:Type) (o:Option α) (n:Option β) (f:α->Option β) (g:β->Option γ),(atI o n f).bind g=atI o (n.bind g) λx=>(f x).bind g)/\
  (∀(α β γ δ:Type) (r:α⊕β) (f:α->Option γ) (g:β->Option γ) (k:γ->Option δ),(kT r f g).bind k=kT r (λx=>(f x).bind k) (λy=>(g y).bind k))/\
  (∀(α β γ:Type) (x:α) (f:α->Option β) (g:β->Option γ),(letE x f).bind g=letE x λy=>(f y).bind g):=
 ⟨λ_ _=>avQ,λ_ _ _=>atG,λ_ _=>ah,λ_ _=>atH,λ_ _ _=>akv,λ_ _ _ _=>akw,λ_ _ _=>akx⟩
section
variable {α β ρ R:Type} {k:ρ->Option R}
def bU{c:Bool}{x y:Option R}{u v:Option ρ}(h1:x=u.bind k)(h2:y=v.bind k):(bif c then x else y)=(bif c then u else v).bind k:=by cases c<;>assumption
def vS{o:Option α}{f:α->Option R}{g:α->Option ρ}(h:∀a,f a=(g a).bind k):o.bind f=(o.bind g).bind k:=by cases o with
 |none=>rfl
 |some a=>exact h a
def vT{o:Option α}{n:Option R}{m:Option ρ}{f:α->Option R}{g:α->Option ρ}(h1:n=m.bind k)(h:∀a,f a=(g a).bind k):atI o n f=(atI o m g).bind k:=by rw[akv,h1,funext h]
def vU{o:α⊕β}{f:α->Option R}{g:β->Option R}{f':α->Option ρ}{g':β->Option ρ}(h1:∀a,f a=(f' a).bind k)(h2:∀a,g a=(g' a).bind k):kT o f g=(kT o f' g').bind k:=by rw[akw,funext h1,funext h2]
def vV{x:α}{f:α->Option R}{g:α->Option ρ}(h:∀a,f a=(g a).bind k):letE x f=(letE x g).bind k:=by rw[akx,funext h]
end
end
def aK{n:Int}(h1: -9223372036854775808<=n)(h2:n<=9223372036854775807):i64.wrap n=n:=IntWalk.i64_in n ⟨h1,h2⟩
def al0{α β:Type}(f:α->β)(l:List α)(i:Int):idx (l.map f) i=(idx l i).map f:=by unfold idx;cases decide (0<=i)<;>simp
def bK{α:Type}(l:List α)(i:Nat):idx l (i:Int)=l[i]? :=by simp[idx]
structure Nd where
 kind:Int
 op:Int
 text:List UInt8
 other:List UInt8
 kids:List Int
 deriving DecidableEq,Inhabited
def encI(l:List Int):List Row:=l.map λk=>[.int .i64 k]
def encS(l:List (List UInt8)):List Row:=l.map λs=>[.str s]
def Xe(o:Bool)(n:Nd):Row:=[.int .i64 n.kind,.int .i64 n.op,.str n.text,.str n.other,.sl o 1 (encI n.kids)]
def aP(o:Bool)(l:List Nd):List Row:=l.map (Xe o)
structure Tk where
 kind:Int
 text:List UInt8
 at_:Int
 deriving DecidableEq,Inhabited
def UG(n:Tk):Row:=[.int .i64 n.kind,.str n.text,.int .i64 n.at_]
def aA(l:List Tk):List Row:=l.map UG
section
variable (o:Bool) (n:Nd) (l:List Nd) (k:List Int) (i:Int) (t:Tk) (ts:List Tk)
@[simp] theorem dV:(encI k).length=k.length:=by simp[encI]
@[simp] theorem dI:(aP o l).length=l.length:=by simp[aP]
@[simp] theorem aX:(aA ts).length=ts.length:=by simp[aA]
@[simp] theorem anD:idx (encI k) i=(idx k i).map λk=>[D.int .i64 k]:=al0 _ _ _
@[simp] theorem aHE:idx (aP o l) i=(idx l i).map (Xe o):=al0 _ _ _
@[simp] theorem aHF:idx (aA ts) i=(idx ts i).map UG:=al0 _ _ _
@[simp] theorem Eu(j:Nat):(encI k)[j]? =(k[j]?).map λk=>[D.int .i64 k]:=by simp[encI]
@[simp] theorem nH(j:Nat):(aP o l)[j]? =(l[j]?).map (Xe o):=by simp[aP]
@[simp] theorem dZ(j:Nat):(aA ts)[j]? =(ts[j]?).map UG:=by simp[aA]
@[simp] theorem cN0:dG .i64 (Xe o n) 0=some n.kind:=rfl
@[simp] theorem cN1:dG .i64 (Xe o n) 1=some n.op:=rfl
@[simp] theorem cN2:cStr (Xe o n) 2=some n.text:=rfl
@[simp] theorem cN3:cStr (Xe o n) 3=some n.other:=rfl
@[simp] theorem cN4:cSl 1 (Xe o n) 4=some (encI n.kids):=rfl
@[simp] theorem Qr:dG .i64 (UG t) 0=some t.kind:=rfl
@[simp] theorem cT1:cStr (UG t) 1=some t.text:=rfl
@[simp] theorem cT2:dG .i64 (UG t) 2=some t.at_:=rfl
@[simp] theorem cI0:dG .i64 [D.int .i64 i] 0=some i:=rfl
@[simp] theorem azr:aF (encI k)=encI k:=by
 induction k with
 |nil=>rfl
 |cons x l ih=>simp only[encI,zmc,aF] at ih|-;rw[ih];rfl
@[simp] theorem bV:aF (aP o l)=aP false l:=by
 induction l with
 |nil=>rfl
 |cons x l ih=>simp only[aP,zmc,aF] at ih|-;rw[ih];simp[Xe,Bl,D.fz,azr]
@[simp] theorem aH6:aF (aA ts)=aA ts:=by
 induction ts with
 |nil=>rfl
 |cons x l ih=>simp only[aA,zmc,aF] at ih|-;rw[ih];simp[UG,Bl,D.fz]
@[simp] theorem TM:aj (encI k)=true:=by simp only[aj,encI,List.all_map,List.all_eq_true];intro x _;rfl
end
def I64(n:Int):Prop:= -9223372036854775808<=n/\n<=9223372036854775807
def XM{α ω τ:Type}(f:ω->α->ω⊕τ)(fin:ω->τ):List α->ω->τ
 |[],w=>fin w
 |x::l,w=>match f w x with
  | .inl w'=>XM f fin l w'
  | .inr t=>t
def Xf{σ τ α ω:Type}(b:σ->Option (σ⊕τ))(l:List α)(st:Nat->ω->σ)(f:ω->α->ω⊕τ)(fin:ω->τ)(I:Nat->ω->Prop)
  (hstep:∀i x w,l[i]? =some x->I i w->b (st i w)=some (match f w x with| .inl w'=> .inl (st (i+1) w')| .inr t=> .inr t))
  (hI:∀i x w w',l[i]? =some x->I i w->f w x=.inl w'->I (i+1) w')
  (hend:∀w,I l.length w->b (st l.length w)=some (.inr (fin w))) (w:ω) (h0:I 0 w):dU b (st 0 w)=some (XM f fin l w):=by
 have key:∀(t:List α) (i:Nat) (w:ω),l.drop i=t->i<=l.length->I i w->dU b (st i w)=some (XM f fin t w):=by
  intro t;induction t with
  |nil=>
   intro i w hd hi hI';have:i=l.length:=by have:=congrArg List.length hd;simp at this;omega
   subst this;exact aQ (hend w hI')
  |cons x t ih=>
   intro i w hd hi hI';have hx:l[i]? =some x:=by
    have:(l.drop i)[0]? =some x:=by rw[hd];rfl
    simpa using this
   have hlt:i<l.length:=(Qm.1 hx).1;have hd':l.drop (i+1)=t:=by rw[<-List.drop_drop,hd];rfl
   have hs:=hstep i x w hx hI';simp only[XM];cases hf:f w x with
   |inl w'=>rw[hf] at hs;rw[bI hs];exact ih (i+1) w' hd' hlt (hI i x w w' hx hI' hf)
   |inr u=>rw[hf] at hs;exact aQ hs
 exact key l 0 w rfl (Nat.zero_le _) h0
section
variable {X:Ctx} {base:Nat} {U:Nat->Prop} {w w':World} {f:FuncId} {gargs nG:List Value} {N1 N2:List Nat} {P:Program}
def avU{args:List V}(hG:Given X base U w f args [] gargs nG N1 N2)(hm:∀i,i<args.length->PG X.TI f i=0):
  nG=[]/\N1=[]/\N2=[]/\dh (impμ []) [] (view w U (· ∈([]:List Nat)++[])) args gargs:=by
 obtain⟨rfl,rfl⟩:=hG.cells;have key:∀(args:List V) (i:Nat) (gs:List Value) (N:List Nat) (hv:View),(∀j,i<=j->j<i+args.length->PG X.TI f j=0)->TU X.TI f (impμ []) (wu 0 []) (dO w) hv i args gs N->N=[]/\dh (impμ []) [] hv args gs:=by
  intro args;induction args with
  |nil=>intro i gs N hv _ h;simp only[TU] at h;exact⟨h.2,by simpa[dh] using h.1⟩
  |cons a args ih=>intro i gs N hv hi h;simp only[TU,hi i (Nat.le_refl _) (by simp)] at h;obtain⟨g,gs',M1,M2,rfl,rfl,⟨rfl,hq⟩,hr⟩:=h;obtain⟨rfl,hs⟩:=ih (i+1) gs' M2 hv (λj h1 h2=>hi j ak (by simp only[ZE];omega)) hr;exact⟨rfl,by simp only[dh];exact⟨g,gs',rfl,hq,hs⟩⟩
 obtain⟨rfl,hs⟩:=key args 0 gargs N1 _ (λj _ hj=>hm j ak) hG.args;exact⟨rfl,rfl,rfl,hs⟩
def aqY{μ:Nat->Value}{m:Mem}{h:View}{a b:List UInt8}(q:dh μ m h [.d (.str a),.d (.str b)] gargs):gargs=[.string ⟨⟨a⟩⟩,.string ⟨⟨b⟩⟩]:=by simp only[dh,bn,ro] at q;obtain⟨g,gs,rfl,rfl,g',gs',rfl,rfl,rfl⟩:=q;rfl
def aqZ{t:TypeId}{x:D}{g:Value}(ht:RH P t=false)(hpt:alu P t=none)(hx:∀H h,ow H h x g [])(hk:Keep [] w w'):Did P U w w' ([]++[]) [t] [] [] [] [[x]] [g] [] []:=by
 refine⟨hk,by simp,by simp,rfl,⟨rfl,rfl⟩, ?_⟩;simp only[VY];refine⟨_,_,_,_,[],[],rfl,rfl,rfl,(Rn hpt).2 ⟨[g], ?_, ?_,rfl⟩,rfl,rfl,rfl⟩
 ·rw[valOf,if_neg (by rw[ht];simp)]
 ·simp only[jU];exact⟨_,_,[],[],rfl,rfl,hx _ _,rfl⟩
end
inductive Tn where
 |mk (kind op:Int) (text other:List UInt8) (kids:List Tn)
mutual
def Tn.size:Tn->Nat
 | .mk _ _ _ _ ks=>sizes ks+1
def sizes:List Tn->Nat
 |[]=>0
 |t::ts=>t.size+sizes ts
end
def ends:List Tn->Nat->List Int
 |[],_=>[]
 |t::ts,b=>((b:Int)+t.size - 1)::ends ts (b+t.size)
mutual
def Tn.flat:Tn->Nat->List Nd
 | .mk k o x y ks,b=>qg ks b++[⟨k,o,x,y,ends ks b⟩]
def qg:List Tn->Nat->List Nd
 |[],_=>[]
 |t::ts,b=>t.flat b++qg ts (b+t.size)
end
mutual
def Tn.row(w:Bool):Tn->Row
 | .mk k o x y ks=>[.int .i64 k,.int .i64 o,.str x,.str y,.sl w 5 (iV w ks)]
def iV(w:Bool):List Tn->List Row
 |[]=>[]
 |t::ts=>t.row w::iV w ts
end
def Tn.kids:Tn->List Tn| .mk _ _ _ _ ks=>ks
def Tn.kind:Tn->Int| .mk k _ _ _ _=>k
def Tn.op:Tn->Int| .mk _ o _ _ _=>o
def Tn.text:Tn->List UInt8| .mk _ _ x _ _=>x
def Tn.other:Tn->List UInt8| .mk _ _ _ y _=>y
def Tn.ind{P:Tn->Prop}(h:∀k o x y ks,(∀t,t∈ks->P t)->P (.mk k o x y ks))(t:Tn):P t:=by
 refine Tn.rec (motive_1:=P) (motive_2:=λks=>∀t,t∈ks->P t) ?_ ?_ ?_ t
 ·intro k o x y ks ih;exact h k o x y ks ih
 ·intro t ht;cases ht
 ·intro t ts h1 h2 u hu;rcases List.mem_cons.1 hu with rfl|hu
  ·exact h1
  ·exact h2 u hu
def Tn.size_pos:∀t:Tn,1<=t.size
 | .mk _ _ _ _ ks=>by rw[Tn.size];omega
def Tn.Hw(t:Tn):t.size=sizes t.kids+1:=by cases t;rfl
def Gf:∀a b:List Tn,sizes (a++b)=sizes a+sizes b
 |[],b=>by simp[sizes]
 |t::a,b=>by rw[zca,sizes,sizes,Gf a b];omega
def zW:∀ks:List Tn,ks.length<=sizes ks
 |[]=>Nat.le_refl _
 |t::ts=>by have:=zW ts;have:=t.size_pos;rw[sizes,ZE];omega
def Ew:∀{ks:List Tn} {t:Tn},t∈ks->t.size<=sizes ks
 |u::ts,t,h=>by
  rw[sizes];rcases List.mem_cons.1 h with rfl|h
  ·omega
  ·have:=Ew h;omega
def jM:∀(ks:List Tn) (b:Nat),(ends ks b).length=ks.length
 |[],_=>rfl
 |t::ts,b=>by rw[ends,ZE,jM ts,ZE]
def YE:∀(a c:List Tn) (b:Nat),ends (a++c) b=ends a b++ends c (b+sizes a)
 |[],c,b=>by simp[ends,sizes]
 |t::a,c,b=>by rw[zca,ends,ends,YE a c,sizes,zca,Nat.add_assoc]
def Xg:∀(a c:List Tn) (b:Nat),qg (a++c) b=qg a b++qg c (b+sizes a)
 |[],c,b=>by simp[qg,sizes]
 |t::a,c,b=>by rw[zca,qg,qg,Xg a c,sizes,VN,Nat.add_assoc]
mutual
def Tn.flat_length:∀(t:Tn) (b:Nat),(t.flat b).length=t.size
 | .mk _ _ _ _ ks,b=>by rw[Tn.flat,Tn.size,PD,wW ks b];rfl
def wW:∀(ks:List Tn) (b:Nat),(qg ks b).length=sizes ks
 |[],_=>rfl
 |t::ts,b=>by rw[qg,sizes,PD,t.flat_length b,wW ts]
end
def avV{ks:List Tn}{b j:Nat}(h:j<ks.length):(ends ks b)[j]? =some ((b:Int)+sizes (ks.take (j+1)) - 1):=by
 induction ks generalizing b j with
 |nil=>simp at h
 |cons t ts ih=>
  cases j with
  |zero=>simp[ends,sizes]
  |succ j=>simp only[ZE,Nat.add_lt_add_iff_right] at h;rw[ends,List.getElem?_cons_succ,ih h,List.take_succ_cons,sizes];congr 1;omega
def Nd.up(d:Int)(n:Nd):Nd:={n with kids:=n.kids.map (· +d)}
def ash:∀(ks:List Tn) (b c:Nat),ends ks c=(ends ks b).map (· +((c:Int) - b))
 |[],_,_=>rfl
 |t::ts,b,c=>by rw[ends,ends,zmc,ash ts (b+t.size) (c+t.size)];have e:(((c+t.size:Nat):Int) - ((b+t.size:Nat):Int))=(c:Int) - b:=ak;rw[e];congr 1;omega
mutual
def Tn.asi:∀(t:Tn) (b c:Nat),t.flat c=(t.flat b).map (Nd.up ((c:Int) - b))
 | .mk k o x y ks,b,c=>by rw[Tn.flat,Tn.flat,List.map_append,anE ks b c,ash ks b c];rfl
def anE:∀(ks:List Tn) (b c:Nat),qg ks c=(qg ks b).map (Nd.up ((c:Int) - b))
 |[],_,_=>rfl
 |t::ts,b,c=>by rw[qg,qg,List.map_append,t.asi b c,anE ts (b+t.size) (c+t.size)];have e:(((c+t.size:Nat):Int) - ((b+t.size:Nat):Int))=(c:Int) - b:=ak;rw[e]
end
def Lies(l:List Nd)(b:Nat)(t:Tn):Prop:=∃pre post,l=pre++(t.flat b++post)/\pre.length=b
def Lies.whole(t:Tn):Lies (t.flat 0) 0 t:=⟨[],[],by simp,rfl⟩
def Lies.root{l:List Nd}{b:Nat}{k o:Int}{x y:List UInt8}{ks:List Tn}(h:Lies l b (.mk k o x y ks)):l[b+sizes ks]? =some ⟨k,o,x,y,ends ks b⟩:=by obtain⟨pre,post,rfl,rfl⟩:=h;rw[Tn.flat,List.getElem?_append_right ak,VN,List.getElem?_append_right (by rw[wW];omega),wW];simp
def Lies.kid{l:List Nd}{b:Nat}{k o:Int}{x y:List UInt8}{a c:List Tn}{t:Tn}(h:Lies l b (.mk k o x y (a++t::c))):Lies l (b+sizes a) t:=by obtain⟨pre,post,rfl,rfl⟩:=h;refine⟨pre++qg a pre.length,qg c (pre.length+sizes a+t.size)++[⟨k,o,x,y,ends (a++t::c) pre.length⟩]++post, ?_,by rw[PD,wW]⟩;rw[Tn.flat,Xg,qg];simp only[VN]
def Lies.lt{l:List Nd}{b:Nat}{t:Tn}(h:Lies l b t):b+t.size<=l.length:=by obtain⟨pre,post,rfl,rfl⟩:=h;simp only[PD,t.flat_length];omega
def gX(st:List Int):List Int->Int->Option Int
 |[],at_=>some at_
 |k::ks,at_=>if at_<0\/k≠at_ then none else gX st ks ((st[k.toNat]?.getD 0) - 1)
def jg:List Int->List (List Int)->Option (List Int)
 |st,[]=>some st
 |st,n::l=>match gX st n.reverse ((st.length:Int) - 1) with
  |none=>none
  |some at_=>jg (st++[at_+1]) l
def uG(l:List (List Int)):Option (List Int):=if 1<=l.length/\l.length<=400 then jg [] l else none
def ks(l:List Nd):List (List Int):=l.map (·.kids)
def MR(l:List Nd):Bool:=match uG (ks l) with
 |none=>false
 |some st=>st[l.length - 1]?.getD 0==0
def Wi(l:List Nd):(ks l).length=l.length:=by simp[ks]
mutual
def Tn.sts:Tn->Nat->List Int
 | .mk _ _ _ _ ks,b=>UH ks b++[(b:Int)]
def UH:List Tn->Nat->List Int
 |[],_=>[]
 |t::ts,b=>t.sts b++UH ts (b+t.size)
end
mutual
def Tn.ag7:∀(t:Tn) (b:Nat),(t.sts b).length=t.size
 | .mk _ _ _ _ ks,b=>by rw[Tn.sts,Tn.size,PD,Rq ks b];rfl
def Rq:∀(ks:List Tn) (b:Nat),(UH ks b).length=sizes ks
 |[],_=>rfl
 |t::ts,b=>by rw[UH,sizes,PD,t.ag7 b,Rq ts]
end
def Tn.anF:∀(t:Tn) (b:Nat),∃u,t.sts b=u++[(b:Int)]/\u.length=t.size - 1
 | .mk _ _ _ _ ks,b=>⟨UH ks b,by rw[Tn.sts],by rw[Rq,Tn.size];omega⟩
def atJ{st:List Int}{b:Nat}(hb:st.length=b):∀(ks:List Tn) (u:List Int),gX (st++UH ks b++u) (ends ks b).reverse ((b:Int)+sizes ks - 1)=some ((b:Int) - 1):=by
 intro ks;induction hn:ks.length generalizing ks with
 |zero=>intro u;have:ks=[]:=List.length_eq_zero_iff.1 hn;subst this;simp[ends,gX,sizes]
 |succ n ih=>
  intro u;obtain⟨ts,t,rfl⟩:∃ts t,ks=ts++[t]:=by
   have hne:ks≠[]:=by intro e;simp[e] at hn
   exact⟨ks.dropLast,ks.getLast hne,(List.dropLast_concat_getLast hne).symm⟩
  have hp:=t.size_pos;have hss:UH (ts++[t]) b=UH ts b++t.sts (b+sizes ts):=by
   have:∀(ts:List Tn) (b:Nat),UH (ts++[t]) b=UH ts b++t.sts (b+sizes ts):=by
    intro ts;induction ts with
    |nil=>intro b;simp[UH,sizes]
    |cons v vs ihv=>intro b;rw[zca,UH,UH,ihv,sizes,VN,Nat.add_assoc]
   exact this ts b
  have hsz:sizes (ts++[t])=sizes ts+t.size:=by rw[Gf,sizes,sizes];omega
  rw[YE,List.reverse_append,ends,ends,List.reverse_singleton,List.singleton_append,gX,hsz];have hn':¬((b:Int)+((sizes ts+t.size:Nat):Int) - 1<0\/((b+sizes ts:Nat):Int)+t.size - 1≠(b:Int)+((sizes ts+t.size:Nat):Int) - 1):=ak;rw[if_neg hn'];obtain⟨w,hw,hwl⟩:=t.anF (b+sizes ts);have hget:(st++UH (ts++[t]) b++u)[(((b+sizes ts:Nat):Int)+t.size - 1).toNat]? =some ((b+sizes ts:Nat):Int):=by
   rw[hss,hw];have e:(((b+sizes ts:Nat):Int)+t.size - 1).toNat=(st++UH ts b++w).length:=by simp only[PD,hb,Rq,hwl];omega
   rw[e,show st++(UH ts b++(w++[((b+sizes ts:Nat):Int)]))++u=(st++UH ts b++w)++(((b+sizes ts:Nat):Int)::u) by simp,List.getElem?_append_right (Nat.le_refl _)];simp
  rw[hget,Option.getD_some,hss,show st++(UH ts b++t.sts (b+sizes ts))++u=st++UH ts b++(t.sts (b+sizes ts)++u) by simp];have:=ih ts (by simpa using hn) (t.sts (b+sizes ts)++u);rw[<-this];congr 1
mutual
def Tn.ae2:∀(t:Tn) (st:List Int) (l:List Nd),jg st (ks (t.flat st.length++l))=jg (st++t.sts st.length) (ks l)
 | .mk k o x y us,st,l=>by rw[Tn.flat,VN,acf us st];have e:ks ([⟨k,o,x,y,ends us st.length⟩]++l)=ends us st.length::ks l:=rfl;have hw:=atJ (st:=st) rfl us [];rw[List.append_nil] at hw;rw[e,jg,PD,Rq,Int.natCast_add,hw,Tn.sts];simp only;rw[VN];congr 3;simp
def acf:∀(us:List Tn) (st:List Int) (l:List Nd),jg st (ks (qg us st.length++l))=jg (st++UH us st.length) (ks l)
 |[],st,l=>by simp[qg,UH]
 |t::us,st,l=>by rw[qg,VN,t.ae2 st];have:=acf us (st++t.sts st.length) l;rw[PD,t.ag7] at this;rw[this,UH,VN]
end
def anG(t:Tn):jg [] (ks (t.flat 0))=some (t.sts 0):=by have:=t.ae2 [] [];simpa[ks,jg] using this
def Wj(w:Bool):∀ts:List Tn,iV w ts=ts.map (Tn.row w)
 |[]=>rfl
 |t::ts=>by rw[iV,Wj w ts];rfl
mutual
def aE0(w:Bool):∀t:Tn,Bl (t.row w)=t.row false
 | .mk k o x y ts=>by have:=yU w ts;simp only[Tn.row,Bl,D.fz,this]
def yU(w:Bool):∀ts:List Tn,aF (iV w ts)=iV false ts
 |[]=>rfl
 |t::ts=>by rw[iV,aF,aE0 w t,yU w ts,iV]
end
def it{α:Type}(f:α->α):Nat->α->α
 |0,x=>x
 |n+1,x=>it f n (f x)
def aq0{α:Type}(f:α->α)(x:α):it f 0 x=x:=rfl
def af4{α:Type}(f:α->α)(n:Nat)(x:α):it f (n+1) x=it f n (f x):=rfl
def ag8{α:Type}(f:α->α):∀(m n:Nat) (x:α),it f (m+n) x=it f n (it f m x)
 |0,n,x=>by rw[Nat.zero_add];rfl
 |m+1,n,x=>by rw[Nat.add_right_comm];exact ag8 f m n (f x)
def al1{α:Type}(f:α->α)(n:Nat)(x:α):it f (n+1) x=f (it f n x):=ag8 f n 1 x
def ag9:Nat:=18446744073709551616
def acg(x:Nat):Nat:=(6364136223846793005 * x+1442695040888963407) % ag9
def pwT:List (Nat×Nat):=[(6364136223846793005,1442695040888963407),(7520897724310334953,1876011003808476466),(18108194425815612945,7401132627792533940),(13086856194709077281,6566661184467396264),(10186629832379121217,3646985772805368400),(10828933358287359105,982119659650238624),(4910590176156014849,10607473198416945472),(9908147928152388097,6914523672464851584),(146241703003251713,4689171378020353280),(7321387688379467777,8103286608563669504),(12255457568021647361,7710372194127975424),(9867978473775767553,16043993925053589504),(5088048636545613825,1993901509916512256),(2150478223927705601,13175896319671181312),(9196835419631190017,1993366741509554176),(5957860013156466689,7241871532530761728),(10389140232424652801,9829074100562493440),(13023643825678581761,7211655632440131584),(288945459443007489,14014807304630960128),(13413133364217511937,15586959662575517696),(8991946233350193153,5614651135149211648),(1986842707489718273,10449321915693662208),(13772462672974970881,17778722412968280064),(11399802156803424257,4631015078550831104),(13559343778149433345,14683519683525607424),(8604389488178757633,14159509325327892480),(16938562998715285505,4382386631181598720),(14349518013152100353,5251965553014210560),(5928836310318972929,14899444342342025216),(13010594125244792833,10487453482519363584),(12186130195207421953,17516142451218186240),(5925516316705292289,2750482773444657152),(11851032633410584577,5500965546889314304),(5255321193111617537,11001931093778628608),(10510642386223235073,3557118113847705600),(2574540698736918529,7114236227695411200),(5149081397473837057,14228472455390822400),(10298162794947674113,10010200837072093184),(2149581516185796609,1573657600434634752),(4299163032371593217,3147315200869269504),(8598326064743186433,6294630401738539008),(17196652129486372865,12589260803477078016),(15946560185263194113,6731777533244604416),(13446376296816836609,13463555066489208832),(8446008519924121601,8480366059268866048),(16892017039848243201,16960732118537732096),(15337290005986934785,15474720163365912576),(12227835938264317953,12502696253022273536),(6008927802819084289,6558648432334995456),(12017855605638168577,13117296864669990912),(5588967137566785537,7787849655630430208),(11177934275133571073,15575699311260860416),(3909124476557590529,12704654548812169216),(7818248953115181057,6962565023914786816),(15636497906230362113,13925130047829573632),(12826251738751172609,9403516021949595648),(7205759403792793601,360287970189639680),(14411518807585587201,720575940379279360),(10376293541461622785,1441151880758558720),(2305843009213693953,2882303761517117440),(4611686018427387905,5764607523034234880),(9223372036854775809,11529215046068469760),(1,4611686018427387904),(1,9223372036854775808)]
def af5:List (Nat×Nat)->Bool
 |a::l=>(match l with
  |b::_=>Nat.beq b.1 (a.1 * a.1 % ag9) && Nat.beq b.2 ((a.1 * a.2+a.2) % ag9)
  |[]=>true) && af5 l
 |[]=>true
def anH:Nat->List (Nat×Nat)->Bool
 |p,a::l=>Nat.beq (a.1 %(2 * p)) 1 &&(Nat.beq (a.2 %(2 * p)) p && anH (2 * p) l)
 |_,[]=>true
def avW:af5 pwT=true:=by kernel_rfl
def aE1:anH 1 pwT=true:=by kernel_rfl
def aE2:pwT.length=64:=by kernel_rfl
def aff(M a c x:Nat):(a * ((a * x+c) % M)+c) % M=(a * a % M * x+(a * c+c) % M) % M:=by
 have h1:(a * ((a * x+c) % M)+c) % M=(a * (a * x+c)+c) % M:=by rw[Nat.add_mod,Nat.mul_mod,Nat.mod_mod,<-Nat.mul_mod,<-Nat.add_mod]
 have h2:(a * a % M * x+(a * c+c) % M) % M=(a * a * x+(a * c+c)) % M:=by rw[Nat.add_mod,Nat.mod_mod,Nat.mul_mod,Nat.mod_mod,<-Nat.mul_mod,<-Nat.add_mod]
 rw[h1,h2,Nat.mul_add,Nat.mul_assoc,Nat.add_assoc]
def asj:∀(l:List (Nat×Nat)) (k:Nat) (a:Nat×Nat),af5 (a::l)=true->(∀x,it acg (2 ^ k) x=(a.1 * x+a.2) % ag9)->∀(j:Nat) q,(a::l)[j]? =some q->∀x,it acg (2 ^(k+j)) x=(q.1 * x+q.2) % ag9
 |l,k,a,_,h,0,q,hq=>by cases hq;exact h
 |[],k,a,_,h,j+1,q,hq=>by simp at hq
 |b::l,k,a,hs,h,j+1,q,hq=>by
  rw[af5] at hs;simp only[wo] at hs;have h1:=Ia hs.1.1;have h2:=Ia hs.1.2;have hb:∀x,it acg (2 ^(k+1)) x=(b.1 * x+b.2) % ag9:=by intro x;rw[Nat.pow_succ,Nat.mul_two,ag8,h x,h,h1,h2,aff]
  rw[<-Nat.add_assoc,Nat.add_right_comm];exact asj l (k+1) b hs.2 hb j q (by simpa using hq)
def anI:∀(l:List (Nat×Nat)) (k:Nat),anH (2 ^ k) l=true->∀(j:Nat) q,l[j]? =some q->q.1 % 2 ^(k+j+1)=1/\q.2 % 2 ^(k+j+1)=2 ^(k+j)
 |[],k,_,j,q,hq=>by simp at hq
 |a::l,k,h,0,q,hq=>by cases hq;rw[anH] at h;simp only[wo] at h;rw[Nat.add_zero,Nat.pow_succ,Nat.mul_comm];exact⟨Ia h.1,Ia h.2.1⟩
 |a::l,k,h,j+1,q,hq=>by
  rw[anH] at h;simp only[wo] at h;have:=anI l (k+1) (by rw[Nat.pow_succ,Nat.mul_comm];exact h.2.2) j q (by simpa using hq)
  rwa [show k+1+j=k+(j+1) by omega] at this
def avX(a:Nat×Nat)(h:a=(6364136223846793005,1442695040888963407))(x:Nat):it acg (2 ^ 0) x=(a.1 * x+a.2) % ag9:=by rw[h,Nat.pow_zero,it,it,acg]
def azs:pwT.head? =some (6364136223846793005,1442695040888963407):=by kernel_rfl
def aH7(k:Nat)(hk:k<64):∃q:Nat×Nat,q.1 % 2 ^(k+1)=1/\q.2 % 2 ^(k+1)=2 ^ k/\∀x,it acg (2 ^ k) x=(q.1 * x+q.2) % ag9:=by
 have h1:=avW;have h2:=aE1;have h3:=aE2;have h4:=azs;generalize pwT=l at h1 h2 h3 h4;cases hq:l[k]? with
 |none=>rw[List.getElem?_eq_none_iff] at hq;omega
 |some q=>
  obtain⟨ha,hc⟩:=anI l 0 h2 k q hq;rw[Nat.zero_add] at ha hc;cases l with
  |nil=>simp at h4
  |cons a l=>simp only[List.head?_cons,lM] at h4;have hs:=asj l 0 a h1 (avX a h4) k q hq;rw[Nat.zero_add] at hs;exact⟨q,ha,hc,hs⟩
def anJ:∀(k:Nat),k<=64->∀x,∃t,it acg t x % 2 ^ k=0
 |0,_,x=>⟨0,Nat.mod_one _⟩
 |k+1,hk,x=>by
  obtain⟨t,ht⟩:=anJ k ak x;have hm:it acg t x % 2 ^(k+1)=2 ^ k * (it acg t x / 2 ^ k % 2):=by rw[Nat.pow_succ,Nat.mod_mul,ht,Nat.zero_add]
  have h2:it acg t x / 2 ^ k % 2=0\/it acg t x / 2 ^ k % 2=1:=ak;rcases h2 with h2|h2
  ·exact⟨t,by rw[hm,h2,Nat.mul_zero]⟩
  ·rw[h2,Nat.mul_one] at hm;refine⟨t+2 ^ k, ?_⟩;obtain⟨q,ha,hc,hs⟩:=aH7 k ak;have hd:2 ^(k+1)∣ag9:=by
    have:ag9=2 ^ 64:=by decide
    rw[this];exact Nat.pow_dvd_pow 2 hk
   rw[ag8,hs,Nat.mod_mod_of_dvd _ hd,Nat.add_mod,Nat.mul_mod,ha,hm,hc,Nat.one_mul];have hlt:2 ^ k<2 ^(k+1):=by rw[Nat.pow_succ];have:=Nat.two_pow_pos k;omega
   rw[Nat.mod_eq_of_lt hlt,Nat.pow_succ,Nat.mul_two,Nat.mod_self]
def nxH(h:Int):Int:=i64.wrap (i64.wrap (h * 6364136223846793005)+1442695040888963407)
def aq1(h:Int):Nat:=(h % 18446744073709551616).toNat
def avY(h:Int): -9223372036854775808<=nxH h/\nxH h<=9223372036854775807:=by unfold nxH;rw[IntKind.wrap_i64,IntKind.wrap_i64];omega
def anK(z:Int):i64.wrap z % 18446744073709551616=z % 18446744073709551616:=by rw[IntKind.wrap_i64];omega
def azt(a c m h:Int)(hm:0<m):(a * ((h % m).toNat:Int)+c) % m=(h * a+c) % m:=by rw[Int.toNat_of_nonneg (Int.emod_nonneg h ak),Int.add_emod,Int.mul_emod,Int.emod_emod_of_dvd h (Int.dvd_refl m),<-Int.mul_emod,<-Int.add_emod,Int.mul_comm]
def aE3(h:Int):aq1 (nxH h)=acg (aq1 h):=by
 have h1:nxH h % 18446744073709551616=(h * 6364136223846793005+1442695040888963407) % 18446744073709551616:=by unfold nxH;rw[anK,Int.add_emod,anK,<-Int.add_emod]
 have h2:=azt 6364136223846793005 1442695040888963407 18446744073709551616 h (by decide);unfold aq1 acg ag9;rw[h1,<-h2];generalize (h % 18446744073709551616).toNat=x;have h3:((6364136223846793005 * (x:Int)+1442695040888963407) % 18446744073709551616)=(((6364136223846793005 * x+1442695040888963407) % 18446744073709551616:Nat):Int):=by rw[Int.natCast_emod,Int.natCast_add,Int.natCast_mul];rfl
 rw[h3,Yf]
def avZ:∀(n:Nat) (h:Int),aq1 (it nxH n h)=it acg n (aq1 h)
 |0,_=>by rw[aq0,aq0]
 |n+1,h=>by rw[af4,af4,avZ n,aE3]
def azu(h:Int):∃t,it nxH t h=0:=by
 obtain⟨t,ht⟩:=anJ 64 (Nat.le_refl _) (aq1 (nxH h));refine⟨t+1, ?_⟩;rw[af4];rw[<-avZ t] at ht;have hr: -9223372036854775808<=it nxH t (nxH h)/\it nxH t (nxH h)<=9223372036854775807:=by
  cases t with
  |zero=>exact avY h
  |succ t=>rw[al1];exact avY _
 have e:(2:Nat) ^ 64=18446744073709551616:=by decide
 rw[e] at ht;unfold aq1 at ht;omega
def ach(x:Int):Nat:=(BitVec.ofInt 64 x &&& BitVec.ofInt 64 255).toNat
def anL(h:Int):Int:=i64.wrap (↑(BitVec.ofInt 64 (h.fdiv 8589934592) ^^^ BitVec.ofInt 64 (h.fdiv 35184372088832)).toNat:Int)
def asl(x:Int):ach x<256:=by
 unfold ach;rw[BitVec.toNat_and];have:=@Nat.and_le_right (BitVec.ofInt 64 x).toNat (BitVec.ofInt 64 255).toNat;have e:(BitVec.ofInt 64 255).toNat=255:=by decide
 omega
structure Cu where
 code:List UInt8
 i:Nat
 h:Int
def Cu.nx(s:Cu):Cu:=⟨s.code,if s.i<s.code.length then s.i+1 else s.i,nxH s.h⟩
def Cu.byte(s:Cu):Nat:=match s.code[s.i]? with
 |some b=>ach (i64.wrap ((ach (anL (nxH s.h)):Int)+b.toNat))
 |none=>ach (anL (nxH s.h))
def Cu.azv(s:Cu):s.byte<256:=by unfold Cu.byte;split<;>exact asl _
def Cu.st(s:Cu)(p:Nat):Cu:=it Cu.nx p s
def Cu.g(s:Cu)(p:Nat):Nat:=(s.st p).byte
def Cu.st_succ(s:Cu)(p:Nat):s.st (p+1)=(s.st p).nx:=al1 _ _ _
def Cu.anM(s:Cu)(p q:Nat):(s.st p).st q=s.st (p+q):=(ag8 _ _ _ _).symm
def Cu.Ls(s:Cu):∀p,(s.st p).code=s.code
 |0=>rfl
 |p+1=>by rw[Cu.st_succ];exact Cu.Ls s p
def Cu.av1(s:Cu)(h:s.i<=s.code.length):∀p,(s.st p).i=min (s.i+p) s.code.length
 |0=>by show s.i=_;omega
 |p+1=>by rw[Cu.st_succ];show(if(s.st p).i<(s.st p).code.length then(s.st p).i+1 else(s.st p).i)=_;rw[Cu.Ls,Cu.av1 s h p];split<;>omega
def Cu.aE4(s:Cu):∀p,(s.st p).h=it nxH p s.h
 |0=>rfl
 |p+1=>by rw[Cu.st_succ,al1,<-Cu.aE4 s p];rfl
def Cu.zero(c:List UInt8):Cu:=⟨c,c.length,0⟩
def Cu.azw(s:Cu)(h:s.i<=s.code.length):∃t,s.st t=Cu.zero s.code:=by
 obtain⟨t,ht⟩:=azu (s.st (s.code.length - s.i)).h;refine⟨s.code.length - s.i+t, ?_⟩;rw[<-Cu.anM];have h1:((s.st (s.code.length - s.i)).st t).h=0:=by rw[Cu.aE4];exact ht
 have h2:((s.st (s.code.length - s.i)).st t).i=s.code.length:=by rw[Cu.anM,Cu.av1 s h];omega
 have h3:((s.st (s.code.length - s.i)).st t).code=s.code:=by rw[Cu.Ls,Cu.Ls]
 cases hs:(s.st (s.code.length - s.i)).st t with
 |mk c i h=>rw[hs] at h1 h2 h3;simp only at h1 h2 h3;subst h1 h2 h3;rfl
def ae3(p:Nat):Nat:=ach (anL (nxH (it nxH p 0)))
def Cu.aE5(c:List UInt8)(p:Nat):(Cu.zero c).g p=ae3 p:=by
 unfold Cu.g Cu.byte ae3;have h1:((Cu.zero c).st p).i=c.length:=by rw[Cu.av1 _ (Nat.le_refl _)];show min (c.length+p) c.length=_;omega
 have h2:((Cu.zero c).st p).code=c:=Cu.Ls _ _;have h3:((Cu.zero c).st p).h=it nxH p 0:=Cu.aE4 _ _;rw[h1,h2,h3,List.getElem?_eq_none (Nat.le_refl _)]
def atK(f:(Nat->Nat)->Nat->Nat×Nat)(lim L:Nat)(P:Cu->Prop)
  (hstep:∀(s:Cu) (p:Nat),s.i<=s.code.length->p<(f s.g p).2/\(f s.g p).2<=p+L/\((f s.g p).1<=lim->P (s.st p))/\(P (s.st (f s.g p).2)->P (s.st p)))
  (hsmall:∀j,j<=L->(f ae3 j).1<=lim):∀s:Cu,s.i<=s.code.length->P s:=by
 have key:∀(n t:Nat) (s:Cu),t<n->s.i<=s.code.length->s.st t=Cu.zero s.code->P s:=by
  intro n;induction n with
  |zero=>intro t s h;omega
  |succ n ih=>
   intro t s ht hi hz;obtain⟨h1,h2,_,h4⟩:=hstep s 0 hi;refine h4 ?_;have hi':(s.st (f s.g 0).2).i<=(s.st (f s.g 0).2).code.length:=by rw[Cu.Ls,Cu.av1 s hi];omega
   by_cases hle:(f s.g 0).2<=t
   ·refine ih (t - (f s.g 0).2) _ ak hi' ?_;rw[Cu.anM,Cu.Ls,show(f s.g 0).2+(t - (f s.g 0).2)=t by omega];exact hz
   ·have e:s.st (f s.g 0).2=(Cu.zero s.code).st ((f s.g 0).2 - t):=by rw[<-hz,Cu.anM];congr 1;omega
    rw[e];refine(hstep (Cu.zero s.code) _ (Nat.le_refl _)).2.2.1 ?_;have hg:(Cu.zero s.code).g=ae3:=funext (Cu.aE5 _);rw[hg];exact hsmall _ ak
 intro s hi;obtain⟨t,ht⟩:=s.azw hi;exact key (t+1) t s ak hi ht
mutual
def tyD(P:Program):Nat->TypeId->Row->Prop
 |0,_,_=>False
 |n+1,t,row=>match P.underlying t with
  |some .bool=>∃b,row=[.bool b]
  |some (.int k)=>∃x,row=[.int k x]/\(Lit.int k x).wf=true
  |some .string=>∃s,row=[.str s]/\s.length<=maxLen
  |some (.slice e)=>∃rows,row=[.sl false (uw P e) rows]/\rows.length<=maxLen/\∀r,r∈rows->tyD P n e r
  |some (.struct fs)=>av2 P n fs.toList row
  |_=>False
def av2(P:Program):Nat->List Field->Row->Prop
 |_,[],row=>row=[]
 |n,f::fs,row=>∃r1 r2,row=r1++r2/\tyD P n f.type r1/\av2 P n fs r2
end
def adD(P:Program):Nat->List Field->Option Nat
 |o,[]=>some o
 |o,f::fs=>bif Nat.beq f.offset o then adD P (o+P.cellsOf f.type) fs else none
def ae4(P:Program):Nat->TypeId->Bool
 |0,_=>false
 |n+1,t=>match P.underlying t with
  |some .bool|some (.int _)|some .string=>true
  |some (.slice e)=>ae4 P n e && Nat.ble 1 (uw P e)
  |some (.struct fs)=>(match adD P 0 fs.toList with|some o=>Nat.beq o (P.cellsOf t)|none=>false) && fs.toList.all λf=>ae4 P n f.type
  |_=>false
def atL(P:Program)(t:TypeId):uw P t=P.cellsOf t:=by unfold uw Program.cellsOf;cases P.info? t<;>rfl
def aha{α β:Type}{f:α->Option β}:∀{l:List α} {r:List β},l.mapM f=some r->r.length=l.length/\∀(i:Nat) x,l[i]? =some x->∃y,f x=some y/\r[i]? =some y
 |[],r,h=>by simp at h;subst h;exact⟨rfl,λi x h=>by simp at h⟩
 |a::l,r,h=>by
  rw[List.mapM_cons] at h;simp only[Option.bind_eq_bind,Option.bind_eq_some_iff,Option.pure_def,lM] at h;obtain⟨y,h1,r',h2,rfl⟩:=h;obtain⟨h3,h4⟩:=aha h2;refine⟨by simp[h3],λi x hx=> ?_⟩;cases i with
  |zero=>simp only[List.getElem?_cons_zero,lM] at hx;subst hx;exact⟨y,h1,rfl⟩
  |succ i=>simpa using h4 i x (by simpa using hx)
def asn{α:Type}{p:Nat->α->Prop}:∀(n k:Nat),(∀i,i<n->∃x,p (k+i) x)->∃l:List α,l.length=n/\∀(i:Nat) x,l[i]? =some x->p (k+i) x
 |0,_,_=>⟨[],rfl,λi x h=>by simp at h⟩
 |n+1,k,h=>by
  obtain⟨x,hx⟩:=h 0 ak;obtain⟨l,h1,h2⟩:=asn n (k+1) (λi hi=>by
   have:=h (i+1) ak
   rwa [show k+(i+1)=k+1+i by omega] at this)
  refine⟨x::l,by simp[h1],λi y hy=> ?_⟩;cases i with
  |zero=>simp only[List.getElem?_cons_zero,lM] at hy;subst hy;exact hx
  |succ i=>
   have:=h2 i y (by simpa using hy)
   rwa [show k+1+i=k+(i+1) by omega] at this
def anN{h:View}:∀(r:Row) (b o:Nat) (cs:List Value),(∀(j:Nat) v,cs[j]? =some v->h b (o+j)=some v)->ji h r cs->zU h r b o
 |[],_,_,_,_,_=>trivial
 |x::r,b,o,cs,hc,⟨v,cs',e,h1,h2⟩=>by
  subst e;exact⟨⟨v,by simpa using hc 0 v rfl,h1⟩,anN r b (o+1) cs' (λj u hj=>by
   have:=hc (j+1) u (by simpa using hj)
   rwa [show o+(j+1)=o+1+j by omega] at this) h2⟩
def aky{h:View}{s b:Nat}:∀(rs:List Row) (o:Nat),(∀(i:Nat) r,rs[i]? =some r->r.length=s/\zU h r b (o+i * s))->rP h s rs b o
 |[],_,_=>trivial
 |r::rs,o,hr=>by
  obtain⟨h1,h2⟩:=hr 0 r rfl;refine⟨h1,by simpa using h2,aky rs (o+s) λi q hq=> ?_⟩;obtain⟨h3,h4⟩:=hr (i+1) q (by simpa using hq);refine⟨h3, ?_⟩
  rwa [show o+(i+1) * s=o+s+i * s by rw[Nat.succ_mul];omega] at h4
def ae5{h:View}:∀{r1 r2:Row} {c1 c2:List Value},ji h r1 c1->r1.length=c1.length->ji h r2 c2->ji h (r1++r2) (c1++c2)
 |[],r2,c1,c2,_,hl,h2=>by have:c1=[]:=List.length_eq_zero_iff.1 hl.symm;subst this;exact h2
 |x::r1,r2,_,c2,⟨v,cs',e,h1,h3⟩,hl,h2=>by subst e;exact⟨v,cs'++c2,rfl,h1,ae5 h3 (by simpa using hl) h2⟩
def ahb{w:World}{base:Nat}{a:Addr}{n:Nat}{cs:List Value}(h:w.cells? base a n=some cs):cs.length=n/\∀j,j<n->∃v,w.cell? (a.add j)=some v/\cs[j]? =some v:=by
 unfold World.cells? at h;split at h
 ·obtain⟨h1,h2⟩:=aha h;rw[List.length_range] at h1;refine⟨h1,λj hj=> ?_⟩;exact h2 j j (by simp[hj])
 ·cases h
section
variable {H:Type} {enc:TypeId×Value->H} {P:Program} {w:World} {base:Nat} {spare:Nat->Bool} {held:Bool}
def akz{n:Nat}(ih:∀(t:TypeId) (cs:List Value) (d:DataW H) (ps:List MemPlace),ae4 P n t=true->DataW.trod enc P w base spare held n t cs=some (d,ps)->∃row:Row,row.length=cs.length/\tyD P n t row/\ji (full w) row cs):
  ∀(fs:List Field) (o tot:Nat) (cs:List Value) (xs:List (DataW H×List MemPlace)),adD P o fs=some tot->(fs.all λf=>ae4 P n f.type)=true->tot<=cs.length->
   fs.mapM (λf=>DataW.trod enc P w base spare held n f.type ((cs.drop f.offset).take (P.cellsOf f.type)))=some xs->
   ∃row:Row,row.length=tot - o/\o<=tot/\av2 P n fs row/\ji (full w) row ((cs.drop o).take (tot - o))
 |[],o,tot,cs,xs,hc,_,_,_=>by simp only[adD,lM] at hc;subst hc;exact⟨[],by simp,Nat.le_refl _,by simp[av2],trivial⟩
 |f::fs,o,tot,cs,xs,hc,hg,hle,hm=>by
  simp only[adD] at hc;cases hb:Nat.beq f.offset o with
  |false=>simp[hb] at hc
  |true=>
   simp only[hb,aJ] at hc;have hbo:=Ia hb;simp only[List.all_cons,wo] at hg;rw[List.mapM_cons] at hm;simp only[Option.bind_eq_bind,Option.bind_eq_some_iff,Option.pure_def,lM] at hm;obtain⟨y,h1,ys,h2,rfl⟩:=hm;obtain⟨aH8,l2,le2,t2,s2⟩:=akz ih fs _ tot cs ys hc hg.2 hle h2;obtain⟨azx,l1,t1,s1⟩:=ih _ _ y.1 y.2 hg.1 h1;rw[hbo] at l1 s1;have hl:((cs.drop o).take (P.cellsOf f.type)).length=P.cellsOf f.type:=by simp;omega
   rw[hl] at l1;refine⟨azx++aH8,by simp[l1,l2];omega,ak,by simp only[av2];exact⟨azx,aH8,rfl,t1,t2⟩, ?_⟩;have e:(cs.drop o).take (tot - o)=(cs.drop o).take (P.cellsOf f.type)++(cs.drop (o+P.cellsOf f.type)).take (tot - (o+P.cellsOf f.type)):=by rw[<-List.drop_drop,show tot - o=P.cellsOf f.type+(tot - (o+P.cellsOf f.type)) by omega,List.take_add]
   rw[e];exact ae5 s1 (by rw[l1,hl]) s2
def al2:∀(n:Nat) (t:TypeId) (cs:List Value) (d:DataW H) (ps:List MemPlace),ae4 P n t=true->DataW.trod enc P w base spare held n t cs=some (d,ps)->
  ∃row:Row,row.length=cs.length/\tyD P n t row/\ji (full w) row cs
 |0,t,cs,d,ps,hg,_=>by simp[ae4] at hg
 |n+1,t,cs,d,ps,hg,h=>by
  simp only[ae4] at hg;unfold DataW.trod at h;cases hu:P.underlying t with
  |none=>simp[hu] at hg
  |some D=>
   rw[hu] at hg h;cases D with
   |bool=>split at h<;>simp_all;rename_i b;exact⟨[.bool b],by simp,by simp[tyD,hu],_,_,rfl,rfl,trivial⟩
   |int k=>split at h<;>simp_all;rename_i k' x _;obtain⟨⟨rfl,hw⟩,_⟩:=h;refine⟨[.int _ x],by simp, ?_,_,_,rfl,rfl,trivial⟩;simp only[tyD,hu];exact⟨x,rfl,hw⟩
   |string=>
    split at h<;>simp_all;rename_i s;refine⟨[.str s.data.toList],by simp, ?_,_,_,rfl, ?_,trivial⟩
    ·simp only[tyD,hu];refine⟨_,rfl, ?_⟩;simpa using h.1
    ·simp[ro]
   |slice e=>
    simp only[wo] at hg;split at h
    all_goals first
     |(rename_i e1;cases e1;done)
     |(cases h;done)
     |(exfalso;rename_i h21 _ _ _ _ _ _ _ _ _ _ _ _ _ _ _ _ _ _ _;exact h21 _ rfl)
     |skip
    case h_7=>
     rename_i e1;refine⟨[.sl false (uw P e) []],rfl, ?_,_,_,rfl, ?_,trivial⟩
     ·simp only[tyD,hu];exact⟨[],rfl,by simp,λr hr=>by simp at hr⟩
     ·simp only[ro];exact⟨none,0,rfl,by simp,λhn=>absurd rfl hn⟩
    case h_8=>
     rename_i _ e' a len cap e1;cases e1;split at h
     ·rename_i hb;rw[Option.bind_eq_some_iff] at h;obtain⟨elems,hel,_⟩:=h;obtain⟨hl,hget⟩:=aha hel;rw[List.length_range] at hl;have hs:=atL P e;have hpos:1<=P.cellsOf e:=by rw[<-hs];exact Nat.le_of_ble_eq_true hg.2
      have hrow:∀i,i<len->∃r:Row,tyD P n e r/\r.length=uw P e/\a.spot=none/\zU (full w) r a.block (a.off+i * uw P e):=by
       intro i hi;obtain⟨y,hy,_⟩:=hget i i (by simp[hi]);rw[Option.bind_eq_some_iff] at hy;obtain⟨cs,hcs,hy⟩:=hy;obtain⟨row,l1,t1,s1⟩:=al2 n e cs y.1 y.2 hg.1 hy;obtain⟨hcl,hcg⟩:=ahb hcs;refine⟨row,t1,by rw[l1,hcl,hs], ?_, ?_⟩
       ·obtain⟨y0,hy0,_⟩:=hget 0 0 (List.getElem?_range ak);rw[Option.bind_eq_some_iff] at hy0;obtain⟨cs0,hcs0,_⟩:=hy0;obtain⟨u,hu1,_⟩:=(ahb hcs0).2 0 ak;simpa[Addr.add] using World.cell?_spot hu1
       ·refine anN row a.block _ cs (λj v hj=> ?_) s1;have hjn:j<P.cellsOf e:=by have:=(Qm.1 hj).1;omega
        obtain⟨u,hu1,hu2⟩:=hcg j hjn;rw[hu2] at hj;cases hj;have hsp:=World.cell?_spot hu1;have e2:((a.add (i * P.cellsOf e)).add j)=⟨a.block,a.off+i * uw P e+j,none⟩:=by
         rw[hs];generalize i * P.cellsOf e=q at hsp|-;obtain⟨ab,ao,as_⟩:=a;rcases Nat.eq_zero_or_pos q with h1|h1<;>rcases Nat.eq_zero_or_pos j with h2|h2
         ·subst h1;subst h2;have:as_=none:=hsp;subst this;rfl
         ·subst h1;simp[Addr.add,show j≠0 by omega]
         ·subst h2;simp[Addr.add,show q≠0 by omega]
         ·simp[Addr.add,show q≠0 by omega,show j≠0 by omega]
        rw[e2] at hu1;exact hu1
      obtain⟨rows,r1,r2⟩:=asn (p:=λi (r:Row)=>tyD P n e r/\r.length=uw P e/\a.spot=none/\zU (full w) r a.block (a.off+i * uw P e)) len 0 (λi hi=>by rw[Nat.zero_add];exact hrow i hi);refine⟨[.sl false (uw P e) rows],rfl, ?_,_,_,rfl, ?_,trivial⟩
      ·simp only[tyD,hu];refine⟨rows,rfl,ak,λr hr=> ?_⟩;obtain⟨i,hi⟩:=List.getElem?_of_mem hr;exact(r2 i r hi).1
      ·simp only[ro];refine⟨some a,cap,by rw[r1],ak,λhn=> ?_⟩;have h0:∃r0,rows[0]? =some r0:=by
        cases rows with
        |nil=>exact absurd rfl hn
        |cons r0 _=>exact⟨r0,rfl⟩
       obtain⟨r0,h0⟩:=h0;have hsp:=(r2 0 r0 h0).2.2.1;refine⟨a.block,a.off, ?_,aky rows a.off λi r hr=> ?_⟩
       ·obtain⟨ab,ao,as_⟩:=a;simp only at hsp;subst hsp;rfl
       ·obtain⟨_,h2,_,h4⟩:=r2 i r hr;rw[Nat.zero_add] at h4;exact⟨h2,h4⟩
     ·cases h
   |struct fs=>
    simp only[wo] at hg;split at h
    all_goals first
     |(rename_i e1;cases e1;done)
     |(cases h;done)
     |(exfalso;rename_i h21 _ _ _ _ _ _ _ _ _ _ _ _ _ _ _ _ _ _ _;exact h21 _ rfl)
     |skip
    case h_9=>
     rename_i _ fs' cs' e1;cases e1;split at h
     ·rename_i hcl;rw[Option.map_eq_some_iff] at h;obtain⟨xs,hxs,_⟩:=h;cases hc:adD P 0 fs.toList with
      |none=>simp[hc] at hg
      |some tot=>simp only[hc] at hg;have htot:=Ia hg.1;obtain⟨row,l1,_,t1,s1⟩:=akz (λt cs d ps hg h=>al2 n t cs d ps hg h) fs.toList 0 tot _ xs hc hg.2 ak hxs;refine⟨row,by rw[l1];omega,by simp only[tyD,hu];exact t1, ?_⟩;simpa[htot,<-hcl] using s1
     ·cases h
   |_=>simp at hg
end
end Go.Vm
namespace Go.Vm
open Go Go.RowKit
def akA{A:Adv}{f:Nat}(hm:A.move f=[]){μ:Nat->Value}{m:Mem}{H:Heap}{h:View}:∀{vs:List V} {gs:List Value} (i:Nat),dh μ m h vs gs->TU A f μ m H h i vs gs []
 |[],gs,i,q=>by simp only[dh] at q;simp only[TU];exact⟨q,trivial⟩
 |v::vs,gs,i,q=>by
  simp only[dh] at q;obtain⟨g,gs',rfl,h1,h2⟩:=q;simp only[TU];refine⟨g,gs',[],[],rfl,rfl, ?_,akA hm (i+1) h2⟩;split
  ·rename_i hmo;exact absurd hmo (by simp[PG,hm,mem?])
  ·exact⟨rfl,h1⟩
def atM{X:Ctx}(hp:alN X){f:Nat}{fn:Func}{t:TypeId}{args:List V}{gargs:List Value}{w:World}(hf:X.P.funcs[f]? =some fn)(hb:fn.body.isSome=true)(hr:fn.resultTypes=#[t])(ht:RH X.P t=false)(hpt:alu X.P t=none)(hm:X.TI.move f=[])(hgl:agq X (full w))
  (hs:dh (impμ []) [] (full w) args gargs) (h:call X f args []=some ([[.bool true]],[])):
  Calls X.P f gargs.toArray w λe w'=>e=.returned (.bool true)/\Below w.heap.size w w':=by
 have hG:Given X 0 (λ_=>True) w f args [] gargs [] [] []:=by
  have hv:(full w).le (view w (λ_=>True) (· ∈([]:List Nat)++[])):=by intro b o v h;exact afW trivial (by simp) h
  refine⟨by simp,by simp,λ_ _=>trivial,Nat.zero_le _, ?_,⟨rfl,rfl⟩,PO hv hgl⟩;exact VX (yK _ _) hv (λ_ _=>rfl) (akA (H:=dO w) hm 0 hs)
 refine(azk hp f fn args [] [[.bool true]] [] hf hb h 0 (λ_=>True) w gargs [] [] [] hG).mono ?_;rintro e w' ⟨gs,M1,M2,rfl,D⟩;have hres:=D.res;rw[hr] at hres;simp only[VY] at hres;obtain⟨row,rows',g,gs',N1,N2,e1,e2,_,hv,e3,e4,_⟩:=hres;rw[Rn hpt] at hv;obtain⟨cs,hv,ho,hl⟩:=hv;simp only[List.cons.injEq] at e1;obtain⟨rfl,rfl⟩:=e1;subst e4;subst e2;simp only[valOf,ht,Bool.false_eq_true,if_false] at hv;subst hv;simp only[jU,ow] at ho;obtain⟨v,cs',N1,N2,e5,_,⟨rfl,_⟩,_⟩:=ho;simp only[List.cons.injEq] at e5;obtain⟨rfl,_⟩:=e5;refine⟨rfl,⟨D.keep.os,D.keep.tape,D.keep.output,D.keep.size,λk hk=>D.keep.block k hk (by simp)⟩⟩
section
variable {H:Type} {enc:TypeId×Value->H} {P:Program} {w:World} {base:Nat} {spare:Nat->Bool} {held:Bool} {t:TypeId} {v:Value} {d:DataW H} {ps:List MemPlace}
def azy{μ:Nat->Value}{m:Mem}(h:DataW.Trod enc P w base spare held t v d ps)(hg:∀n,ae4 P (n+8) t=true)(hv:v.cells.toList=[v]):
  ∃n x,tyD P (n+8) t [x]/\bn μ m (full w) (.d x) v:=by
 obtain⟨n,hn⟩:=h;have hn':DataW.trod enc P w base spare held (n+8) t v.cells.toList=some (d,ps):=DataW.trod_le (Nat.le_add_right n 8) hn;obtain⟨row,hl,ht,hs⟩:=al2 (n+8) t _ d ps (hg n) hn';rw[hv] at hl hs;cases row with
 |nil=>simp at hl
 |cons x r=>
  cases r with
  |cons _ _=>simp at hl
  |nil=>obtain⟨u,cs',e,h1,_⟩:=hs;simp only[List.cons.injEq] at e;obtain⟨rfl,_⟩:=e;exact⟨_,x,ht,by simpa[bn] using h1⟩
end
section
variable {P:Program} {n:Nat} {t:TypeId} {row:Row}
def azz{k:IntKind}(hu:P.underlying t=some (.int k))(h:tyD P (n+1) t row):∃x,row=[.int k x]/\(Lit.int k x).wf=true:=by simpa[tyD,hu] using h
def aE6{e:TypeId}(hu:P.underlying t=some (.slice e))(h:tyD P (n+1) t row):∃rows,row=[.sl false (uw P e) rows]/\rows.length<=maxLen/\∀r,r∈rows->tyD P n e r:=by simpa[tyD,hu] using h
def anO{α:Type}{f:α->Row}{p:α->Prop}:∀{rows:List Row},(∀r,r∈rows->∃x,r=f x/\p x)->∃l:List α,rows=l.map f/\∀x,x∈l->p x
 |[],_=>⟨[],rfl,λx h=>by simp at h⟩
 |r::rows,h=>by
  obtain⟨x,hx,hp⟩:=h r (by simp);obtain⟨l,hl,hq⟩:=anO (rows:=rows) (λr hr=>h r (by simp[hr]));refine⟨x::l,by simp[hx,hl],λy hy=> ?_⟩;rcases List.mem_cons.1 hy with rfl|hy
  ·exact hp
  ·exact hq y hy
end
section
variable {H:Type} {enc:TypeId×Value->H}
def ahc{a:Assume}{C:Checked}{os:Os}{f:FuncId}{fn:Func}{s:ChangeSpec}{conds:List PathCond}{apart fresh handsOn again:Bool}{X:World->Array Value->Prop}
  (hX:∀(w w':World) (args:Array Value),w.heap=w'.heap->X w args->X w' args)
  (own:ownKnob C.prog.godebug=none) (started:os.Started) (noInit:C.prog.inits.idxOf? f=none) (hfn:C.prog.funcs[f]? =some fn)
  (witness:∃(w:World) (tape:Tape) (i:Input),w.os=os/\(w.forCall tape i).Shaped C.prog/\i.vars=[]/\Input.okWide C.prog (w.forCall tape i) .any w.heap.size f i/\
   ((s.pre enc C.prog fn conds apart (w.forCall tape i).memory i.args/\X (w.forCall tape i).memory i.args)/\sizedMet enc C.prog fn (OpenSpec.ofChange s) apart (w.forCall tape i).memory i.args)/\a.holds C.prog (lone (Frame.enter C.prog f i.args .normal) [] (w.forCall tape i)))
  (contract:∀(W:World) (base:Nat) (args:Array Value) (ds gs:List (DataW H)) (before:List MemPlace),
   (∀(j:Nat) t v,fn.params[j]? =some t->args[j]? =some v->Value.okWide C.prog W .any base t v)->
   DataW.Whole enc C.prog fn.params.toList s.vars apart W args.toList ds gs before->X W args->W.ShapedOpen C.prog->
   Calls C.prog f args W λe W'=>∃v,e=.returned v/\s.post enc C.prog fn apart fresh handsOn again W args v W'):
  ReturnsInHanded a C os f .any (λw args=>(s.pre enc C.prog fn conds apart w args/\X w args)/\sizedMet enc C.prog fn (OpenSpec.ofChange s) apart w args) (s.post enc C.prog fn apart fresh handsOn again):=by
 refine returnsInHanded_of_calls own started noInit witness ?_;rintro w tape i _ shp _ ⟨_,_,_,g,hg,_,_,_,_,val⟩ ⟨⟨⟨ds,gs,before,whole,_⟩,hx⟩,_⟩ _;have e:g=fn:=Option.some.inj (hg.symm.trans hfn);rw[e] at val;have c:=contract (w.forCall tape i) w.heap.size i.args ds gs before val (DataW.Whole.of_heap (w':=w.forCall tape i) (by rfl) whole) (hX _ _ _ (by rfl) hx) shp;refine c.mono ?_;rintro e W' ⟨v,rfl,hp⟩;exact ChangeSpec.post_blind hp
end
def aUR:DataW Unit->Value
 | .lit (.int k n)=> .int k n
 | .lit (.bool b)=> .bool b
 | .lit (.string b)=> .string ⟨b.toArray⟩
 |_=> .tuple #[]
def akB:Nat->DataW Unit->List Value
 |0,_=>[]
 |n+1,d=>match d with
  | .agg ds=>ds.flatMap (akB n)
  |d=>[aUR d]
def aH9(h:Array Obj)(g:Nat)(d:DataW Unit):Array Obj:=h.modify g λo=>match o with
 | .cells _ t fr=> .cells (akB 4 d).toArray t fr
 |o=>o
def layAll(h:Array Obj):List (Nat×DataW Unit)->Array Obj
 |[]=>h
 |(g,d)::l=>layAll (aH9 h g d) l
noncomputable def laidWorld(P:Program)(l:List (Nat×DataW Unit))(os:Os):World:=
 let w:=World.holding P os ⟨#[],#[],[]⟩
 {w with heap:=layAll w.heap l}
def anP{h:View}{g:Nat}:∀(row:Row) (o:Nat),(∀(j:Nat) x,row[j]? =some x->∃v,h g (o+j)=some v/\ro h x v)->zU h row g o
 |[],_,_=>trivial
 |x::row,o,q=>⟨by simpa using q 0 x rfl,anP row (o+1) λj y hj=>by
   have:=q (j+1) y (by simpa using hj)
   rwa [show o+(j+1)=o+1+j by omega] at this⟩
def adE{P:Program}{w:World}{nm:String}{g t e n fuel:Nat}{cs:Array Value}{ss:List (List UInt8)}{p:List MemPlace}(hu:P.underlying t=some (.array n e))(he:P.underlying e=some .string)(hc:P.cellsOf e=1)
  (hg:P.globalNamed nm=some g) (hv:w.var? P nm=some cs) (h:DataW.trod (λ_=>()) P w 0 (λ_=>true) false fuel t cs.toList=some (.agg (ss.map λs=> .lit (.string s)),p)):zU (full w) (ss.map D.str) g 0:=by
 obtain⟨xs,m,rfl,hx,hcl,hxl,hel⟩:=DataW.trod_array hu h;simp only[qU,DataW.agg.injEq] at hx;refine anP _ 0 λj x hj=> ?_
 rw[List.getElem?_map] at hj;cases hs:ss[j]? with
 |none=>rw[hs] at hj;cases hj
 |some s=>
  rw[hs] at hj;cases hj;have hjl:j<ss.length:=(Qm.1 hs).1;have hlen:ss.length=xs.length:=by have:=congrArg List.length hx.1;simpa using this
  obtain⟨y,hy⟩:∃y,xs[j]? =some y:=⟨xs[j]'ak,by simp⟩
  have hh:=hel j ak;rw[hy] at hh;obtain⟨b,hb1,hb2,_⟩:=DataW.trod_string he hh;have hyx:y.1=.lit (.string s):=by have:=congrArg (λl=>l[j]?) hx.1;simp only[List.getElem?_map,hs,hy,Ht,lM] at this;exact this.symm
  rw[hb2] at hyx;simp only[DataW.lit.injEq,Lit.string.injEq] at hyx;rw[hc,Nat.mul_one] at hb1;have hcell:cs[j]? =some (.string b):=by have:=congrArg (λl=>l[0]?) hb1;simpa using this
  refine⟨.string b, ?_, ?_⟩
  ·have:=World.var?_cell hg hv j;rw[Nat.zero_add];show w.cell? ⟨g,j,none⟩=_;rw[this];exact hcell
  ·simp only[ro];rw[<-hyx]
end Go.Vm
