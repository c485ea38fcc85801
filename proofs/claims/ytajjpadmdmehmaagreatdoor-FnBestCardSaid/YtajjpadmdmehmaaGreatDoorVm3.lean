import Derived.Test.YtajjpadmdmehmaaGreatDoorVm2
import Derived.LoopN
import Derived.CheckFast
set_option linter.defProp false
set_option linter.unusedVariables false
set_option linter.unusedSimpArgs false
namespace Go.Vm
open Go
def ab1(gs:List Value):Value:=match gs with
 |[g]=>g
 |gs=> .tuple gs.toArray
def atO:List Cell->List Cell->Prop
 |[],cs=>cs=[]
 |c::cs,ds=>∃d ds',ds=d::ds'/\sameKind c d/\atO cs ds'
def ahX{a b c:Cell}(h:sameKind a b)(k:sameKind b c):sameKind a c:=by
 cases a<;>cases b<;>cases c<;>simp only[sameKind] at h k|-
 ·exact h.trans k
 ·exact⟨h.1,k.2.1,h.2.2.1.trans k.2.2.1,h.2.2.2.trans k.2.2.2⟩
def afu{m:Mem}:∀{rs:List Nat} {cs ds:List Cell},kinds m rs cs->atO cs ds->kinds m rs ds
 |[],cs,ds,h,k=>by simp only[kinds] at h;subst h;exact k
 |r::rs,cs,ds,h,k=>by obtain⟨c,c',cs',rfl,h1,h2,h3⟩:=h;obtain⟨d,ds',rfl,k1,k2⟩:=k;exact⟨c,d,ds',rfl,h1,ahX h2 k1,afu h3 k2⟩
structure Given(X:Ctx)(base:Nat)(U:Nat->Prop)(w:World)(f:FuncId)(args:List V)(cells:List Cell)(gargs jB:List Value)(N1 N2:List Nat):Prop where
 nd:(N1++N2).Nodup
 lt:∀b,b∈N1++N2->b<w.heap.size/\base<=b/\U b
 up:∀b,w.heap.size<=b->U b
 bs:base<=w.heap.size
 args:VK X.UN f (impμ jB) (uP 0 cells) (dU w) (view w U (· ∈N1++N2)) 0 args gargs N1
 cells:cellsB (dU w) (view w U (· ∈N1++N2)) cells jB N2
 gl:ahy X (view w U (· ∈N1++N2))
structure Did(P:Program)(U:Nat->Prop)(w w':World)(N:List Nat)(ts:List TypeId)(cells outs:List Cell)(jB:List Value)(rows:List Row)(gs:List Value)(M1 M2:List Nat):Prop where
 keep:Keep N w w'
 nd:(M1++M2).Nodup
 mem:∀b,b∈M1++M2->(b∈N\/w.heap.size<=b)/\b<w'.heap.size
 kd:atO cells outs
 cells:cellsB (dU w') (view w' U (· ∈M1++M2)) outs jB M1
 res:WT P (dU w') (view w' U (· ∈M1++M2)) ts rows gs M2
def Sound(X:Ctx)(K:lQ):Prop:=∀(f:FuncId) (fn:Func) (args:List V) (cells:List Cell) (rows:List Row) (outs:List Cell),X.P.funcs[f]? =some fn->fn.body.isSome=true->K f args cells=some (rows,outs)->
 ∀(base:Nat) (U:Nat->Prop) (w:World) (gargs jB:List Value) (N1 N2:List Nat),Given X base U w f args cells gargs jB N1 N2->
  Calls X.P f gargs.toArray w λe w'=>∃gs M1 M2,e=.returned (ab1 gs)/\Did X.P U w w' (N1++N2) fn.resultTypes.toList cells outs jB rows gs M1 M2
section
variable {base:Nat} {U:Nat->Prop} {M0:List Nat} {w0 w w':World} {m m':Mem} {G G':GS} {X:Ctx}
def Iu.outs(hg:Iu base U w m G){out:List Nat}(h:∀r,r∈G.out↔r∈out):Iu base U w m {G with out:=out}:=
 ⟨λr c hc ho=>hg.cell r c hc (λhx=>ho ((h r).1 hx)),hg.dj,hg.djE,hg.nd,hg.ndE,hg.lt,hg.up,hg.bs,hg.none_,λr hr=>hg.out_ r ((h r).2 hr)⟩
def At.first(hA:At base U M0 w0 w m G):(view w0 U (· ∈M0)).le (Gh U w G):=by
 intro b o v hv;obtain⟨h1,h2,h3⟩:=VA hv;have hb:b<w0.heap.size:=by
  simp only[World.cell?] at h3;cases ho:w0.heap[b]? with
  |none=>simp[ho] at h3
  |some x=>exact(Array.getElem?_eq_some_iff.1 ho).1
 have hk:=hA.fr.keep.block b hb h2;refine agX h1 (λhx=> ?_) ?_
 ·rcases hA.fr.fr b hx with h|h
  ·exact h2 h
  ·omega
 ·simp only[World.cell?] at h3|-;rw[hk];exact h3
structure ab2(X:Ctx)(K:lQ)(U:Nat->Prop)(M0:List Nat)(w0:World):Prop where
 sound:Sound X K
 gl:ahy X (view w0 U (· ∈M0))
def aw8{K:lQ}(hKG:ab2 X K U M0 w0)(hA:At base U M0 w0 w m G){fn dst f:Nat}{args:List V}{gargs:List Value}(hs:dn G.μ m (Gh U w G) args gargs){v:V}{l l':Log}(h:(acN X K fn dst f args).run m l=some (v,m',l')):
  (callFunc f gargs.toArray).run X.P w=.ok (.enter f gargs.toArray) w/\
  Calls X.P f gargs.toArray w λe w'=>∃g G',e=.returned g/\Nx base U M0 w0 w m G w' m' G'/\aU G'.μ m' (Gh U w' G') v g:=by
 have hK:=hKG.sound;simp only[acN] at h;replace h:=aj h;obtain⟨g,m1,l1,h1,h⟩:=h;obtain⟨hf,rfl,rfl⟩:=lD h1;replace h:=aj h;obtain⟨_,m1,l1,h1,h⟩:=h;obtain⟨hbody,rfl,rfl⟩:=eH h1;simp only[MS,Bool.not_eq_true'] at hbody;have hnone:g.body≠none:=by intro hb;simp[hb] at hbody
 have hnm : g.name ≠ "runtime.NumGoroutine" := by
  intro he;simp[he] at hbody
 refine⟨by simp[callFunc,hf,hnm,hnone], ?_⟩;generalize himp:Vb X.UN f 0 [] args=imp at h;have hnd:imp.Nodup:=by rw[<-himp];exact abb _ _ _ _ _ (by simp)
 replace h:=aj h;obtain⟨args1,m1,l1,h1,h⟩:=h;obtain⟨G1,N1,t1,q1⟩:=afc hA.ok hs hA.out h1;have hout1:G1.out=[]:=t1.out.trans hA.out;have hE1:G1.E=N1:=by rw[t1.E,hA.E];rfl
 replace h:=aj h;obtain⟨cells,m2,l2,h2,h⟩:=h;obtain⟨G2,N2,t2,q2,kd2⟩:=aea t1.ok hnd (λr hr=>⟨hr,by rw[hout1];simp⟩) (λr hr=>by rw[hout1] at hr;simp at hr) h2;have hout2:∀r,r∈G2.out↔r∈imp:=λr=>by rw[t2.out,hout1];simp
 have hE2:G2.E=N1++N2:=by rw[t2.E,hE1]
 have hkd:kinds m2 imp cells:=acS (λr hr=>t2.here r hr) kd2;have hq1:=XK (A:=X.UN) (f:=f) t2.le.mem t2.le.view (H':=dU w) (λ_ _=>rfl) q1;replace h:=aj h;obtain⟨⟨args2,Uu⟩,m3,l3,h3,h⟩:=h;have C:alf base U w m2 G2 imp cells:=⟨t2.ok,hout2,hkd⟩
 obtain⟨rfl,hq2⟩:=afd C hq1 h3;have hq2:=hq2 Uu (λ_ hr=>hr);simp only at h;replace h:=aj h;obtain⟨_,m4,l4,h4,h⟩:=h;obtain⟨atP,rfl,rfl⟩:=eH h4;have atP:∀r,r∈Uu->r ∉ imp:=λr hr=>VJ (List.all_eq_true.1 atP r hr)
 replace h:=aj h;obtain⟨⟨rows,outs⟩,m4,l4,h4,h⟩:=h;obtain⟨hKr,rfl,rfl⟩:=lD h4;simp only at h;replace h:=aj h;obtain⟨_,m4,l4,h4,h⟩:=h;obtain⟨hlen,rfl,rfl⟩:=eH h4;have aGc:Given X base (ZH U G2 Uu) w f args2 cells gargs (imp.map G2.μ) N1 N2:=by
  refine⟨by rw[<-hE2];exact t2.ok.ndE, ?_, ?_,t2.ok.bs,by rw[<-hE2];exact hq2, ?_,by rw[<-hE2];exact Sj Vd (Sj t2.le.view (Sj t1.le.view (Sj hA.first hKG.gl)))⟩
  ·intro b hb;rw[<-hE2] at hb;have:=t2.ok.lt b (.inl hb);exact⟨this.1,this.2.1,this.2.2,λr hr=>absurd hb (t2.ok.djE r b hr)⟩
  ·intro b hb;exact⟨t2.ok.up b hb,λr hr=>by have:=(t2.ok.lt b (.inr ⟨r,hr⟩)).1;omega⟩
  ·rw[<-hE2,t2.μ];exact Ux Vd q2
 refine Calls.mono (hK f g args2 cells rows outs hf hbody.1 hKr base _ w gargs _ N1 N2 aGc) ?_;rintro e w' ⟨gs,M1,M2,rfl,D⟩;have hkeep:Keep G2.E w w':=by rw[hE2];exact D.keep
 obtain⟨k3,v3⟩:=t2.ok.world hkeep (E':=M1++M2) D.nd (λb hb=>by rw[hE2];exact D.mem b hb);generalize aEx:(!(Uu.isEmpty) &&(aaI X.P (X.UN.att fn dst) 0 g.resultTypes.toList && imp.isEmpty))=need at h;replace h:=aj h;obtain⟨_,m4,l4,h4,h⟩:=h;obtain⟨hpure,rfl,rfl⟩:=eH h4;replace h:=aj h;obtain⟨_,m4,l4,h4,h⟩:=h;have hL:∀r,r∈(bif need then[] else Uu)->r∈Uu:=by
  intro r hr;cases need with
  |true=>simp at hr
  |false=>exact hr
 obtain⟨F',k4,le4,f1,f2,f3⟩:=alg k3 (λr hr=>by show r ∉ G2.out;rw[hout2];exact atP r (hL r hr)) h4;replace h:=aj h;obtain⟨_,m5,l5,h5,h⟩:=h;have k4':=k4.outs (out:=imp) hout2;have aYM:kinds m4 imp (outs.drop 0):=by rw[List.drop_zero];exact acS (λr hr=>f3 r (λhx=>atP r (hL r hx) hr)) (afu hkd D.kd)
 have aEy:need=false->(view w' (ZH U G2 Uu) (· ∈M1++M2)).le (Gh U w' ⟨G2.μ,F',M1++M2,imp⟩):=by
  intro hn b o x hx;obtain⟨p1,p2,p3⟩:=VA hx;refine agX p1.1 ?_ p3;rintro(hb|⟨r,hb⟩)
  ·exact p2 hb
  ·have hb:b∈F' r:=hb;rcases f2 r with hr|hr
   ·rw[hr] at hb;simp at hb
   ·have:b∈G2.F r:=by rw[hr] at hb;exact hb
    have hrl:=p1.2 r this;have:=f1 r (by rw[hn];exact hrl);rw[this] at hb;simp at hb
 have hcells:cellsB (dU w') (Gh U w' ⟨G2.μ,F',M1++M2,imp⟩) (outs.drop 0) (imp.map G2.μ) M1:=by
  rw[List.drop_zero];cases need with
  |false=>exact Ux (aEy rfl) D.cells
  |true=>
   simp only[MS,List.isEmpty_iff] at aEx;have aJA:=aEx.2.2;subst aJA;have hc0:cells=[]:=by simpa[kinds] using hkd
   subst hc0;have ho0:outs=[]:=D.kd;subst ho0;exact D.cells
 have hres:WT X.P (dU w') (Gh U w' ⟨G2.μ,F',M1++M2,imp⟩) g.resultTypes.toList rows gs M2:=by
  cases need with
  |false=>exact VL (aEy rfl) (λ_ _=>rfl) D.res
  |true=>exact ahL hpure D.res
 obtain⟨G5,c5⟩:=ahN k4' hnd rfl aYM (N:=M1) (E:=M2) (List.Perm.refl _) hcells h5;replace h:=aj h;obtain⟨vs,m6,l6,h6,h⟩:=h;obtain⟨G6,c6,s6⟩:=alk (ri:=0) c5.ok (λr hr=>by rw[c5.out] at hr;simp at hr) (N:=M2) (E:=[]) (by rw[c5.E];simp) (by rw[List.drop_zero];exact VL c5.le.view (λ_ _=>rfl) hres) h6;have hm6:m'=m6/\aU G6.μ m6 (Gh U w' G6) v (ab1 gs):=by
  have aEz:=kT s6;split at h
  ·simp only[run_pure,je,lN] at h;obtain⟨rfl,rfl,_⟩:=h;obtain⟨g0,gs0,rfl,q1,q2⟩:=oI s6;simp only[dn] at q2;subst q2;exact⟨rfl,q1⟩
  ·rename_i hne;simp only[run_pure,je,lN] at h;obtain⟨rfl,rfl,_⟩:=h;refine⟨rfl, ?_⟩;unfold ab1;split
   ·rename_i g0;cases vs with
    |nil=>simp at aEz
    |cons v0 vs=>
     cases vs with
     |nil=>exact absurd rfl (hne v0)
     |cons _ _=>simp at aEz
   ·simp only[aU];exact⟨_,rfl,by simpa using s6⟩
 obtain⟨rfl,Xq⟩:=hm6;have aYN:∀b,excl G2.F G2.E b->excl G.F G.E b:=λb hb=>t1.le.ex b (t2.le.ex b hb)
 have hold:∀b,excl G2.F G2.E b->b∈M0\/w0.heap.size<=b:=λb hb=>hA.fr.fr b (aYN b hb)
 refine⟨ab1 gs,G6,rfl,⟨c6.ok,c6.E,c6.out.trans c5.out, ?_, ?_, ?_, ?_⟩,Xq⟩
 ·have a1:=wL t1.le.mem t2.le.mem;have a2:=wL a1 le4.mem;exact wL (wL a2 c5.le.mem) c6.le.mem
 ·exact(((t1.le.view.trans' t2.le.view).trans' v3).trans' le4.view).trans' (c5.le.view.trans' c6.le.view)
 ·exact hA.fr.keep.trans hkeep (λx hx=>hold x (.inl hx))
 ·intro b hb;have hb:=c5.le.ex b (c6.le.ex b hb);rcases hb with hb|⟨r,hb⟩
  ·rcases(D.mem b hb).1 with h'|h'
   ·exact hold b (.inl (by rw[hE2];exact h'))
   ·exact .inr (Nat.le_trans hA.fr.keep.size h')
  ·have hb:b∈F' r:=hb;rcases f2 r with hr|hr
   ·have:F' r=[]:=hr;rw[this] at hb;simp at hb
   ·exact hold b (.inr ⟨r,by have:F' r=G2.F r:=hr;rw[<-this];exact hb⟩)
end
end Go.Vm
namespace Go.Vm
open Go
section
variable {base:Nat} {U:Nat->Prop} {M0:List Nat} {w0 w w':World} {m m':Mem} {G G':GS} {X:Ctx}
def aJB(P:Program)(w:World)(s:Sem Value):((do pure (.value (<-s))):Sem Next).run P w=(s.run P w).andThen λg w'=> .ok (.value g) w':=by simp only[Sem.run_bind,Sem.run_pure]
def Qd{o:Oper}{a:Act}{next:Act->World->Prop}{Q:Exit->Act->World->Prop}{s:Sem Value}{v:V}
  (he:(execOp a.eval o).run X.P w=((do pure (.value (<-s))):Sem Next).run X.P w) (h:Qc base U M0 w0 w m G X.P s v m')
  (hn:∀g w' G',Nx base U M0 w0 w m G w' m' G'->aU G'.μ m' (Gh U w' G') v g->next (a.put o.dst g) w'):o.wp X.P a w next Q:=by
 obtain⟨g,w',G',hr,hx,hs⟩:=h;exact Uy (by rw[he,aJB,hr];rfl) (hn g w' G' hx hs)
def asH{P:Program}{tm:mg}{xs:List Operand}{ts:List TypeId}{a:V}(h:wJ P tm xs ts=[a]):∃x,xs=[x]/\a=ev P tm (ts.headD 0) x:=by
 cases xs with
 |nil=>simp[wJ] at h
 |cons x xs=>
  cases xs with
  |nil=>simp only[wJ,List.cons.injEq,and_true] at h;exact⟨x,rfl,h.symm⟩
  |cons _ _=>simp[wJ] at h
def ab3{P:Program}{tm:mg}{xs:List Operand}{ts:List TypeId}{a b:V}(h:wJ P tm xs ts=[a,b]):∃x y,xs=[x,y]/\a=ev P tm (ts.headD 0) x/\b=ev P tm (ts.tail.headD 0) y:=by
 cases xs with
 |nil=>simp[wJ] at h
 |cons x xs=>
  cases xs with
  |nil=>simp[wJ] at h
  |cons y xs=>
   cases xs with
   |nil=>simp only[wJ,List.cons.injEq,and_true] at h;exact⟨x,y,rfl,h.1.symm,h.2.symm⟩
   |cons _ _=>simp[wJ] at h
def XO{α:Type}{a:Array α}{l:List α}(h:a.toList=l):a=l.toArray:=by rw[<-h]
def aGd(hg:ahy X (Gh U w G)){tm:mg}{a:Act}(hT:acW G.μ m (Gh U w G) tm a)(t:TypeId)(x:Operand):aU G.μ m (Gh U w G) (evG X tm t x) (a.eval x):=by
 cases x with
 |global g=>
  simp only[evG];cases hr:X.glob g with
  |none=>simp[aU]
  |some row=>simp only[aU];exact⟨g,0,rfl,hg.row g row hr⟩
 |tmp i=>exact ZK (P:=X.P) hT t (.tmp i)
 |const v=>exact ZK (P:=X.P) hT t (.const v)
 |func f=>exact ZK (P:=X.P) hT t (.func f)
def aou{base:Nat}{U:Nat->Prop}{M0:List Nat}{w0 w:World}{G:GS}{m:Mem}(hA:At base U M0 w0 w m G):∀{vs:List V} {gs:List Value} (_:dn G.μ m (Gh U w G) vs gs) {vs':List V} {m':Mem} {l l':Log}
  (_:(aog vs).run m l=some (vs',m',l')),m'=m/\dn G.μ m (Gh U w G) vs' gs
 |[],gs,hv,vs',m',l,l',h=>by simp only[aog,run_pure,je,lN] at h;obtain⟨rfl,rfl,rfl⟩:=h;exact⟨rfl,hv⟩
 |v::vs,gs,hv,vs',m',l,l',h=>by
  obtain⟨g,gs',rfl,hv1,hv2⟩:=oI hv;simp only[aog] at h;replace h:=aj h;obtain⟨x,m1,l1,h1,h⟩:=h;replace h:=aj h;obtain⟨ys,m2,l2,h2,h⟩:=h;simp only[run_pure,je,lN] at h;obtain⟨rfl,rfl,rfl⟩:=h;have step:m1=m/\aU G.μ m (Gh U w G) x g:=by
   cases v with
   |ptr r off=>
    simp only at h1;replace h1:=aj h1;obtain⟨c,m3,l3,h3,h1⟩:=h1;rw[zD] at h3;cases h3;cases hc:get r m with
    |none=>rw[hc] at h1;simp only[run_pure,je,lN] at h1;obtain⟨rfl,rfl,rfl⟩:=h1;exact⟨rfl,hv1⟩
    |some c=>
     rw[hc] at h1;cases c with
     |qN T x=>simp only at h1;replace h1:=aj h1;obtain⟨_,m3,l3,h3,h1⟩:=h1;obtain⟨h0,rfl,rfl⟩:=eH h3;have h0:=Hy h0;subst h0;simp only[run_pure,je,lN] at h1;obtain⟨rfl,rfl,rfl⟩:=h1;refine⟨rfl, ?_⟩;simp only[aU,hc] at hv1|-;obtain⟨_,b,hμ,rfl⟩:=hv1;obtain⟨_,b',y,e1,e2,e3⟩:=hA.ok.cell r _ hc (by rw[hA.out];simp);rw[hμ] at e1;cases e1;exact⟨b,y,rfl,e2,e3⟩
     |_=>simp only[run_pure,je,lN] at h1;obtain⟨rfl,rfl,rfl⟩:=h1;exact⟨rfl,hv1⟩
   |_=>simp only[run_pure,je,lN] at h1;obtain⟨rfl,rfl,rfl⟩:=h1;exact⟨rfl,hv1⟩
  obtain⟨rfl,hx⟩:=step;obtain⟨hm2,hys⟩:=aou hA hv2 h2;refine⟨hm2, ?_⟩;simp only[dn];exact⟨g,gs',rfl,hx,hys⟩
def aGe{K:lQ}(hK:ab2 X K U M0 w0)(hA:At base U M0 w0 w m G){fn:Nat}{tm:mg}{a:Act}(hT:acW G.μ m (Gh U w G) tm a){o:Oper}{v:V}{l l':Log}(h:(vop X K fn tm o).run m l=some (v,m',l'))
  {next:Act->World->Prop} {Q:Exit->Act->World->Prop} (hn:∀g w' G',Nx base U M0 w0 w m G w' m' G'->aU G'.μ m' (Gh U w' G') v g->next (a.put o.dst g) w'):o.wp X.P a w next Q:=by
 have E:=λt x=>ZK (P:=X.P) hT t x
 have EG:=λt x=>aGd (Sj hA.first hK.gl) hT t x
 unfold vop at h;simp only at h;split at h
 ·rename_i x hop;simp only[run_pure,je,lN] at h;obtain⟨rfl,rfl,_⟩:=h;exact Uy (by simp[execOp,hop]) (hn _ _ _ hA.nx (E _ x))
 ·rename_i x hop;simp only[run_pure,je,lN] at h;obtain⟨rfl,rfl,_⟩:=h;exact Uy (by simp[execOp,hop]) (hn _ _ _ hA.nx (E _ x))
 ·rename_i c x y hop;refine Qd ?_ (aw6 hA (E _ c) (E _ x) (E _ y) h) hn;simp[execOp,hop]
 ·rename_i T hop;replace h:=aj h;obtain⟨z,m1,l1,h1,h⟩:=h;obtain⟨hz,rfl,rfl⟩:=lD h1;replace h:=aj h;obtain⟨u,m2,l2,h2,h⟩:=h;simp only[run_pure,je,lN] at h;obtain⟨rfl,rfl,_⟩:=h;refine Qd ?_ (aw0 hA hz h2) hn;simp[execOp,hop]
 ·rename_i T x hop;replace h:=aj h;obtain⟨_,m1,l1,h1,h⟩:=h;obtain⟨hsz,rfl,rfl⟩:=eH h1;replace h:=aj h;obtain⟨_,m1,l1,h1,h⟩:=h;obtain⟨hone,rfl,rfl⟩:=eH h1;replace h:=aj h;obtain⟨u,m2,l2,h2,h⟩:=h;simp only[run_pure,je,lN] at h;obtain⟨rfl,rfl,_⟩:=h;refine Qd ?_ (aF7 hA (E T x) hone h2) hn;simp[execOp,hop]
 ·rename_i T ps hop;refine Qd ?_ (avd hA hT h) hn;simp[execOp,hop]
 ·rename_i t n ps hop;refine Qd ?_ (ahT hA hT h) hn;simp[execOp,hop]
 ·rename_i t x hop;obtain⟨g,hr,rfl,hs⟩:=awX hA (EG 0 x) h;refine Qd ?_ (Qc.same hA hr hs) hn;simp[execOp,hop]
 ·rename_i t x y hop;replace h:=aj h;obtain⟨u,m1,l1,h1,h⟩:=h;simp only[run_pure,je,lN] at h;obtain⟨rfl,rfl,_⟩:=h;obtain⟨w',G',hr,hx⟩:=avb hA (E 0 x) (E t y) h1;refine wp_skip (w':=w') ?_ (hn _ _ _ hx trivial);simp[execOp,hop,hr]
 ·rename_i x hop;have hE:=EG o.type x;have key:∀{b:Nat} {q:Nat},a.eval x=.pointer (some ⟨b,q,none⟩)->v=evG X tm o.type x->m'=m->o.wp X.P a w next Q:=by intro b q hx hv hm;subst hm;refine Uy (g:=a.eval x) ?_ (hn _ _ _ hA.nx (by rw[hv];exact hE));simp[execOp,hop,hx]
  split at h
  ·rename_i r off hv;simp only[run_pure,je,lN] at h;rw[hv] at hE key;obtain⟨b,q,hp⟩:=hE.1;exact key hp h.1.symm h.2.1.symm
  ·rename_i row off hv;simp only[run_pure,je,lN] at h;rw[hv] at hE key;obtain⟨b,q,hp,_⟩:=hE;exact key hp h.1.symm h.2.1.symm
  ·rename_i r ver i off hv;simp only[run_pure,je,lN] at h;rw[hv] at hE key;obtain⟨b,q,hp⟩:=hE.1;exact key hp h.1.symm h.2.1.symm
  ·exact(ay h).elim
 ·rename_i op t x y t' hop;refine Qd ?_ (aBd (ox:=x) (oy:=y) hA (E t x) (E t' y) h) hn;simp[execOp,hop]
 ·rename_i op t x hop;refine Qd ?_ (aJz hA (E t x) h) hn;simp[execOp,hop]
 ·rename_i s d x hop;refine Qd ?_ (aot hA (E s x) h) hn;simp[execOp,hop]
 ·rename_i f first caps hop
  replace h:=aj h;obtain⟨cs,m1,l1,h1,h⟩:=h;obtain⟨rfl,hcs⟩:=aou hA (aaM (P:=X.P) hT caps.toList []) h1;simp only[run_pure,je,lN] at h;obtain⟨rfl,rfl,_⟩:=h;refine Uy (g:=.func (.func f) (first.map a.eval) (caps.map a.eval)) (by simp[execOp,hop,Instr.makeFunc]) (hn _ _ _ hA.nx ?_);simp only[aU];exact⟨_,_,rfl,by simpa using aaM (P:=X.P) hT first.toList [],by simpa using hcs⟩
 ·rename_i t x y hop;refine Qd ?_ (akE hA (E _ x) (E _ y) h) hn;simp[execOp,hop]
 ·rename_i t x lo hi hop;have gen:(amQ X.P t (evG X tm t x) (lo.map (ev X.P tm 3)) (hi.map (ev X.P tm 3))).run m l=some (v,m',l')->o.wp X.P a w next Q:=by
   intro h;refine Qd ?_ (avh (glo:=lo.map a.eval) (ghi:=hi.map a.eval) hA (EG _ x) ?_ ?_ h) hn
   ·simp[execOp,hop]
   ·cases lo with
    |none=>rfl
    |some x=>exact⟨_,rfl,E _ x⟩
   ·cases hi with
    |none=>rfl
    |some x=>exact⟨_,rfl,E _ x⟩
  cases ht:X.UN.trunc fn (o.dst.getD 0) with
  |false=>rw[ht] at h;exact gen h
  |true=>
   rw[ht] at h;cases lo with
   |some z=>
    cases hi with
    |some _=>exact gen h
    |none=>refine Qd ?_ (aw5 hA (E _ x) (E _ z) h) hn;simp[execOp,hop]
   |none=>
    refine Qd ?_ (avi (ghi:=hi.map a.eval) hA (E _ x) ?_ h) hn
    ·simp[execOp,hop]
    ·cases hi with
     |none=>rfl
     |some x=>exact⟨_,rfl,E _ x⟩
 ·rename_i T x f hop;refine Qd ?_ (akB hA (E _ x) h) hn;simp[execOp,hop]
 ·rename_i T x f hop;refine Qd ?_ (ave hA (E _ x) h) hn;simp[execOp,hop]
 ·rename_i t x i hop;refine Qd ?_ (akD hA (EG _ x) (E _ i) h) hn;simp[execOp,hop]
 ·rename_i t x i hop;refine Qd ?_ (avf hA (E _ x) (E _ i) h) hn;simp[execOp,hop]
 ·rename_i x i hop;split at h
  ·rename_i vs hv;obtain⟨hi,rfl,rfl⟩:=lD h;have hE:=E 0 x;rw[hv] at hE;simp only[aU] at hE;obtain⟨arr,ha,hs⟩:=hE;obtain⟨g,hg,hq⟩:=aw7 hs hi;refine Uy (g:=g) ?_ (hn _ _ _ hA.nx hq);simp[execOp,hop,ha,Instr.extract,hg]
  ·exact(ay h).elim
 ·rename_i f args tys hop;split at h
  ·rename_i g first caps hv
   have hE:=E 0 f;rw[hv] at hE;simp only[aU] at hE;obtain⟨fa,ca,hf,hs1,hs2⟩:=hE;have hargs:=Qa (Qa hs1 (aaM (P:=X.P) hT args.toList tys.toList)) hs2;obtain⟨he,hc⟩:=aw8 hK hA hargs h;have harr:(fa.toList++args.toList.map a.eval++ca.toList).toArray=fa++args.map a.eval++ca:=by apply Array.ext';simp
   rw[harr] at he hc;unfold Oper.wp;have hrun:(execOp a.eval o).run X.P w=.ok (.enter g (fa++args.map a.eval++ca)) w:=by simp only[execOp,hop,resolve,hf,Deferred.ofValue,Sem.run_bind,Sem.run_pure,Result.andThen_ok,invoke,he]
   rw[hrun,Oper.upon_enter];refine Calls.mono hc ?_;rintro e w' ⟨g',G',rfl,hx,hq⟩;exact hn g' w' G' hx hq
  ·exact(ay h).elim
 ·rename_i args tys hop;split at h
  ·rename_i x hx;obtain⟨ox,hxs,rfl⟩:=asH hx;replace h:=aj h;obtain⟨_,m1,l1,h1,h⟩:=h;obtain⟨hk,rfl,rfl⟩:=eH h1;have hx0:=E (tys.toList.headD 0) ox;unfold aJm at hk;split at hk
   ·rename_i t ht;have hxs:=XO hxs;have hts:=XO ht;refine Qd (s:=Builtin.len_ #[t] o.type #[a.eval ox]) ?_ (aA9 hA hx0 ?_ ?_ h) hn
    ·simp[execOp,hop,resolve,invoke,builtin,hxs,hts]
    ·intro s hs;rw[hs] at hk;simp only at hk;cases hu:X.P.underlying t with
     |none=>rw[hu] at hk;cases hk
     |some d=>rw[hu] at hk;cases d<;>simp at hk;rfl
    ·intro hs;split at hk
     ·rename_i s hv;exact absurd hv (hs s)
     ·cases hu:X.P.underlying t with
      |none=>rw[hu] at hk;cases hk
      |some d=>rw[hu] at hk;cases d<;>simp at hk;exact⟨_,rfl⟩
   ·cases hk
  ·exact(ay h).elim
 ·rename_i args tys hop;split at h
  ·rename_i x y t t' hxy ht;obtain⟨ox,oy,hxs,rfl,rfl⟩:=ab3 hxy;have hxs:=XO hxs;have hts:=XO ht;refine Qd (s:=Builtin.append_ #[t,t'] o.type #[a.eval ox,a.eval oy]) ?_ (asD hA (E _ ox) (E _ oy) h) hn;simp[execOp,hop,resolve,invoke,builtin,hxs,hts]
  ·exact(ay h).elim
 ·rename_i args tys hop;split at h
  ·rename_i k x k' y hxy;obtain⟨ox,oy,hxs,h1,h2⟩:=ab3 hxy;have hxs:=XO hxs;have e1:=E (tys.toList.headD 0) ox;have e2:=E (tys.toList.tail.headD 0) oy;rw[<-h1] at e1;rw[<-h2] at e2;simp only[aU,ro] at e1 e2;simp only[run_pure,je,lN] at h;obtain⟨rfl,rfl,_⟩:=h;refine Uy (g:=.int k (bif decide (x<y) then y else x)) ?_ (hn _ _ _ hA.nx (by simp[aU,ro]))
   by_cases hlt:x<y<;>simp[execOp,hop,resolve,invoke,builtin,hxs,e1,e2,Builtin.max_,Builtin.max2,hlt]
  ·exact(ay h).elim
 ·rename_i args tys hop;split at h
  ·rename_i k x k' y hxy;obtain⟨ox,oy,hxs,h1,h2⟩:=ab3 hxy;have hxs:=XO hxs;have e1:=E (tys.toList.headD 0) ox;have e2:=E (tys.toList.tail.headD 0) oy;rw[<-h1] at e1;rw[<-h2] at e2;simp only[aU,ro] at e1 e2;simp only[run_pure,je,lN] at h;obtain⟨rfl,rfl,_⟩:=h;refine Uy (g:=.int k (bif decide (y<x) then y else x)) ?_ (hn _ _ _ hA.nx (by simp[aU,ro]))
   by_cases hlt:y<x<;>simp[execOp,hop,resolve,invoke,builtin,hxs,e1,e2,Builtin.min_,Builtin.min2,hlt]
  ·exact(ay h).elim
 ·exact(ay h).elim
end
end Go.Vm
namespace Go.Vm
open Go
def avk{α:Type}(A:Acc α):∀{m:Mem} {l:Log} {v:α} {m':Mem} {l':Log},A.run m l=some (v,m',l')->
  ∃R W,l'=⟨R++l.r,W++l.w⟩/\(∀k,k ∉ W->get k m'=get k m)/\
   ∀m2 l2,(∀k,k∈R->get k m2=get k m)->∃m2',A.run m2 l2=some (v,m2',⟨R++l2.r,W++l2.w⟩)/\(∀k,k∈W->get k m2'=get k m')/\(∀k,k ∉ W->get k m2'=get k m2):=by
 induction A with
 |ret a=>intro m l v m' l' h;simp only[Acc.run,je,lN] at h;obtain⟨rfl,rfl,rfl⟩:=h;exact⟨[],[],rfl,λ_ _=>rfl,λm2 l2 _=>⟨m2,rfl,λ_ h=>by simp at h,λ_ _=>rfl⟩⟩
 |fail=>intro m l v m' l' h;simp[Acc.run] at h
 |get k c ih=>intro m l v m' l' h;simp only[Acc.run] at h;obtain⟨R,W,e,h1,h2⟩:=ih _ h;refine⟨R++[k],W,by rw[e];simp[Log.rd],h1,λm2 l2 hm=> ?_⟩;obtain⟨m2',q1,q2,q3⟩:=h2 m2 (l2.rd k) (λj hj=>hm j (by simp[hj]));refine⟨m2', ?_,q2,q3⟩;simp only[Acc.run];rw[hm k (by simp),q1];simp[Log.rd]
 |set k x c ih=>
  intro m l v m' l' h;simp only[Acc.run] at h;obtain⟨R,W,e,h1,h2⟩:=ih h;refine⟨R,W++[k],by rw[e];simp[Log.wr],λj hj=> ?_,λm2 l2 hm=> ?_⟩
  ·simp only[List.mem_append,List.mem_singleton,not_or] at hj;rw[h1 j hj.1,ng hj.2]
  ·obtain⟨m2',q1,q2,q3⟩:=h2 (put k x m2) (l2.wr k) (λj hj=>by
    rw[get_put,get_put];split
    ·rfl
    ·exact hm j hj)
   refine⟨m2', ?_,λj hj=> ?_,λj hj=> ?_⟩
   ·simp only[Acc.run];rw[q1];simp[Log.wr]
   ·by_cases hw:j∈W
    ·exact q2 j hw
    ·have hjk:j=k:=by simpa[hw] using hj
     subst hjk;rw[q3 j hw,h1 j hw,jV,jV]
   ·simp only[List.mem_append,List.mem_singleton,not_or] at hj;rw[q3 j hj.1,ng hj.2]
 |opt o c ih=>
  intro m l v m' l' h;cases o with
  |none=>simp[Acc.run] at h
  |some b=>simp only[Acc.run] at h;obtain⟨R,W,e,h1,h2⟩:=ih _ h;exact⟨R,W,e,h1,λm2 l2 hm=>by simpa only[Acc.run] using h2 m2 l2 hm⟩
 |guard b c ih=>
  intro m l v m' l' h;cases b with
  |false=>simp[Acc.run] at h
  |true=>simp only[Acc.run] at h;obtain⟨R,W,e,h1,h2⟩:=ih h;exact⟨R,W,e,h1,λm2 l2 hm=>by simpa only[Acc.run] using h2 m2 l2 hm⟩
def XP{P:Program}{tm VQ:mg}{t:TypeId}{x:Operand}(h:∀i,x=.tmp i->get i tm=get i VQ):ev P tm t x=ev P VQ t x:=by
 cases x with
 |tmp i=>simp only[ev,aaY,h i rfl]
 |_=>rfl
def avl{X:Ctx}{tm VQ:mg}{t:TypeId}{x:Operand}(h:∀i,x=.tmp i->get i tm=get i VQ):evG X tm t x=evG X VQ t x:=by
 cases x with
 |global g=>rfl
 |tmp i=>exact XP (P:=X.P) (t:=t) h
 |const v=>rfl
 |func f=>rfl
def Ve{P:Program}{tm VQ:mg}:∀{xs:List Operand} {ts:List TypeId},(∀x∈xs,∀i,x=.tmp i->get i tm=get i VQ)->wJ P tm xs ts=wJ P VQ xs ts
 |[],_,_=>rfl
 |x::xs,ts,h=>by simp only[wJ];rw[XP (h x (by simp)),Ve λy hy=>h y (by simp[hy])]
def XQ{P:Program}{T:TypeId}{tm VQ:mg}:∀{ps:List (Nat×Operand)} {cs:List V},(∀x∈ps,∀i,x.2=.tmp i->get i tm=get i VQ)->xU P T tm ps cs=xU P T VQ ps cs
 |[],_,_=>rfl
 |(f,x)::ps,cs,h=>by
  simp only[xU];have e:∀t,ev P tm t x=ev P VQ t x:=λt=>XP (h (f,x) (by simp))
  have r:∀cs,xU P T tm ps cs=xU P T VQ ps cs:=λcs=>XQ λy hy=>h y (by simp[hy])
  simp only[e,r]
def WV{P:Program}{e:TypeId}{tm VQ:mg}:∀{ps:List (Nat×Operand)} {cs:List V},(∀x∈ps,∀i,x.2=.tmp i->get i tm=get i VQ)->uH P e tm ps cs=uH P e VQ ps cs
 |[],_,_=>rfl
 |(f,x)::ps,cs,h=>by
  simp only[uH];have e1:ev P tm e x=ev P VQ e x:=XP (h (f,x) (by simp));have r:∀cs,uH P e tm ps cs=uH P e VQ ps cs:=λcs=>WV λy hy=>h y (by simp[hy])
  simp only[e1,r]
def XR{P:Program}{T:TypeId}{tm VQ:mg}:∀{ps:List (Nat×Operand)} {k:Nat},(∀x∈ps,∀i,x.2=.tmp i->get i tm=get i VQ)->xW P T tm k ps=xW P T VQ k ps
 |[],_,_=>rfl
 |(f,x)::ps,k,h=>by
  simp only[xW];have e:∀t,ev P tm t x=ev P VQ t x:=λt=>XP (h (f,x) (by simp))
  have r:∀k,xW P T tm k ps=xW P T VQ k ps:=λk=>XR λy hy=>h y (by simp[hy])
  simp only[e,r]
def avm{X:Ctx}{K:lQ}{fn:Nat}{tm VQ:mg}{o:Oper}(h:∀x∈o.op.operands,∀i,x=.tmp i->get i tm=get i VQ):vop X K fn tm o=vop X K fn VQ o:=by
 obtain⟨dst,op,type,pos,after,guard⟩:=o;have e:∀{x:Operand} (t:TypeId),x∈op.operands->ev X.P tm t x=ev X.P VQ t x:=λt hx=>XP (h _ hx)
 have eG:∀{x:Operand} (t:TypeId),x∈op.operands->evG X tm t x=evG X VQ t x:=λt hx=>avl (h _ hx)
 cases op<;>simp only[vop]
 case call c=>
  obtain⟨callee,args,tys⟩:=c;have ea:∀ts,wJ X.P tm args.toList ts=wJ X.P VQ args.toList ts:=λts=>Ve λx hx=>h x (by
   simp only[Op.operands,Call.operands];have hx':x∈args:=by simpa using hx
   cases callee<;>simp[hx'])
  cases callee with
  |value f=>simp only[ea,e (x:=f) 0 (by simp[Op.operands,Call.operands])]
  |invoke r m=>rfl
  |builtin b=>cases b<;>simp only[ea]
 case build t ps=>
  simp only[amS,aso,amR];have:∀cs,xU X.P t tm ps.toList cs=xU X.P t VQ ps.toList cs:=λcs=>XQ λx hx=>h x.2 (by simp only[Op.operands];simp;exact⟨x.1,by simpa using hx⟩)
  have aJC:∀e cs,uH X.P e tm ps.toList cs=uH X.P e VQ ps.toList cs:=λe cs=>WV λx hx=>h x.2 (by simp only[Op.operands];simp;exact⟨x.1,by simpa using hx⟩)
  simp only[this,aJC]
 case buildSlice t n ps=>
  simp only[WM];have:∀e,xW X.P e tm 0 ps.toList=xW X.P e VQ 0 ps.toList:=λe=>XR λx hx=>h x.2 (by simp only[Op.operands];simp;exact⟨x.1,by simpa using hx⟩)
  simp only[this]
 case makeFunc f first caps=>
  cases f<;>try rfl
  simp only;rw[Ve (tm:=tm) (VQ:=VQ) (xs:=first.toList) λx hx=>h x (by have hx':x∈_:=Array.mem_toList_iff.1 hx;simp[Op.operands,hx']),
   Ve (tm:=tm) (VQ:=VQ) (xs:=caps.toList) λx hx=>h x (by have hx':x∈_:=Array.mem_toList_iff.1 hx;simp[Op.operands,hx'])]
 case load t x=>rw[eG 0 (by simp[Op.operands])]
 case nilCheck x=>rw[eG type (by simp[Op.operands])]
 case indexAddr t x i=>rw[eG t (by simp[Op.operands]),e 3 (x:=i) (by simp[Op.operands])]
 case slice t x lo hi mx=>
  cases mx with
  |some _=>rfl
  |none=>
   simp only;rw[eG t (by simp[Op.operands]),e t (x:=x) (by simp[Op.operands])];generalize X.UN.trunc fn (dst.getD 0)=b;cases lo with
   |none=>cases hi with
    |none=>cases b<;>rfl
    |some y=>cases b<;>simp only[O9,Option.map_none,e 3 (x:=y) (by simp[Op.operands])]
   |some z=>cases hi with
    |none=>cases b<;>simp only[O9,Option.map_none,e 3 (x:=z) (by simp[Op.operands])]
    |some y=>cases b<;>simp only[O9,Option.map_none,e 3 (x:=y) (by simp[Op.operands]),e 3 (x:=z) (by simp[Op.operands])]
 all_goals first
  |rfl
  |(simp only[e _ (by simp[Op.operands]:_∈Op.operands _)];done)
  |skip
 all_goals(simp only[Op.operands] at e;simp_all)
end Go.Vm
namespace Go.Vm
open Go
structure Rel(base:Nat)(U:Nat->Prop)(M0:List Nat)(w0:World)(ν:Nat->Value)(M:Mem)(nt:Nat)(w:World)(S:St)(G:GS)(a:Act):Prop where
 at_:At base U M0 w0 w S.mem G
 tm:acW G.μ S.mem (Gh U w G) S.tm a
 size:a.tmps.size=nt
 defers:a.defers=[]
 imp:I9 ν M G.μ S.mem
section
variable {base:Nat} {U:Nat->Prop} {M0:List Nat} {w0 w w':World} {ν:Nat->Value} {M:Mem} {nt:Nat} {S S':St} {G G':GS} {a:Act} {X:Ctx}
def ac1(a:Act)(dst:Option Tmp)(g:Value):(a.put dst g).tmps.size=a.tmps.size:=by cases dst<;>simp[Act.put]
def put_defers(a:Act)(dst:Option Tmp)(g:Value):(a.put dst g).defers=a.defers:=by cases dst<;>rfl
def Rel.put(R:Rel base U M0 w0 ν M nt w S G a){m':Mem}{v:V}{g:Value}{dst:Option Nat}(hx:Nx base U M0 w0 w S.mem G w' m' G')(hs:aU G'.μ m' (Gh U w' G') v g)(hd:ZA nt dst=true):
  Rel base U M0 w0 ν M nt w' ⟨aky dst v S.tm,m'⟩ G' (a.put dst g):=by
 refine⟨hx.at_, ?_,by rw[ac1,R.size],by rw[put_defers,R.defers],wL R.imp hx.mem⟩;intro t u hu;cases dst with
 |none=>simp only[aky] at hu;obtain⟨h1,h2⟩:=R.tm t u hu;exact⟨h1,hx.aU h2⟩
 |some d=>
  simp only[aky] at hu;have hdn:d<nt:=by simpa[ZA] using hd
  rw[ac1];rw[get_put] at hu;split at hu
  ·rename_i htd;simp only[je] at hu;subst hu htd;refine⟨by rw[R.size];exact hdn, ?_⟩;have:((a.put (some t) g).tmps).getD t undef=g:=by simp only[Act.put,Array.getD_eq_getD_getElem?];rw[Array.getElem?_setIfInBounds_self_of_lt (by rw[R.size];exact hdn)];rfl
   rw[this];exact hs
  ·rename_i htd;obtain⟨h1,h2⟩:=R.tm t u hu;refine⟨h1, ?_⟩;have:((a.put (some d) g).tmps).getD t undef=a.tmps.getD t undef:=by simp only[Act.put,Array.getD_eq_getD_getElem?];rw[Array.getElem?_setIfInBounds_ne (Ne.symm htd)]
   rw[this];exact hx.aU h2
def Rel.skip(R:Rel base U M0 w0 ν M nt w S G a)(dst:Option Nat):Rel base U M0 w0 ν M nt w ⟨aAV dst S.tm,S.mem⟩ G (a.put dst Go.undef):=by
 refine⟨R.at_, ?_,by rw[ac1,R.size],by rw[put_defers,R.defers],R.imp⟩;intro t u hu;cases dst with
 |none=>exact R.tm t u hu
 |some d=>
  simp only[aAV] at hu;rw[aA0] at hu;split at hu
  ·cases hu
  ·rename_i htd;obtain⟨h1,h2⟩:=R.tm t u hu;refine⟨by rw[ac1];exact h1, ?_⟩;have:((a.put (some d) Go.undef).tmps).getD t Go.undef=a.tmps.getD t Go.undef:=by simp only[Act.put,Array.getD_eq_getD_getElem?];rw[Array.getElem?_setIfInBounds_ne (Ne.symm htd)]
   rw[this];exact h2
def Rel.skip'(R:Rel base U M0 w0 ν M nt w S G a)(dst:Option Nat):Rel base U M0 w0 ν M nt w ⟨ae7 nt dst S.tm,S.mem⟩ G (a.put dst Go.undef):=by
 unfold ae7;cases hd:ZA nt dst with
 |false=>exact R.skip dst
 |true=>exact R.put R.at_.nx (by simp only[aU,dn];exact⟨#[],rfl,rfl⟩) hd
def Rel.tms(R:Rel base U M0 w0 ν M nt w S G a){tm:mg}(h:∀t,get t tm=get t S.tm):Rel base U M0 w0 ν M nt w ⟨tm,S.mem⟩ G a:=
 ⟨R.at_,λt u hu=>R.tm t u (by rw[<-h t];exact hu),R.size,R.defers,R.imp⟩
def aov{t d:Nat}{x:V}{tm:mg}(h:aaY d tm=x)(hx:x≠.undef):get t (put d x tm)=get t tm:=by
 rw[get_put];split
 ·rename_i e;subst e;unfold aaY at h;cases hg:get t tm with
  |none=>rw[hg] at h;exact absurd h.symm hx
  |some v=>rw[hg] at h;simp at h;rw[h]
 ·rfl
def Vf{ops:Array Oper}{o:Oper}{b:Bool}{tm tm':mg}(h:Gn ops tm o=some (b,tm')):∀t,get t tm'=get t tm:=by
 intro t;unfold Gn at h;split at h
 ·simp only[je,lN] at h;rw[h.2]
 ·split at h
  ·split at h
   ·split at h
    ·rename_i c he;split at h
     all_goals
      simp only[je,lN] at h;rw[<-h.2];exact aov he (by simp)
    ·rename_i vs he;split at h
     ·simp only[je,lN] at h;rw[<-h.2];exact aov he (by simp)
     ·cases h
    ·cases h
   ·cases h
  ·cases h
def avn{ops:Array Oper}{o:Oper}{b:Bool}{tm':mg}(R:Rel base U M0 w0 ν M nt w S G a)(h:Gn ops S.tm o=some (b,tm')):Region.wanted o (yielded ops a.tmps)=b:=by
 unfold Gn at h;unfold Region.wanted;cases hg:o.guard with
 |none=>simp only[hg,je,lN] at h;simpa using h.1
 |some jw=>
  obtain⟨j,want⟩:=jw;simp only[hg] at h|-;cases hj:ops[j]? with
  |none=>simp[hj] at h
  |some oj=>
   simp only[hj] at h;cases hd:oj.dst with
   |none=>simp[hd] at h
   |some d=>
    simp only[hd] at h;unfold aaY at h;cases ht:get d S.tm with
    |none=>simp[ht] at h
    |some v=>
     simp only[ht] at h;obtain⟨h1,h2⟩:=R.tm d v ht;cases v with
     |d x=>
      cases x with
      |bool c=>
       simp only[aU,ro] at h2;have hy:yielded ops a.tmps j=some c:=by
        simp only[yielded,hj,Option.bind_some,hd];have:a.tmps[d]? =some (.bool c):=by rw[<-h2,Array.getD_eq_getD_getElem?,Array.getElem?_eq_getElem h1];rfl
        rw[this]
       rw[hy];cases c<;>simp only[je,lN] at h<;>obtain⟨rfl,_⟩:=h<;>cases want<;>rfl
      |_=>simp at h
     |FQ vs=>
      cases vs with
      |cons _ _=>simp at h
      |nil=>
       simp only[je,lN] at h;simp only[aU,dn] at h2;obtain⟨arr,h3,h4⟩:=h2;have hy:yielded ops a.tmps j=none:=by
        simp only[yielded,hj,Option.bind_some,hd];have:a.tmps[d]? =some (.tuple arr):=by rw[<-h3,Array.getD_eq_getD_getElem?,Array.getElem?_eq_getElem h1];rfl
        rw[this]
       rw[hy,<-h.1];rfl
     |_=>simp at h
def aow{K:lQ}(hK:ab2 X K U M0 w0){fn:Nat}(hnt:Zr X.P fn=nt)(R:Rel base U M0 w0 ν M nt w S G a){ops:Array Oper}{i:Nat}{lg:Log}(h:Ee X K fn ops i S=some (S',lg))
  {next:Act->World->Prop} {Q:Exit->Act->World->Prop} (hn:∀w' G' a',Rel base U M0 w0 ν M nt w' S' G' a'->(Gh U w G).le (Gh U w' G')->next a' w'):wpOp X.P ops Q i next a w:=by
 unfold Ee at h;unfold wpOp;cases ho:ops[i]? with
 |none=>simp[ho] at h
 |some o=>
  simp only[ho] at h|-;cases hw:Gn ops S.tm o with
  |none=>simp[hw] at h
  |some bt=>
   obtain⟨b,tm⟩:=bt;rw[avn R hw];have R':=R.tms (Vf hw);cases b with
   |false=>simp only[hw,je,lN] at h;obtain⟨rfl,rfl⟩:=h;simp only[Bool.false_eq_true,if_false];exact hn _ _ _ (hnt ▸ R'.skip' o.dst) (View.le_refl _)
   |true=>
    simp only[hw] at h;simp only[if_true];cases hv:(vop X K fn tm o).run S.mem .none with
    |none=>simp[hv] at h
    |some r=>
     obtain⟨v,m',l⟩:=r;simp only[hv] at h;cases hd:ZA (Zr X.P fn) o.dst with
     |false=>simp[hd] at h
     |true=>simp only[hd,aK,je,lN] at h;obtain⟨rfl,rfl⟩:=h;rw[hnt] at hd;exact .inl (aGe hK R'.at_ R'.tm hv λg w' G' hx hs=>hn w' G' _ (R'.put hx hs hd) hx.view)
def ahY{K:lQ}(hK:ab2 X K U M0 w0){fn:Nat}(hnt:Zr X.P fn=nt){ops:Array Oper}{Q:Exit->Act->World->Prop}{rest:List Nat}:∀{is:List Nat} {w:World} {S S':St} {G:GS} {a:Act} {L L':List (Nat×Log)}
  (_:Rel base U M0 w0 ν M nt w S G a) (_:Pg X K fn ops is S L=some (S',L')) (_:∀w' G' a',Rel base U M0 w0 ν M nt w' S' G' a'->(Gh U w G).le (Gh U w' G')->wpOps X.P ops Q rest a' w'),wpOps X.P ops Q (is++rest) a w
 |[],w,S,S',G,a,L,L',R,h,hn=>by simp only[Pg,je,lN] at h;obtain⟨rfl,rfl⟩:=h;exact hn w G a R (View.le_refl _)
 |i::is,w,S,S',G,a,L,L',R,h,hn=>by
  rw[Yr,wpOps_cons];simp only[Pg] at h;cases h1:Ee X K fn ops i S with
  |none=>simp[h1] at h
  |some r=>obtain⟨S1,l1⟩:=r;simp only[h1] at h;exact aow hK hnt R h1 λw1 G1 a1 R1 v1=>ahY hK hnt R1 h λw' G' a' R' v'=>hn w' G' a' R' (v1.trans' v')
def avo{K:lQ}(hK:ab2 X K U M0 w0){fn:Nat}(hnt:Zr X.P fn=nt){ops:Array Oper}{Q:Exit->Act->World->Prop}{is:List Nat}{w:World}{S S':St}{G:GS}{a:Act}{L L':List (Nat×Log)}
  (R:Rel base U M0 w0 ν M nt w S G a) (h:Pg X K fn ops is S L=some (S',L')) (hn:∀w' G' a',Rel base U M0 w0 ν M nt w' S' G' a'->(Gh U w G).le (Gh U w' G')->Q .normal a' w'):wpOps X.P ops Q is a w:=by
 have:=ahY (rest:=[]) hK hnt R h hn
 rwa [List.append_nil] at this
end
end Go.Vm
namespace Go.Vm
open Go
def YE{k:Nat}{c:Cell}{m:Mem}(h:sortedK ((k,c)::m)=true):sortedK m=true:=by
 cases m with
 |nil=>rfl
 |cons x m=>obtain⟨j,d⟩:=x;simp only[sortedK,MS] at h;exact h.2
def ahZ:∀{m:Mem} {k:Nat} {c:Cell},sortedK ((k,c)::m)=true->∀j d,(j,d)∈m->k<j
 |[],_,_,_,_,_,h=>by simp at h
 |(i,e)::m,k,c,h,j,d,hm=>by
  have h':=h;simp only[sortedK,MS] at h;have hki:k<i:=Nat.le_of_ble_eq_true h.1;simp only[List.mem_cons,lN] at hm;rcases hm with⟨rfl,_⟩|hm
  ·exact hki
  ·exact Nat.lt_trans hki (ahZ (YE h') j d hm)
def get_mem{α:Type}{k:Nat}{x:α}:∀{l:List (Nat×α)},get k l=some x->(k,x)∈l
 |[],h=>by simp[get] at h
 |(j,y)::l,h=>by
  simp only[get] at h;cases hb:Nat.beq k j with
  |true=>rw[hb] at h;simp only[aK,je] at h;have:=Hy hb;simp[this,h]
  |false=>rw[hb] at h;exact zmm _ (get_mem h)
def get_none{α:Type}{k:Nat}:∀{l:List (Nat×α)},(∀x,(k,x) ∉ l)->get k l=none
 |[],_=>rfl
 |(j,y)::l,h=>by
  have hne:k≠j:=λe=>h y (by simp[e])
  simp only[get,wM hne,bn];exact get_none λx hx=>h x (zmm _ hx)
def live:Cell->Bool
 | .dead=>false
 |_=>true
def ZO{all:Mem}{R:List Nat}{k:Nat}:∀{m:Mem},sortedK m=true->∀c',get k (xF all R m)=some c'↔∃c,get k m=some c/\live c=true/\k∈R/\c'=KN all c
 |[],_,c'=>by simp[xF,get]
 |(j,c)::m,hs,c'=>by
  have ih:=ZO (all:=all) (R:=R) (k:=k) (YE hs) c';have hlt:=ahZ hs
  by_cases hkj:k=j
  ·subst hkj;have hnone:get k m=none:=get_none λx hx=>Nat.lt_irrefl _ (hlt k x hx)
   have hnone':get k (xF all R m)=none:=by
    cases hg:get k (xF all R m) with
    |none=>rfl
    |some c2=>obtain⟨c3,h3,_⟩:=(ZO (all:=all) (R:=R) (k:=k) (YE hs) c2).1 hg;rw[hnone] at h3;cases h3
   have hget:get k ((k,c)::m)=some c:=by simp[get]
   rw[hget];cases c with
   |dead=>simp[xF,hnone',live]
   |box t cs=>
    cases hm:mem? k R with
    |true=>
     have:=(H6 k R).1 hm;simp only[xF,hm,aK];rw[show∀(x:Cell) l,get k ((k,x)::l)=some x from λx l=>by simp[get]];constructor
     ·intro h;exact⟨_,rfl,rfl,this,(Option.some.inj h).symm⟩
     ·rintro⟨c,h1,_,_,rfl⟩;cases h1;rfl
    |false=>
     have hn:k ∉ R:=λh=>by rw[(H6 k R).2 h] at hm;cases hm
     simp[xF,hm,hnone',hn]
   |arr fz fl ver s rows=>
    cases hm:mem? k R with
    |true=>
     have:=(H6 k R).1 hm;simp only[xF,hm,aK];rw[show∀(x:Cell) l,get k ((k,x)::l)=some x from λx l=>by simp[get]];constructor
     ·intro h;exact⟨_,rfl,rfl,this,(Option.some.inj h).symm⟩
     ·rintro⟨c,h1,_,_,rfl⟩;cases h1;rfl
    |false=>
     have hn:k ∉ R:=λh=>by rw[(H6 k R).2 h] at hm;cases hm
     simp[xF,hm,hnone',hn]
   |qN T v=>
    cases hm:mem? k R with
    |true=>
     have:=(H6 k R).1 hm;simp only[xF,hm,aK];rw[show∀(x:Cell) l,get k ((k,x)::l)=some x from λx l=>by simp[get]];constructor
     ·intro h;exact⟨_,rfl,rfl,this,(Option.some.inj h).symm⟩
     ·rintro⟨c,h1,_,_,rfl⟩;cases h1;rfl
    |false=>
     have hn:k ∉ R:=λh=>by rw[(H6 k R).2 h] at hm;cases hm
     simp[xF,hm,hnone',hn]
  ·have hget:get k ((j,c)::m)=get k m:=by simp[get,wM hkj]
   rw[hget,<-ih];cases c with
   |dead=>simp[xF]
   |box t cs=>cases hm:mem? j R<;>simp[xF,hm,get,wM hkj]
   |arr fz fl ver s rows=>cases hm:mem? j R<;>simp[xF,hm,get,wM hkj]
   |qN T v=>cases hm:mem? j R<;>simp[xF,hm,get,wM hkj]
def VR:∀(as l:List Nat) (x:Nat),x∈l\/x∈as->x∈abM as l
 |[],l,x,h=>by simpa[abM] using h
 |a::as,l,x,h=>by
  simp only[abM];cases hm:mem? a l with
  |true=>
   have:=(H6 a l).1 hm;refine VR as l x ?_;rcases h with h|h
   ·exact .inl h
   ·simp only[List.mem_cons] at h;rcases h with rfl|h
    ·exact .inl this
    ·exact .inr h
  |false=>
   refine VR as (a::l) x ?_;simp only[List.mem_cons] at h|-;rcases h with h|h|h
   ·exact .inl (.inr h)
   ·exact .inl (.inl h)
   ·exact .inr h
def aly(m:Mem):∀(n:Nat) (l:List Nat) (x:Nat),x∈l->x∈reach m n l
 |0,_,_,h=>h
 |n+1,l,x,h=>aly m n _ x (VR _ _ _ (.inl h))
def ac2{μ:Nat->Value}{m m2:Mem}{h:View}{R:List Nat}(hm:∀r c,get r m=some c->live c=true->r∈R->get r m2=some (KN m c)):
  ∀(v:V) (g:Value),aU μ m h v g->(∀r,r∈refs (Yu m v)->r∈R)->aU μ m2 h (Yu m v) g
 | .d x,g,q,_=>q
 | .nil s,g,q,_=>q
 | .own r ver,g,q,hr=>by
  simp only[aU] at q;simp only[Yu] at hr|-;cases hc:get r m with
  |none=>simp[hc] at q
  |some c=>
   rw[hc] at hr;cases c with
   |box _ _=>simp[aU]
   |qN _ _=>simp[aU]
   |dead=>simp[aU]
   |arr fz fl uO s rows=>
    simp only[hc] at q;simp only at hr|-;cases hb:Nat.beq ver uO with
    |false=>simp[aU]
    |true=>rw[hb] at hr;have hv:=Hy hb;have:=hm r _ hc rfl (hr r (by simp[refs]));simp only[aK,aU,this,KN];exact⟨q.1,Nat.le_refl _,λ_=>q.2.2 hv⟩
 | .ptr r off,g,q,hr=>by
  simp only[aU] at q;simp only[Yu] at hr|-;cases hc:get r m with
  |none=>simp[hc] at q
  |some c=>
   rw[hc] at hr;cases c with
   |arr _ _ _ _ _=>simp[aU]
   |dead=>simp[aU]
   |box t cs=>simp only[hc] at q;have:=hm r _ hc rfl (hr r (by simp[refs]));simp only[aU,this,KN];exact q
   |qN t v=>simp only[hc] at q;have:=hm r _ hc rfl (hr r (by simp[refs]));simp only[aU,this,KN];exact q
 | .Ej r ver i off,g,q,hr=>by
  simp only[aU] at q;simp only[Yu] at hr|-;cases hc:get r m with
  |none=>simp[hc] at q
  |some c=>
   rw[hc] at hr;cases c with
   |box _ _=>simp[aU]
   |qN _ _=>simp[aU]
   |dead=>simp[aU]
   |arr fz fl uO s rows=>
    simp only[hc] at q;simp only at hr|-;cases hb:Nat.beq ver uO with
    |false=>simp[aU]
    |true=>rw[hb] at hr;have hv:=Hy hb;have:=hm r _ hc rfl (hr r (by simp[refs]));simp only[aK,aU,this,KN];exact⟨q.1,Nat.le_refl _,λ_=>q.2.2 hv⟩
 | .uN row off,g,q,_=>q
 | .Em v,g,q,hr=>by simp only[aU] at q;obtain⟨b,x,rfl,h1,h2⟩:=q;simp only[Yu,refs] at hr;simp only[Yu,aU];exact⟨b,x,rfl,h1,ac2 hm v x h2 hr⟩
 | .clo f a b,g,q,hr=>by simp only[aU] at q;obtain⟨x,y,rfl,h1,h2⟩:=q;simp only[Yu,refs] at hr;simp only[Yu,aU];exact⟨x,y,rfl,XT hm a _ h1 λr hx=>hr r (by simp[hx]),XT hm b _ h2 λr hx=>hr r (by simp[hx])⟩
 | .agg cs,g,q,hr=>by simp only[aU] at q;obtain⟨x,rfl,h1⟩:=q;simp only[Yu,refs] at hr;simp only[Yu,aU];exact⟨x,rfl,XT hm cs _ h1 hr⟩
 | .FQ cs,g,q,hr=>by simp only[aU] at q;obtain⟨x,rfl,h1⟩:=q;simp only[Yu,refs] at hr;simp only[Yu,aU];exact⟨x,rfl,XT hm cs _ h1 hr⟩
 | .undef,g,q,_=>q
where
 XT {μ:Nat->Value} {m m2:Mem} {h:View} {R:List Nat} (hm:∀r c,get r m=some c->live c=true->r∈R->get r m2=some (KN m c)):
  ∀(vs:List V) (gs:List Value),dn μ m h vs gs->(∀r,r∈Td (aa8 m vs)->r∈R)->dn μ m2 h (aa8 m vs) gs
 |[],gs,q,_=>q
 |v::vs,gs,q,hr=>by obtain⟨g,gs',rfl,h1,h2⟩:=oI q;simp only[aa8,Td] at hr;simp only[aa8,dn];exact⟨g,gs',rfl,ac2 hm v g h1 λr hx=>hr r (by simp[hx]),XT hm vs gs' h2 λr hx=>hr r (by simp[hx])⟩
def ab4{m:Mem}{tm:mg}{t:Nat}{v:V}:∀{ts:List Nat},get t (abL m tm ts)=some v->∃u,get t tm=some u/\v=Yu m u
 |[],h=>by simp[abL,get] at h
 |i::ts,h=>by
  simp only[abL] at h;cases hi:get i tm with
  |none=>rw[hi] at h;exact ab4 h
  |some u=>
   rw[hi] at h;simp only[get] at h;cases hb:Nat.beq t i with
   |true=>have:=Hy hb;subst this;rw[hb] at h;simp only[aK,je] at h;exact⟨u,hi,h.symm⟩
   |false=>rw[hb] at h;exact ab4 h
section
variable {base:Nat} {U:Nat->Prop} {M0:List Nat} {w0 w:World} {ν:Nat->Value} {M:Mem} {nt:Nat} {S S':St} {G:GS} {a:Act}
open Classical in
def avp(R:Rel base U M0 w0 ν M nt w S G a)(hM:∀r c,get r M=some c->UO r=true){ts:List Nat}(h:abN ts S=some S'):
  ∃G',Rel base U M0 w0 ν M nt w S' G' a/\(Gh U w G).le (Gh U w G'):=by
 simp only[abN] at h;generalize htm:abL S.mem S.tm ts=tm at h;generalize hRR:reach S.mem 3 (roots tm S.mem)=RR at h;generalize hmm:xF S.mem RR S.mem=m2 at h;cases hc:(closed RR m2 &&(aJn S.mem && sortedK S.mem)) with
 |false=>simp[hc] at h
 |true=>
  simp only[hc,aK,je] at h;subst h;simp only[MS] at hc;obtain⟨hcl,hfm,hso⟩:=hc;have hget:∀k c',get k m2=some c'↔∃c,get k S.mem=some c/\live c=true/\k∈RR/\c'=KN S.mem c:=by intro k c';rw[<-hmm];exact ZO hso c'
  have hto:∀r c,get r S.mem=some c->live c=true->r∈RR->get r m2=some (KN S.mem c):=λr c h1 h2 h3=>(hget r _).2 ⟨c,h1,h2,h3,rfl⟩
  have hroot:∀r,r∈roots tm S.mem->r∈RR:=λr hr=>by rw[<-hRR];exact aly _ _ _ _ hr
  have hout:∀r,r ∉ G.out:=λr=>by rw[R.at_.out];simp
  let F2:Nat->List Nat:=λr=>if get r m2=none then[] else G.F r
  have hF:∀r b,b∈F2 r->b∈G.F r:=by
   intro r b hb;simp only[F2] at hb;split at hb
   ·simp at hb
   ·exact hb
  have hex:∀b,excl F2 [] b->excl G.F G.E b:=by
   rintro b (hb|⟨r,hb⟩)
   ·simp at hb
   ·exact .inr ⟨r,hF r b hb⟩
  have hv:(Gh U w G).le (Gh U w ⟨G.μ,F2,[],[]⟩):=WQ (λ_ x=>x) hex;have hbox:∀r t cs,get r m2=some (.box t cs)->∀q,q∈Td cs->q∈RR:=by intro r t cs hr q hq;have:=List.all_eq_true.1 hcl (r,.box t cs) (get_mem hr);simp only[List.all_eq_true] at this;exact(H6 q RR).1 (this q hq)
  have aJD:∀r t v,get r m2=some (.qN t v)->∀q,q∈refs v->q∈RR:=by intro r t v hr q hq;have:=List.all_eq_true.1 hcl (r,.qN t v) (get_mem hr);simp only[List.all_eq_true] at this;exact(H6 q RR).1 (this q hq)
  refine⟨⟨G.μ,F2,[],[]⟩,⟨⟨⟨?_, ?_, ?_, ?_,by simp, ?_,R.at_.ok.up,R.at_.ok.bs, ?_, ?_⟩,rfl,rfl,R.at_.fr.less hex⟩, ?_,R.size,R.defers, ?_⟩,hv⟩
  ·intro r c' hr _;have hF2:F2 r=G.F r:=by simp[F2,hr]
   obtain⟨c,h1,h2,h3,rfl⟩:=(hget r c').1 hr;have hq:=R.at_.ok.cell r c h1 (hout r);show sG G.μ m2 (dU w) (Gh U w ⟨G.μ,F2,[],[]⟩) r (KN S.mem c) (F2 r);rw[hF2];cases c with
   |dead=>cases h2
   |box t cs=>obtain⟨b,arr,e1,e2,e3,e4⟩:=hq;exact⟨b,arr,e1,e2,ac2.XT hto _ _ (sJ (sH _ _) hv _ _ e3) (hbox r t _ hr),e4⟩
   |arr fz fl ver s rows=>
    cases fz with
    |true=>exact⟨KP hv _ _ hq.1,hq.2⟩
    |false=>exact XJ hv (λ_ _=>rfl) hq
   |qN t v=>obtain⟨e1,b,x,e2,e3,e4⟩:=hq;exact⟨e1,b,x,e2,hv _ _ _ e3,ac2 hto _ _ (AQ (sH _ _) hv _ _ e4) (aJD r t _ hr)⟩
  ·intro r r' hne b hb hb';exact R.at_.ok.dj r r' hne b (hF r b hb) (hF r' b hb')
  ·intro r b hb;simp
  ·intro r;simp only[F2];split
   ·simp
   ·exact R.at_.ok.nd r
  ·intro b hb;exact R.at_.ok.lt b (hex b hb)
  ·intro r hr;simp[F2,hr]
  ·intro r hr;simp at hr
  ·intro t v ht;rw[<-htm] at ht;obtain⟨u,h1,rfl⟩:=ab4 ht;obtain⟨h2,h3⟩:=R.tm t u h1;refine⟨h2,ac2 hto u _ (AQ (sH _ _) hv _ _ h3) λr hr=> ?_⟩;refine hroot r (VR _ _ _ (.inr ?_));rw[List.mem_flatMap];exact⟨(t,Yu S.mem u),by rw[<-htm];exact get_mem ht,hr⟩
  ·intro r c hr;obtain⟨c',h1,h2⟩:=R.imp r c hr;have hk:=hM r c hr;have aw9:=List.all_eq_true.1 hfm (r,c') (get_mem h1);have hrr:r∈RR:=hroot r (VR _ _ _ (.inl (by rw[List.mem_filter];exact⟨List.mem_map.2 ⟨(r,c'),get_mem h1,rfl⟩,hk⟩)));cases c' with
   |dead=>simp[hk] at aw9
   |box t cs=>refine⟨_,hto r _ h1 rfl hrr, ?_⟩;cases c<;>simp only[Np,KN] at h2|-<;>exact h2
   |qN t cs=>refine⟨_,hto r _ h1 rfl hrr, ?_⟩;cases c<;>simp only[Np,KN] at h2|-<;>exact h2
   |arr fz fl ver s rows=>simp only[hk,aK] at aw9;have hv0:=Hy aw9;subst hv0;exact⟨_,hto r _ h1 rfl hrr,h2⟩
def ah0{f:Nat->Nat}:∀{ks:List Nat},nodupB (ks.map f)=true->∀a b,a∈ks->b∈ks->f a=f b->a=b
 |[],_,a,b,ha,_,_=>absurd ha List.not_mem_nil
 |k::ks,h,a,b,ha,hb,e=>by
  simp only[RQ,nodupB,MS] at h;have h1:=VJ h.1;rcases List.mem_cons.1 ha with e1|ha1<;>rcases List.mem_cons.1 hb with e2|hb1
  ·rw[e1,e2]
  ·exact absurd (by rw[<-e1,e];exact List.mem_map.2 ⟨b,hb1,rfl⟩) h1
  ·exact absurd (by rw[<-e2,<-e];exact List.mem_map.2 ⟨a,ha1,rfl⟩) h1
  ·exact ah0 h.2 a b ha1 hb1 e
def agY{α:Type}{k:Nat}{x:α}{l:List (Nat×α)}(h:get k l=some x):k∈l.map (·.1):=List.mem_map.2 ⟨_,get_mem h,rfl⟩
def abf{L:List (Nat×Nat)}:∀{m:Mem} {k':Nat} {c':Cell},get k' (VH L m)=some c'->∃k c,get k m=some c/\ren L k=k'/\c'=ahv L c
 |[],k',c',h=>by simp[VH,get] at h
 |(j,c0)::m,k',c',h=>by
  simp only[VH] at h;rw[get_put] at h;split at h
  ·rename_i e;cases h;exact⟨j,c0,by simp[get],e.symm,rfl⟩
  ·rename_i e;obtain⟨k,c,h1,h2,h3⟩:=abf h;refine⟨k,c, ?_,h2,h3⟩;have:Nat.beq k j=false:=wM (λq=>e (by rw[<-h2,q]));simp only[get,this,bn];exact h1
def ah1{L:List (Nat×Nat)}:∀{m:Mem} (_:∀a b,a∈m.map (·.1)->b∈m.map (·.1)->ren L a=ren L b->a=b) {k:Nat} {c:Cell},get k m=some c->get (ren L k) (VH L m)=some (ahv L c)
 |[],_,k,c,h=>by simp[get] at h
 |(j,c0)::m,hi,k,c,h=>by
  simp only[VH];rw[get_put]
  by_cases hk:k=j
  ·subst hk;have:Nat.beq k k=true:=Nat.beq_refl k;simp only[get,this,aK,je] at h;subst h;rw[if_pos rfl]
  ·have hb:Nat.beq k j=false:=wM hk;simp only[get,hb,bn] at h;rw[if_neg]
   ·exact ah1 (λa b ha hb=>hi a b (zmm _ ha) (zmm _ hb)) h
   ·intro e;exact hk (hi k j (zmm _ (agY h)) zmf e)
def alz{L:List (Nat×Nat)}:∀{tm:mg} {t:Nat} {v:V},get t (ahw L tm)=some v->∃u,get t tm=some u/\v=UQ L u
 |[],t,v,h=>by simp[ahw,get] at h
 |(j,u)::tm,t,v,h=>by
  simp only[ahw,get] at h|-;cases hb:Nat.beq t j with
  |true=>rw[hb] at h;simp only[aK,je] at h;exact⟨u,rfl,h.symm⟩
  |false=>rw[hb] at h;simp only[bn] at h|-;exact alz h
mutual
def agZ{L:List (Nat×Nat)}{μ μ':Nat->Value}{m m':Mem}{h:View}(hm:∀k c,get k m=some c->get (ren L k) m'=some (ahv L c)/\μ' (ren L k)=μ k):∀(v:V) (g:Value),aU μ m h v g->aU μ' m' h (UQ L v) g
 | .d x,g,q=>q
 | .nil s,g,q=>q
 | .own r v0,g,q=>by
  simp only[UQ,aU] at q|-;refine⟨q.1, ?_⟩;have q2:=q.2;cases hr:get r m with
  |none=>rw[hr] at q2;exact q2.elim
  |some c=>
   rw[hr] at q2;obtain⟨h1,h2⟩:=hm r c hr;rw[h1];cases c with
   |box t cs=>exact q2.elim
   |qN t cs=>exact q2.elim
   |arr fz fl ver s rows=>exact⟨q2.1,λe=>by rw[h2];exact q2.2 e⟩
   |dead=>trivial
 | .ptr r off,g,q=>by
  simp only[UQ,aU] at q|-;refine⟨q.1, ?_⟩;have q2:=q.2;cases hr:get r m with
  |none=>rw[hr] at q2;exact q2.elim
  |some c=>
   rw[hr] at q2;obtain⟨h1,h2⟩:=hm r c hr;rw[h1];cases c with
   |box t cs=>obtain⟨b,e1,e2⟩:=q2;exact⟨b,by rw[h2];exact e1,e2⟩
   |qN t cs=>obtain⟨b,e1,e2⟩:=q2;exact⟨b,by rw[h2];exact e1,e2⟩
   |arr fz fl ver s rows=>exact q2.elim
   |dead=>trivial
 | .Ej r v0 i off,g,q=>by
  simp only[UQ,aU] at q|-;refine⟨q.1, ?_⟩;have q2:=q.2;cases hr:get r m with
  |none=>rw[hr] at q2;exact q2.elim
  |some c=>
   rw[hr] at q2;obtain⟨h1,h2⟩:=hm r c hr;rw[h1];cases c with
   |box t cs=>exact q2.elim
   |qN t cs=>exact q2.elim
   |arr fz fl ver s rows=>refine⟨q2.1,λe=> ?_⟩;obtain⟨b,n,cap,e1,e2⟩:=q2.2 e;exact⟨b,n,cap,by rw[h2];exact e1,e2⟩
   |dead=>trivial
 | .uN row off,g,q=>q
 | .Em v,g,q=>by simp only[UQ,aU] at q|-;obtain⟨b,x,e,h1,h2⟩:=q;exact⟨b,x,e,h1,agZ hm v x h2⟩
 | .clo f a b,g,q=>by simp only[UQ,aU] at q|-;obtain⟨x,y,e,h1,h2⟩:=q;exact⟨x,y,e,XU hm a _ h1,XU hm b _ h2⟩
 | .agg cs,g,q=>by simp only[UQ,aU] at q|-;obtain⟨x,e,h1⟩:=q;exact⟨x,e,XU hm cs _ h1⟩
 | .FQ vs,g,q=>by simp only[UQ,aU] at q|-;obtain⟨x,e,h1⟩:=q;exact⟨x,e,XU hm vs _ h1⟩
 | .undef,g,q=>trivial
def XU{L:List (Nat×Nat)}{μ μ':Nat->Value}{m m':Mem}{h:View}(hm:∀k c,get k m=some c->get (ren L k) m'=some (ahv L c)/\μ' (ren L k)=μ k):∀(vs:List V) (gs:List Value),dn μ m h vs gs->dn μ' m' h (Zz L vs) gs
 |[],gs,q=>q
 |v::vs,gs,q=>by simp only[Zz,dn] at q|-;obtain⟨g,gs',rfl,h1,h2⟩:=q;exact⟨g,gs',rfl,agZ hm v g h1,XU hm vs gs' h2⟩
end
open Classical in
def avq(R:Rel base U M0 w0 ν M nt w S G a)(hM:∀r c,get r M=some c->UO r=true)(L:List (Nat×Nat)):
  ∃G',Rel base U M0 w0 ν M nt w (amT L S) G' a/\(Gh U w G).le (Gh U w G'):=by
 simp only[amT];cases hc:acP L (S.mem.map (·.1)) with
 |false=>exact⟨G,R,View.le_refl _⟩
 |true=>
  simp only;simp only[acP,MS] at hc;obtain⟨hnd,himp⟩:=hc;have hinj:=ah0 hnd
  let inv:Nat->Nat:=λk'=>if h:∃k,k∈S.mem.map (·.1)/\ren L k=k' then h.choose else k'
  let F2:Nat->List Nat:=λk'=>if∃k,k∈S.mem.map (·.1)/\ren L k=k' then G.F (inv k') else[]
  have hinv:∀k,k∈S.mem.map (·.1)->inv (ren L k)=k:=by
   intro k hk;have hex:∃j,j∈S.mem.map (·.1)/\ren L j=ren L k:=⟨k,hk,rfl⟩
   simp only[inv,dif_pos hex];exact hinj _ _ hex.choose_spec.1 hk hex.choose_spec.2
  have hF2:∀k,k∈S.mem.map (·.1)->F2 (ren L k)=G.F k:=by
   intro k hk;have hex:∃j,j∈S.mem.map (·.1)/\ren L j=ren L k:=⟨k,hk,rfl⟩
   simp only[F2,if_pos hex,hinv k hk]
  have hF:∀r b,b∈F2 r->∃k,k∈S.mem.map (·.1)/\ren L k=r/\b∈G.F k:=by
   intro r b hb;simp only[F2] at hb;split at hb
   ·rename_i hex;obtain⟨k,h1,rfl⟩:=hex;rw[hinv k h1] at hb;exact⟨k,h1,rfl,hb⟩
   ·simp at hb
  have hex:∀b,excl F2 [] b->excl G.F G.E b:=by
   rintro b (hb|⟨r,hb⟩)
   ·simp at hb
   ·obtain⟨k,_,_,h⟩:=hF r b hb;exact .inr ⟨k,h⟩
  have hv:(Gh U w G).le (Gh U w ⟨G.μ ∘ inv,F2,[],[]⟩):=WQ (λ_ x=>x) hex;have hm:∀k c,get k S.mem=some c->get (ren L k) (VH L S.mem)=some (ahv L c)/\(G.μ ∘ inv) (ren L k)=G.μ k:=by intro k c hk;exact⟨ah1 hinj hk,by show G.μ (inv (ren L k))=_;rw[hinv k (agY hk)]⟩
  have hout:∀r,r ∉ G.out:=λr=>by rw[R.at_.out];simp
  refine⟨⟨G.μ ∘ inv,F2,[],[]⟩,⟨⟨⟨?_, ?_, ?_, ?_,by simp, ?_,R.at_.ok.up,R.at_.ok.bs, ?_, ?_⟩,rfl,rfl,R.at_.fr.less hex⟩, ?_,R.size,R.defers, ?_⟩,hv⟩
  ·intro r c' hr _;obtain⟨k,c,h1,rfl,rfl⟩:=abf hr;have hq:=R.at_.ok.cell k c h1 (hout k);show sG (G.μ ∘ inv) (VH L S.mem) (dU w) (Gh U w ⟨G.μ ∘ inv,F2,[],[]⟩) (ren L k) (ahv L c) (F2 (ren L k));rw[hF2 k (agY h1)];have hmu:=(hm k c h1).2;cases c with
   |dead=>exact hq
   |box t cs=>obtain⟨b,arr,e1,e2,e3,e4⟩:=hq;exact⟨b,arr,by rw[hmu];exact e1,e2,XU hm _ _ (sJ (sH _ _) hv _ _ e3),e4⟩
   |arr fz fl ver s rows=>
    cases fz with
    |true=>have hq':ro (Gh U w G) (.sl true s rows) (G.μ k)/\G.F k=[]:=hq;refine⟨?_,hq'.2⟩;rw[hmu];exact KP hv _ _ hq'.1
    |false=>have hq':abO (dU w) (Gh U w G) fl s rows (G.μ k) (G.F k):=hq;show abO (dU w) (Gh U w ⟨G.μ ∘ inv,F2,[],[]⟩) fl s rows ((G.μ ∘ inv) (ren L k)) (G.F k);rw[hmu];exact XJ hv (λ_ _=>rfl) hq'
   |qN t v=>obtain⟨e1,b,x,e2,e3,e4⟩:=hq;exact⟨e1,b,x,by rw[hmu];exact e2,hv _ _ _ e3,agZ hm _ _ (AQ (sH _ _) hv _ _ e4)⟩
  ·intro r r' hne b hb hb';obtain⟨k,_,rfl,h1⟩:=hF r b hb;obtain⟨k',_,rfl,h2⟩:=hF r' b hb';exact R.at_.ok.dj k k' (λe=>hne (by rw[e])) b h1 h2
  ·intro r b hb;simp
  ·intro r;simp only[F2];split
   ·exact R.at_.ok.nd _
   ·simp
  ·intro b hb;exact R.at_.ok.lt b (hex b hb)
  ·intro r hr;simp only[F2];split
   ·rename_i hq;obtain⟨k,h1,rfl⟩:=hq;obtain⟨⟨k2,c⟩,h2,h3⟩:=List.mem_map.1 h1;simp only at h3;subst h3;cases hg:get k2 S.mem with
    |none=>rw[hinv k2 h1];exact R.at_.ok.none_ _ hg
    |some c2=>rw[(hm k2 c2 hg).1] at hr;cases hr
   ·rfl
  ·intro r hr;simp at hr
  ·intro t v ht;obtain⟨u,h1,rfl⟩:=alz ht;obtain⟨h2,h3⟩:=R.tm t u h1;exact⟨h2,agZ hm u _ (AQ (sH _ _) hv _ _ h3)⟩
  ·intro r c hr;obtain⟨c',h1,h2⟩:=R.imp r c hr;have hk:=hM r c hr;have hir:=List.all_eq_true.1 himp r (agY h1);simp only[hk,aK] at hir;have her:=Hy hir;obtain⟨h3,h4⟩:=hm r c' h1;rw[her] at h3 h4;refine⟨_,h3, ?_⟩;cases c<;>cases c'<;>simp only[Np,ahv] at h2|-<;>first
    |exact⟨h2.1,h4.trans h2.2⟩
    |exact⟨h2.1,h2.2.1,λe=>⟨h4.trans (h2.2.2 e).1,(h2.2.2 e).2⟩⟩
    |exact⟨h2.1,λe=>⟨h4.trans (h2.2 e).1,(h2.2 e).2⟩⟩
    |exact h4.trans h2
    |trivial
    |exact h2
def axa(R:Rel base U M0 w0 ν M nt w S G a)(hM:∀r c,get r M=some c->UO r=true):
  ∃G',Rel base U M0 w0 ν M nt w (canon S) G' a/\(Gh U w G).le (Gh U w G'):=by
 unfold canon;cases aAX S.tm S.mem with
 |nil=>exact⟨G,R,View.le_refl _⟩
 |cons k o=>exact avq R hM _
def axb(R:Rel base U M0 w0 ν M nt w S G a)(hM:∀r c,get r M=some c->UO r=true){ts:List Nat}(h:prune ts S=some S'):
  ∃G',Rel base U M0 w0 ν M nt w S' G' a/\(Gh U w G).le (Gh U w G'):=by
 simp only[prune] at h;cases hp:abN ts S with
 |none=>simp[hp] at h
 |some S1=>simp only[hp,je] at h;subst h;obtain⟨G1,R1,v1⟩:=avp R hM hp;obtain⟨G2,R2,v2⟩:=axa R1 hM;exact⟨G2,R2,v1.trans' v2⟩
end
end Go.Vm
namespace Go.Vm
open Go
def XV{α:Type}{f:Nat->Option α}{x:α}(h:lim f=some x):∃n,f n=some x:=by
 unfold lim at h;split at h
 ·rename_i hx;have:=Classical.choose_spec hx;obtain⟨n,hn⟩:=this;simp only[je] at h;exact⟨n,by rw[hn,h]⟩
 ·cases h
def aGf:Ex->Exit
 | .normal=> .normal
 | .exit id=> .exit id
 | .ret=> .ret
section
variable {base:Nat} {U:Nat->Prop} {M0:List Nat} {w0:World} {ν:Nat->Value} {M:Mem} {nt:Nat} {X:Ctx} {K:lQ} {fn:Nat}
def aEA(base:Nat)(U:Nat->Prop)(M0:List Nat)(w0:World)(ν:Nat->Value)(M:Mem)(nt:Nat)(X:Ctx)(K:lQ)(fn:Nat):Prop:=
 ∀(id:Nat) (ops:Array Oper) (draw:Bool) (w:World) (S S':St) (G:GS) (a:Act) (Q:Exit->Act->World->Prop),Rel base U M0 w0 ν M nt w S G a->region X K fn id ops draw S=some S'->
  (∀w' G' a',Rel base U M0 w0 ν M nt w' S' G' a'->(Gh U w G).le (Gh U w' G')->Q .normal a' w')->(Code.region id ops draw).wp X.P Q a w
def axc(hR:aEA base U M0 w0 ν M nt X K fn)(c:Code):∀{w:World} {S S':St} {ex:Ex} {G:GS} {a:Act} {Q:Exit->Act->World->Prop},Rel base U M0 w0 ν M nt w S G a->den X K fn c S=some (ex,S')->
  (∀w' G' a',Rel base U M0 w0 ν M nt w' S' G' a'->(Gh U w G).le (Gh U w' G')->Q (aGf ex) a' w')->c.wp X.P Q a w:=by
 induction c with
 |skip=>intro w S S' ex G a Q R h hn;simp only[den,je,lN] at h;obtain⟨rfl,rfl⟩:=h;exact Go.wp_skip (hn _ _ _ R (View.le_refl _))
 |region id ops draw=>
  intro w S S' ex G a Q R h hn;simp only[den] at h;cases hr:region X K fn id ops draw S with
  |none=>simp[hr] at h
  |some S1=>simp only[hr,je,lN] at h;obtain⟨rfl,rfl⟩:=h;exact hR id ops draw w S S1 G a Q R hr hn
 |seq x y ihx ihy=>
  intro w S S' ex G a Q R h hn;simp only[den] at h;refine wp_seq ?_;cases hx:den X K fn x S with
  |none=>simp[hx] at h
  |some r=>
   obtain⟨e1,S1⟩:=r;rw[hx] at h;cases e1 with
   |normal=>simp only at h;exact ihx R hx λw1 G1 a1 R1 v1=>ihy R1 h λw' G' a' R' v'=>hn w' G' a' R' (v1.trans' v')
   |exit id=>simp only[je,lN] at h;obtain⟨rfl,rfl⟩:=h;exact ihx R hx λw1 G1 a1 R1 v1=>hn w1 G1 a1 R1 v1
   |ret=>simp only[je,lN] at h;obtain⟨rfl,rfl⟩:=h;exact ihx R hx λw1 G1 a1 R1 v1=>hn w1 G1 a1 R1 v1
 |cond c x y ihx ihy=>
  intro w S S' ex G a Q R h hn;simp only[den] at h;have hc:∀b,aa9 X.P S.tm c=some b->a.eval c=.bool b:=by
   intro b hb;have:=ZK (P:=X.P) R.tm 0 c;have he:ev X.P S.tm 0 c=.d (.bool b):=by
    unfold aa9 at hb;revert hb;generalize ev X.P S.tm 0 c=v;intro hb;cases v with
    |d x=>
     cases x with
     |bool b'=>exact congrArg (λq=>V.d (.bool q)) (Option.some.inj hb)
     |_=>cases hb
    |_=>cases hb
   rw[he] at this;simpa[aU,ro] using this
  cases hb:aa9 X.P S.tm c with
  |none=>simp[hb] at h
  |some b=>
   rw[hb] at h;cases b with
   |true=>exact wp_cond (hc _ hb) (ihx R h hn)
   |false=>exact wp_cond (hc _ hb) (ihy R h hn)
 |block id c ih=>
  intro w S S' ex G a Q R h hn;simp only[den] at h;refine wp_block ?_;cases hx:den X K fn c S with
  |none=>simp[hx] at h
  |some r=>
   obtain⟨e1,S1⟩:=r;rw[hx] at h;cases e1 with
   |normal=>simp only[je,lN] at h;obtain⟨rfl,rfl⟩:=h;exact ih R hx λw1 G1 a1 R1 v1=>hn w1 G1 a1 R1 v1
   |ret=>simp only[je,lN] at h;obtain⟨rfl,rfl⟩:=h;exact ih R hx λw1 G1 a1 R1 v1=>hn w1 G1 a1 R1 v1
   |exit j=>
    refine ih R hx λw1 G1 a1 R1 v1=> ?_
    simp only[aGf,Exit.inBlock]
    by_cases hj:j=id
    ·subst hj;simp only[Nat.beq_refl,aK,je,lN] at h;obtain⟨rfl,rfl⟩:=h;simp only[if_true];exact hn w1 G1 a1 R1 v1
    ·dsimp only at h;rw[wM hj] at h;simp only[bn,je,lN] at h;obtain⟨rfl,rfl⟩:=h;simp only[hj,if_false];exact hn w1 G1 a1 R1 v1
 |loop c ih=>
  intro w S S' ex G a Q R h hn;simp only[den,WO] at h;have hl:=XV h;clear h;obtain⟨n,h⟩:=hl;refine wp_loop_rounds n ?_;induction n generalizing w S G a with
  |zero=>simp[iter] at h
  |succ n ihn=>
   simp only[iter] at h;rw[rounds_succ];cases hx:den X K fn c S with
   |none=>simp[hx] at h
   |some r=>
    obtain⟨e1,S1⟩:=r;rw[hx] at h;cases e1 with
    |normal=>exact ih R hx λw1 G1 a1 R1 v1=>ihn R1 (λw' G' a' R' v'=>hn w' G' a' R' (v1.trans' v')) h
    |exit id=>simp only[je,lN] at h;obtain⟨rfl,rfl⟩:=h;exact ih R hx λw1 G1 a1 R1 v1=>hn w1 G1 a1 R1 v1
    |ret=>simp only[je,lN] at h;obtain⟨rfl,rfl⟩:=h;exact ih R hx λw1 G1 a1 R1 v1=>hn w1 G1 a1 R1 v1
 |exit id=>intro w S S' ex G a Q R h hn;simp only[den,je,lN] at h;obtain⟨rfl,rfl⟩:=h;exact wp_exit (hn _ _ _ R (View.le_refl _))
 |ret=>intro w S S' ex G a Q R h hn;simp only[den,je,lN] at h;obtain⟨rfl,rfl⟩:=h;exact wp_ret (hn _ _ _ R (View.le_refl _))
 |_=>intro w S S' ex G a Q R h hn;simp[den] at h
end
end Go.Vm
namespace Go.Vm
open Go
structure Eqv(S T:St):Prop where
 tm:∀t,get t S.tm=get t T.tm
 mem:∀k,get k S.mem=get k T.mem
def Eqv.refl(S:St):Eqv S S:=⟨λ_=>rfl,λ_=>rfl⟩
def Eqv.symm{S T:St}(h:Eqv S T):Eqv T S:=⟨λt=>(h.tm t).symm,λk=>(h.mem k).symm⟩
def Eqv.trans{S T V:St}(h:Eqv S T)(k:Eqv T V):Eqv S V:=⟨λt=>(h.tm t).trans (k.tm t),λj=>(h.mem j).trans (k.mem j)⟩
def abg{ops:Array Oper}{o:Oper}{tm VQ tm':mg}{b:Bool}(h:∀t,t∈o.looksAt ops->get t VQ=get t tm)(hw:Gn ops tm o=some (b,tm')):∃aYO,Gn ops VQ o=some (b,aYO):=by
 unfold Gn at hw|-;cases hg:o.guard with
 |none=>simp only[hg,je,lN] at hw;exact⟨VQ,by simp[hw.1]⟩
 |some jw=>
  obtain⟨j,want⟩:=jw;simp only[hg] at hw|-;cases hj:ops[j]? with
  |none=>simp[hj] at hw
  |some oj=>
   simp only[hj] at hw|-;cases hd:oj.dst with
   |none=>simp[hd] at hw
   |some d=>
    simp only[hd,aaY] at hw|-;rw[h d (by simp[Oper.looksAt,hg,hj,hd])];split at hw
    ·split at hw
     all_goals
      simp only[je,lN] at hw;exact⟨_,congrArg (λx=>some (x,_)) hw.1⟩
    ·split at hw
     ·simp only[je,lN] at hw;exact⟨_,congrArg (λx=>some (x,_)) hw.1⟩
     ·cases hw
    ·cases hw
section
variable {X:Ctx} {K:lQ} {fn:Nat} {ops:Array Oper}
def ZP{i:Nat}{o:Oper}{S S':St}{lg:Log}(ho:ops[i]? =some o)(h:Ee X K fn ops i S=some (S',lg)):
  (∀k,k ∉ lg.w->get k S'.mem=get k S.mem)/\(∀t,o.dst≠some t->get t S'.tm=get t S.tm)/\
  ∀T:St,(∀t,t∈o.looksAt ops->get t T.tm=get t S.tm)->(∀k,k∈lg.r->get k T.mem=get k S.mem)->
   ∃T',Ee X K fn ops i T=some (T',lg)/\(∀k,k∈lg.w->get k T'.mem=get k S'.mem)/\(∀k,k ∉ lg.w->get k T'.mem=get k T.mem)/\
    (∀t,o.dst=some t->get t T'.tm=get t S'.tm)/\(∀t,o.dst≠some t->get t T'.tm=get t T.tm):=by
 unfold Ee at h;simp only[ho] at h;have hdel:∀(tm:mg) t,o.dst≠some t->get t (ae7 (Zr X.P fn) o.dst tm)=get t tm:=by
  intro tm t ht;unfold ae7;cases ZA (Zr X.P fn) o.dst<;>cases hd:o.dst with
  |none=>rfl
  |some d=>first|exact Tf (λe=>ht (by rw[hd,e])) tm|exact ng (λe=>ht (by rw[hd,e])) _ tm
 have hput:∀(tm:mg) v t,o.dst≠some t->get t (aky o.dst v tm)=get t tm:=by
  intro tm v t ht;cases hd:o.dst with
  |none=>rfl
  |some d=>exact ng (λe=>ht (by rw[hd,e])) v tm
 cases hw:Gn ops S.tm o with
 |none=>simp[hw] at h
 |some bt=>
  obtain⟨b,tm⟩:=bt;have hsame:=Vf hw;cases b with
  |false=>
   simp only[hw,je,lN] at h;obtain⟨rfl,rfl⟩:=h;refine⟨λ_ _=>rfl,λt ht=>by rw[hdel tm t ht,hsame t],λT ht hk=> ?_⟩;obtain⟨VQ,hw2⟩:=abg ht hw;have am1:=Vf hw2;refine⟨⟨ae7 (Zr X.P fn) o.dst VQ,T.mem⟩, ?_,λk hk=>by simp[Log.none] at hk,λ_ _=>rfl, ?_,λt ht=>by rw[hdel VQ t ht,am1 t]⟩
   ·unfold Ee;simp only[ho,hw2]
   ·intro t htd;rw[htd];simp only[ae7,aAV,aky];cases ZA (Zr X.P fn) (some t) with
    |false=>simp only[bn];rw[P6,P6]
    |true=>simp only[aK];rw[jV,jV]
  |true=>
   simp only[hw] at h;cases hv:(vop X K fn tm o).run S.mem .none with
   |none=>simp[hv] at h
   |some r=>
    obtain⟨v,m',l⟩:=r;simp only[hv] at h;cases hd:ZA (Zr X.P fn) o.dst with
    |false=>simp[hd] at h
    |true=>
     simp only[hd,aK,je,lN] at h;obtain⟨rfl,rfl⟩:=h;obtain⟨R,W,e,h1,h2⟩:=avk _ hv;simp only[Log.none,List.append_nil] at e;subst e;refine⟨h1,λt ht=>by rw[hput tm v t ht,hsame t],λT ht hk=> ?_⟩;obtain⟨m2,q1,q2,q3⟩:=h2 T.mem .none hk;obtain⟨VQ,hw2⟩:=abg ht hw;have am1:=Vf hw2;refine⟨⟨aky o.dst v VQ,m2⟩, ?_,q2,q3, ?_,λt ht=>by rw[hput VQ v t ht,am1 t]⟩
     ·unfold Ee;have hc:vop X K fn VQ o=vop X K fn tm o:=avm λx hx i hi=>by rw[am1,hsame];exact ht i (by subst hi;exact List.mem_append_left _ (List.mem_filterMap.2 ⟨.tmp i,by simpa using hx,rfl⟩))
      simp only[ho,hw2,hc,q1,hd,aK];simp[Log.none]
     ·intro t htd;rw[htd];simp only[aky];rw[jV,jV]
def aeg{a b:List Nat}(h:aAZ a b=true):∀k,k∈a->k ∉ b:=λk hk=>VJ (List.all_eq_true.1 h k hk)
structure aox(ops:Array Oper)(i j:Nat)(li lj:Log):Prop where
 ex:∃a b,ops[i]? =some a/\ops[j]? =some b/\(∀d,a.dst=some d->d ∉ b.looksAt ops)/\(∀d,a.dst=some d->b.dst≠some d)/\(∀d,b.dst=some d->d ∉ a.looksAt ops)
 wr:∀k,k∈li.w->k ∉ lj.r
 ww:∀k,k∈li.w->k ∉ lj.w
 rw:∀k,k∈li.r->k ∉ lj.w
def swap{i j:Nat}{li lj:Log}{S S1 S2:St}(hI:aox ops i j li lj)(h1:Ee X K fn ops i S=some (S1,li))(h2:Ee X K fn ops j S1=some (S2,lj)):
  ∃T1 T2,Ee X K fn ops j S=some (T1,lj)/\Ee X K fn ops i T1=some (T2,li)/\Eqv S2 T2:=by
 obtain⟨a,b,ha,hb,i1,i2,i3⟩:=hI.ex;obtain⟨a1,a2,a3⟩:=ZP ha h1;obtain⟨b1,b2,b3⟩:=ZP hb h2;obtain⟨T1,c1,c2,c3,c4,c5⟩:=b3 S (λt ht=>(a2 t (λe=>i1 t e ht)).symm) (λk hk=>(a1 k (λhw=>hI.wr k hw hk)).symm);obtain⟨T2,d1,d2,d3,d4,d5⟩:=a3 T1 (λt ht=>c5 t (λe=>i3 t e ht)) (λk hk=>c3 k (hI.rw k hk));refine⟨T1,T2,c1,d1,λt=> ?_,λk=> ?_⟩
 ·by_cases hta:a.dst=some t
  ·rw[b2 t (λe=>i2 t hta e),d4 t hta]
  ·rw[d5 t hta]
   by_cases htb:b.dst=some t
   ·rw[c4 t htb]
   ·rw[c5 t htb,b2 t htb,a2 t hta]
 ·by_cases hka:k∈li.w
  ·rw[b1 k (hI.ww k hka),d2 k hka]
  ·rw[d3 k hka]
   by_cases hkb:k∈lj.w
   ·rw[c2 k hkb]
   ·rw[c3 k hkb,b1 k hkb,a1 k hka]
def Tr(X:Ctx)(K:lQ)(fn:Nat)(ops:Array Oper):List (Nat×Log)->St->St->Prop
 |[],S,S'=>S=S'
 |(i,l)::is,S,S'=>∃S1,Ee X K fn ops i S=some (S1,l)/\Tr X K fn ops is S1 S'
def ah2{i:Nat}{S S':St}{l:Log}(h:Ee X K fn ops i S=some (S',l)):∃o,ops[i]? =some o:=by
 cases ho:ops[i]? with
 |some o=>exact⟨o,rfl⟩
 |none=>simp[Ee,ho] at h
def avr{i:Nat}{S S1 T:St}{l:Log}(h:Ee X K fn ops i S=some (S1,l))(hE:Eqv S T):∃T1,Ee X K fn ops i T=some (T1,l)/\Eqv S1 T1:=by
 obtain⟨o,ho⟩:=ah2 h;obtain⟨a1,a2,a3⟩:=ZP ho h;obtain⟨T1,c1,c2,c3,c4,c5⟩:=a3 T (λt _=>(hE.tm t).symm) (λk _=>(hE.mem k).symm);refine⟨T1,c1,λt=> ?_,λk=> ?_⟩
 ·by_cases ht:o.dst=some t
  ·rw[c4 t ht]
  ·rw[c5 t ht,a2 t ht,hE.tm t]
 ·by_cases hk:k∈l.w
  ·rw[c2 k hk]
  ·rw[c3 k hk,a1 k hk,hE.mem k]
def Tr.eqv:∀{is:List (Nat×Log)} {S S' T:St},Tr X K fn ops is S S'->Eqv S T->∃T',Tr X K fn ops is T T'/\Eqv S' T'
 |[],S,S',T,h,hE=>⟨T,rfl,by cases h;exact hE⟩
 |(i,l)::is,S,S',T,⟨S1,h1,h2⟩,hE=>by obtain⟨T1,c1,e1⟩:=avr h1 hE;obtain⟨T',c2,e2⟩:=Tr.eqv h2 e1;exact⟨T',⟨T1,c1,c2⟩,e2⟩
def Tr.front{i:Nat}{l:Log}{post:List (Nat×Log)}:∀{pre:List (Nat×Log)} {S S':St},Tr X K fn ops (pre++(i,l)::post) S S'->(∀x,x∈pre->aox ops x.1 i x.2 l)->
  ∃S'',Tr X K fn ops ((i,l)::(pre++post)) S S''/\Eqv S' S''
 |[],S,S',h,_=>⟨S',h,Eqv.refl _⟩
 |(j,lj)::pre,S,S',⟨S1,h1,h2⟩,hI=>by obtain⟨T',⟨T1,t1,t2⟩,e1⟩:=Tr.front h2 (λx hx=>hI x (by simp[hx]));obtain⟨V1,V2,v1,v2,ev⟩:=swap (hI (j,lj) (by simp)) h1 t1;obtain⟨V',w1,e2⟩:=Tr.eqv t2 ev;exact⟨V',⟨V1,v1,V2,v2,w1⟩,e1.trans e2⟩
end
end Go.Vm
namespace Go.Vm
open Go
def Zh(acc:Array Nat)(o:Oper):Array Nat:=acc.push (o.after.foldl (λs e=>if Region.binds .any e then s|||2 ^ e.on|||acc.getD e.on 0 else s) 0)
def aoy(look:Nat->Nat)(j:Nat):∀(es:List Edge) (s:Nat),(es.foldl (λs e=>if Region.binds .any e then s|||2 ^ e.on|||look e.on else s) s).testBit j=true->
  s.testBit j=true\/∃e,e∈es/\Region.binds .any e=true/\(j=e.on\/(look e.on).testBit j=true)
 |[],s,h=> .inl h
 |e::es,s,h=>by
  simp only[List.foldl_cons] at h;rcases aoy look j es _ h with h|⟨e',h1,h2⟩
  ·cases hb:Region.binds .any e with
   |false=>simp only[hb,Bool.false_eq_true,if_false] at h;exact .inl h
   |true=>
    simp only[hb,if_true,Nat.testBit_or,Bool.or_eq_true] at h;rcases h with(h|h)|h
    ·exact .inl h
    ·rw[Nat.testBit_two_pow] at h;exact .inr ⟨e,by simp,hb,.inl (by simpa using(of_decide_eq_true h).symm)⟩
    ·exact .inr ⟨e,by simp,hb,.inr h⟩
  ·exact .inr ⟨e',by simp[h1],h2⟩
def aJE(l:List Oper):∀(acc:Array Nat),(l.foldl Zh acc).size=acc.size+l.length/\(∀i,i<acc.size->(l.foldl Zh acc).getD i 0=acc.getD i 0)/\
  ∀k j,((l.foldl Zh acc).getD (acc.size+k) 0).testBit j=true->∃o e,l[k]? =some o/\e∈o.after/\Region.binds .any e=true/\(j=e.on\/(e.on<acc.size+k/\((l.foldl Zh acc).getD e.on 0).testBit j=true)):=by
 induction l with
 |nil=>intro acc;refine⟨by simp,λi _=>rfl,λk j h=> ?_⟩;rw[List.foldl_nil,Array.getD,dif_neg ak] at h;simp at h
 |cons o l ih=>
  intro acc;obtain⟨s1,s2,s3⟩:=ih (Zh acc o);have hsz:(Zh acc o).size=acc.size+1:=by simp[Zh]
  rw[hsz] at s1 s2 s3;have hold:∀i,i<acc.size->(Zh acc o).getD i 0=acc.getD i 0:=by intro i hi;simp only[Zh,Array.getD_eq_getD_getElem?,Array.getElem?_push];rw[if_neg ak]
  refine⟨by rw[List.foldl_cons,s1,nS];omega,λi hi=>by rw[List.foldl_cons,s2 i ak,hold i hi],λk j h=> ?_⟩;rw[List.foldl_cons] at h|-;cases k with
  |zero=>
   rw[Nat.add_zero,s2 _ ak] at h;have hv:(Zh acc o).getD acc.size 0=o.after.foldl (λs e=>if Region.binds .any e then s|||2 ^ e.on|||acc.getD e.on 0 else s) 0:=by simp[Zh,Array.getD_eq_getD_getElem?]
   rw[hv,<-Array.foldl_toList] at h;rcases aoy (λi=>acc.getD i 0) j _ 0 h with h|⟨e,h1,h2,h3⟩
   ·simp at h
   ·refine⟨o,e,rfl,by simpa using h1,h2, ?_⟩;rcases h3 with h3|h3
    ·exact .inl h3
    ·have hlt:e.on<acc.size:=by
      rcases Nat.lt_or_ge e.on acc.size with h'|h'
      ·exact h'
      ·simp[Array.getD,Nat.not_lt.2 h'] at h3
     refine .inr ⟨ak, ?_⟩;rw[s2 _ ak,hold _ hlt];exact h3
  |succ k=>obtain⟨o',e,q1,q2,q3,q4⟩:=s3 k j (by rwa [show acc.size+(k+1)=acc.size+1+k by omega] at h);exact⟨o',e,by simpa using q1,q2,q3,q4.imp id fun⟨x,y⟩=>⟨ak,y⟩⟩
def ah3{ops:Array Oper}{i j:Nat}(h:ordered (Region.before ops) i j=true):∃o e,ops[i]? =some o/\e∈o.after/\Region.binds .any e=true/\(j=e.on\/(e.on<i/\ordered (Region.before ops) e.on j=true)):=by
 have he:Region.before ops=ops.toList.foldl Zh #[]:=by unfold Region.before;rw[<-Array.foldl_toList];rfl
 unfold ordered at h|-;rw[he] at h|-;obtain⟨o,e,h1,h2,h3,h4⟩:=(aJE ops.toList #[]).2.2 i j (by simpa using h);exact⟨o,e,by simpa using h1,h2,h3,by simpa using h4⟩
end Go.Vm
namespace Go.Vm
open Go
section
variable {base:Nat} {U:Nat->Prop} {M0:List Nat} {w0 w:World} {ν:Nat->Value} {M:Mem} {nt:Nat} {S T:St} {G:GS} {a:Act} {X:Ctx} {K:lQ} {fn:Nat} {ops:Array Oper}
def aeh(h:Eqv S T)(μ:Nat->Value):I9 μ S.mem μ T.mem:=λr c hc=>⟨c,by rw[<-h.mem r];exact hc,ae9 μ r c⟩
def Rel.eqv(R:Rel base U M0 w0 ν M nt w S G a)(h:Eqv S T):Rel base U M0 w0 ν M nt w T G a:=by
 have ok:=R.at_.ok;refine⟨⟨⟨?_,ok.dj,ok.djE,ok.nd,ok.ndE,ok.lt,ok.up,ok.bs, ?_,ok.out_⟩,R.at_.E,R.at_.out,R.at_.fr⟩, ?_,R.size,R.defers,wL R.imp (aeh h _)⟩
 ·intro r c hc ho;exact P5 (aeh h _) (View.le_refl _) rfl (λ_ _=>rfl) (ok.cell r c (by rw[h.mem r];exact hc) ho)
 ·intro r hr;exact ok.none_ r (by rw[h.mem r];exact hr)
 ·intro t v hv;obtain⟨h1,h2⟩:=R.tm t v (by rw[h.tm t];exact hv);exact⟨h1,AQ (aeh h _) (View.le_refl _) _ _ h2⟩
def Cl(ops:Array Oper)(listed:Array Bool):Prop:=∀k,listed.getD k false=true->∀o,ops[k]? =some o->∀e,e∈o.after->Region.binds .any e=true->listed.getD e.on false=true
def Cl.path{listed:Array Bool}(h:Cl ops listed):∀(k j:Nat),listed.getD k false=true->ordered (Region.before ops) k j=true->listed.getD j false=true:=by
 intro k;induction k using Nat.strongRecOn with
 |_ k ih=>
  intro j hk ho;obtain⟨o,e,h1,h2,h3,h4⟩:=ah3 ho;have he:=h k hk o h1 e h2 h3;rcases h4 with rfl|⟨h5,h6⟩
  ·exact he
  ·exact ih e.on h5 j he h6
def Ok(ops:Array Oper):List (Nat×Log)->Prop:=List.Pairwise λp q=>ordered (Region.before ops) q.1 p.1=true\/aox ops p.1 q.1 p.2 q.2
def afv:∀{L:List (Nat×Log)},ZB ops (Region.before ops) L=true->L.Pairwise λq p=>ordered (Region.before ops) q.1 p.1=true\/aox ops p.1 q.1 p.2 q.2
 |[],_=>List.Pairwise.nil
 |(i,l)::L,h=>by
  simp only[ZB,MS] at h;refine List.Pairwise.cons ?_ (afv h.2);rintro⟨j,l'⟩ hj;have:=List.all_eq_true.1 h.1 (j,l') hj;simp only[Bool.or_eq_true,MS] at this;rcases this with h1|⟨h1,h2⟩
  ·exact .inl h1
  ·right;cases ha:ops[i]? with
   |none=>simp[ha] at h2
   |some a=>
    cases hb:ops[j]? with
    |none=>simp[ha,hb] at h2
    |some b=>simp only[ha,hb] at h2;obtain⟨p1,p2,p3⟩:=Oper.apart_spec h2;simp only[Log.apart,MS] at h1;refine⟨⟨b,a,hb,ha,p3,λd hd he=>p2 d he hd,p1⟩,λk hk hr=>aeg h1.2 k hr hk,λk hk hr=>aeg h1.1.2 k hr hk,λk hk hr=>aeg h1.1.1 k hr hk⟩
end
end Go.Vm
namespace Go.Vm
open Go
section
variable {base:Nat} {U:Nat->Prop} {M0:List Nat} {w0 w:World} {ν:Nat->Value} {M:Mem} {nt:Nat} {S T:St} {G:GS} {a:Act} {X:Ctx} {K:lQ} {fn:Nat} {ops:Array Oper}
def alA:∀{is:List Nat} {S S':St} {L L':List (Nat×Log)},Pg X K fn ops is S L=some (S',L')->
  ∃T:List (Nat×Log),L'=T.reverse++L/\Tr X K fn ops T S S'/\T.map (·.1)=is
 |[],S,S',L,L',h=>by simp only[Pg,je,lN] at h;obtain⟨rfl,rfl⟩:=h;exact⟨[],rfl,rfl,rfl⟩
 |i::is,S,S',L,L',h=>by
  simp only[Pg] at h;cases h1:Ee X K fn ops i S with
  |none=>simp[h1] at h
  |some r=>obtain⟨S1,l1⟩:=r;simp only[h1] at h;obtain⟨T,e,t,m⟩:=alA h;exact⟨(i,l1)::T,by rw[e];simp,⟨S1,h1,t⟩,by simp[m]⟩
def abh:∀{l:List Oper} {n k:Nat} {o:Oper},ZC n l=true->l[k]? =some o->∀e,e∈o.after->Region.binds .any e=true->e.on<n+k
 |[],_,_,_,_,h=>by simp at h
 |o'::l,n,0,o,hb,h=>by simp only[List.getElem?_cons_zero,je] at h;subst h;simp only[ZC,MS] at hb;intro e he hbi;have:=List.all_eq_true.1 hb.1 e (by simpa using he);rw[hbi] at this;simpa using this
 |o'::l,n,k+1,o,hb,h=>by simp only[ZC,MS] at hb;intro e he hbi;have:=abh hb.2 (by simpa using h) e he hbi;omega
def aoz{k:Nat}{o:Oper}(hb:backOk ops=true)(h:ops[k]? =some o):∀e,e∈o.after->Region.binds .any e=true->e.on<k:=by intro e he hbi;have:=abh (n:=0) hb (k:=k) (o:=o) (by simpa using h) e he hbi;omega
def any_ok(hK:ab2 X K U M0 w0)(hnt:Zr X.P fn=nt)(hb:backOk ops=true){Q:Exit->Act->World->Prop}:∀(fuel:Nat) {listed:Array Bool} {L:List (Nat×Log)} {w:World} {S S':St} {G:GS} {a:Act}
  (_:L.length<=fuel) (_:listed.size=ops.size) (_:Cl ops listed) (_:∀i,i<ops.size->(listed.getD i true=false↔i∈L.map (·.1))) (_:(L.map (·.1)).Nodup)
  (_:Ok ops L) (_:Tr X K fn ops L S S') (_:Rel base U M0 w0 ν M nt w S G a)
  (_:∀w' G' a',Rel base U M0 w0 ν M nt w' S' G' a'->(Gh U w G).le (Gh U w' G')->Q .normal a' w'),wpAny X.P .any ops Q fuel listed a w
 |0,listed,L,w,S,S',G,a,hf,hs,hcl,hl,hnd,hok,htr,R,hn=>by have:L=[]:=List.length_eq_zero_iff.1 (Nat.le_zero.1 hf);subst this;cases htr;refine⟨?_,hn w G a R (View.le_refl _)⟩;rw[List.eq_nil_iff_forall_not_mem];intro i hi;obtain⟨h1,o,h2,_⟩:=mem_ready.1 hi;have hlt:i<ops.size:=(Array.getElem?_eq_some_iff.1 h2).1;simpa using(hl i hlt).1 h1
 |fuel+1,listed,L,w,S,S',G,a,hf,hs,hcl,hl,hnd,hok,htr,R,hn=>by
  refine⟨λhr=> ?_,λi hi=> ?_⟩
  ·have hL:L=[]:=by
    rw[List.eq_nil_iff_forall_not_mem];have hall:∀i,i ∉ L.map (·.1):=by
     intro i;induction i using Nat.strongRecOn with
     |_ i ih=>
      intro hi;have hlt:i<ops.size:=by
       rcases Nat.lt_or_ge i ops.size with h|h
       ·exact h
       ·obtain⟨⟨i',l⟩,hx,rfl⟩:=List.mem_map.1 hi;exfalso;have:∀{L:List (Nat×Log)} {S S':St},Tr X K fn ops L S S'->∀x,x∈L->∃o,ops[x.1]? =some o:=by
         intro L;induction L with
         |nil=>intro _ _ _ x hx;simp at hx
         |cons y L ihL=>
          rintro S S' ⟨S1,h1,h2⟩ x hx;rcases List.mem_cons.1 hx with rfl|hx
          ·exact ah2 h1
          ·exact ihL h2 x hx
        obtain⟨o,ho⟩:=this htr _ hx;have:=(Array.getElem?_eq_some_iff.1 ho).1;simp at this h;omega
      have hni:i ∉ Region.ready .any ops listed:=by rw[hr];simp
      apply hni;rw[mem_ready];refine⟨(hl i hlt).2 hi,ops[i],by simp[hlt],λe he hbi=> ?_⟩;have hei:=aoz hb (k:=i) (by simp[hlt]) e he hbi;have hel:e.on<ops.size:=Nat.lt_trans hei hlt;have:=ih e.on hei;rw[<-hl e.on hel] at this;have hsz:e.on<listed.size:=by rw[hs];exact hel
      simp only[Array.getD,hsz,dite_true] at this|-;simpa using this
    intro x hx;exact hall x.1 (List.mem_map.2 ⟨x,hx,rfl⟩)
   subst hL;cases htr;exact hn w G a R (View.le_refl _)
  ·obtain⟨h1,o,h2,h3⟩:=mem_ready.1 hi;have hlt:i<ops.size:=(Array.getElem?_eq_some_iff.1 h2).1;obtain⟨⟨i',l⟩,hx,rfl⟩:=List.mem_map.1 ((hl i hlt).1 h1);obtain⟨pre,post,rfl⟩:=List.append_of_mem hx;simp only at h1 h2 h3 hlt hi;have hsz:i'<listed.size:=by rw[hs];exact hlt
   have hun:∀x,x∈pre->listed.getD x.1 false=false/\x.1<ops.size:=by
    intro x hxp;have hxo:∃o,ops[x.1]? =some o:=by
     have:∀{L:List (Nat×Log)} {S S':St},Tr X K fn ops L S S'->∀x,x∈L->∃o,ops[x.1]? =some o:=by
      intro L;induction L with
      |nil=>intro _ _ _ x hx;simp at hx
      |cons y L ihL=>
       rintro S S' ⟨S1,h1,h2⟩ x hx;rcases List.mem_cons.1 hx with rfl|hx
       ·exact ah2 h1
       ·exact ihL h2 x hx
     exact this htr x (by simp[hxp])
    obtain⟨ox,hox⟩:=hxo;have hxl:=(Array.getElem?_eq_some_iff.1 hox).1;have:=(hl x.1 hxl).2 (List.mem_map.2 ⟨x,by simp[hxp],rfl⟩);have hsx:x.1<listed.size:=by rw[hs];exact hxl
    simp only[Array.getD,hsx,dite_true] at this|-;exact⟨this,hxl⟩
   have aYP:∀x,x∈pre->aox ops x.1 i' x.2 l:=by
    intro x hxp;have:=(List.pairwise_append.1 hok).2.2 x hxp (i',l) (by simp);rcases this with ho|ho
    ·exfalso;obtain⟨o',e,q1,q2,q3,q4⟩:=ah3 ho;simp only at q1;rw[h2] at q1;cases q1;have hel:=h3 e q2 q3;have hx0:=(hun x hxp).1;rcases q4 with q4|⟨_,q4⟩
     ·rw[q4,hel] at hx0;cases hx0
     ·rw[hcl.path e.on x.1 hel q4] at hx0;cases hx0
    ·exact ho
   obtain⟨S'',⟨S1,r1,r2⟩,hE⟩:=Tr.front htr aYP;refine aow hK hnt R r1 λw1 G1 a1 R1 v1=> ?_
   have hnd':((pre++post).map (·.1)).Nodup/\i' ∉(pre++post).map (·.1):=by
    have h':(pre.map (·.1)++i'::post.map (·.1)).Nodup:=by simpa using hnd
    have h'':=(List.perm_middle (a:=i') (l₁:=pre.map (·.1)) (l₂:=post.map (·.1))).nodup_iff.1 h';rw[List.nodup_cons] at h'';exact⟨by simpa using h''.2,by simpa using h''.1⟩
   refine any_ok hK hnt hb fuel (L:=pre++post) ?_ ?_ ?_ ?_ hnd'.1 ?_ r2 R1 ?_
   ·simp at hf|-;omega
   ·simp[hs]
   ·intro k hk o' ho' e he hbd
    by_cases hki:k=i'
    ·subst hki;rw[h2] at ho';cases ho';have:=h3 e he hbd
     by_cases hei:k=e.on
     ·simp[Array.getD,<-hei,hsz]
     ·rw[getD_set_ne false hei];exact this
    ·rw[getD_set_ne false (Ne.symm hki)] at hk;have:=hcl k hk o' ho' e he hbd
     by_cases hei:i'=e.on
     ·simp[Array.getD,<-hei,hsz]
     ·rw[getD_set_ne false hei];exact this
   ·intro k hk
    by_cases hki:k=i'
    ·subst hki;have e1:(listed.setIfInBounds k true).getD k true=true:=by simp[Array.getD,hsz]
     rw[e1];exact⟨λh=>by simp at h,λh=>absurd h hnd'.2⟩
    ·rw[getD_set_ne true (Ne.symm hki),hl k hk];simp[hki]
   ·have h':=List.pairwise_append.1 hok;exact List.pairwise_append.2 ⟨h'.1,(List.pairwise_cons.1 h'.2.1).2,λx hx y hy=>h'.2.2 x hx y (by simp[hy])⟩
   ·intro w' G' a' R' v';exact hn w' G' a' (R'.eqv hE.symm) (v1.trans' v')
def avs(hK:ab2 X K U M0 w0)(hnt:Zr X.P fn=nt)(hM:∀r c,get r M=some c->UO r=true):aEA base U M0 w0 ν M nt X K fn:=by
 intro id ops draw w S S' G a Q R h hn;simp only[region] at h;cases hr:KO X K fn id ops draw S with
 |none=>simp[hr] at h
 |some r=>
  obtain⟨S1,L⟩:=r;simp only[hr] at h;have hfin:prune (X.UN.keep fn id) S1=some S'->∀w1 G1 a1,Rel base U M0 w0 ν M nt w1 S1 G1 a1->(Gh U w G).le (Gh U w1 G1)->Q .normal a1 w1:=by intro hp w1 G1 a1 R1 v1;obtain⟨G2,R2,v2⟩:=axb R1 hM hp;exact hn w1 G2 a1 R2 (v1.trans' v2)
  simp only[KO] at hr;cases draw with
  |false=>simp only[aK] at h;exact wp_region (avo hK hnt R hr (hfin h))
  |true=>
   simp only at h;cases hc:(X.P.follows .mixedOrders &&(backOk ops && ZB ops (Region.before ops) L)) with
   |false=>simp[hc] at h
   |true=>
    simp only[hc,aK] at h;simp only[MS] at hc;obtain⟨hm,hb,hd⟩:=hc;obtain⟨T,e,ht,hmp⟩:=alA hr;simp only[List.append_nil] at e;subst e;have hok:Ok ops T:=by have:=afv hd;rw[List.pairwise_reverse] at this;exact this
    have hlen:T.length=ops.size:=by have:=congrArg List.length hmp;simpa using this
    have hR':Rel base U M0 w0 ν M nt {w with drawn:=w.drawn+1} S G a:=by have ok:=R.at_.ok;have fr:=R.at_.fr;have kp:=fr.keep;exact⟨⟨⟨ok.cell,ok.dj,ok.djE,ok.nd,ok.ndE,ok.lt,ok.up,ok.bs,ok.none_,ok.out_⟩,R.at_.E,R.at_.out,⟨⟨kp.os,kp.tape,kp.output,kp.size,kp.block⟩,fr.fr⟩⟩,R.tm,R.size,R.defers,R.imp⟩
    refine wp_region_any hm (any_ok hK hnt hb ops.size (L:=T) ak (by simp) ?_ ?_ ?_ hok ht hR' ?_)
    ·intro k hk;simp[Array.getD] at hk
    ·intro i hi;simp[Array.getD,hi,hmp]
    ·rw[hmp];exact List.nodup_range
    ·intro w' G' a' R' v';exact hfin h w' G' a' R' v'
end
end Go.Vm
namespace Go.Vm
open Go
section
variable {base:Nat} {U:Nat->Prop} {w:World} {X:Ctx}
def avt{f i:Nat}{fl:Bool}{m:Mem}{G:GS}{v v':V}{g:Value}{N N1 N2 E:List Nat}(hg:Iu base U w m G)(ho:G.out=[])(hN:N=N1++N2)(hE:(N++E).Perm G.E)
  (hq:match JO X.UN f i with
   |1=>∃x,v=.d x/\ow (dU w) (Gh U w G) x g N1
   |_=>N1=[]/\aU G.μ m (Gh U w G) v g) {m':Mem} {l l':Log} (h:(asw X.UN f i fl v).run m l=some (v',m',l')):
  ∃G',Iu base U w m' G'/\GLe m G m' G'/\(N2++E).Perm G'.E/\G'.out=[]/\aU G'.μ m' (Gh U w G') v' g:=by
 subst hN;rw[NI] at hE;unfold asw at h;split at hq
 ·rename_i hmo;obtain⟨x,rfl,hx⟩:=hq;rw[hmo] at h;simp only at h;have hdef:∀y,ow (dU w) (Gh U w G) y g N1->(Pure.pure (V.d (roD y)):Acc V).run m l=some (v',m',l')->
    ∃G',Iu base U w m' G'/\GLe m G m' G'/\(N2++E).Perm G'.E/\G'.out=[]/\aU G'.μ m' (Gh U w G') v' g:=by
   intro y hy h;simp only[run_pure,je,lN] at h;obtain⟨rfl,rfl,rfl⟩:=h;obtain⟨d1,d2,d3⟩:=hg.ahI hE;refine⟨_,d1,d2,List.Perm.refl _,ho, ?_⟩;simp only[aU];exact awT (d3 hy)
  split at h
  ·rename_i s rows he;cases he;replace h:=aj h;obtain⟨x1,m1,l1,h1,h⟩:=h;simp only[run_pure,je,lN] at h;obtain⟨rfl,rfl,rfl⟩:=h;obtain⟨G1,g1,s1⟩:=ali hg (λr hr=>by rw[ho] at hr;simp at hr) hE hx h1;exact⟨G1,g1.ok,g1.le,by rw[g1.E],g1.out.trans ho,s1⟩
  ·rename_i y hne he;cases he;exact hdef _ hx h
  ·exact(ay h).elim
 ·rename_i hmo;obtain⟨rfl,hs⟩:=hq;split at h
  ·rename_i e;exact absurd e hmo
  ·simp only[run_pure,je,lN] at h;obtain⟨rfl,rfl,rfl⟩:=h;exact⟨G,hg,GLe.refl _ _,by simpa using hE,ho,hs⟩
def ah4{f:Nat}:∀{vs:List V} {i:Nat} {ts:List TypeId} {gs:List Value} {m:Mem} {G:GS} {N E:List Nat} (_:Iu base U w m G) (_:G.out=[]) (_:(N++E).Perm G.E)
  (_:VK X.UN f G.μ m (dU w) (Gh U w G) i vs gs N) {tm:mg} {m':Mem} {l l':Log} (_:(acQ X f i ts vs).run m l=some (tm,m',l')),
  ∃G',Came base U w m G m' G' E/\∀t v,get t tm=some v->∃k g,t=i+k/\gs[k]? =some g/\aU G'.μ m' (Gh U w G') v g
 |[],i,ts,gs,m,G,N,E,hg,ho,hE,hq,tm,m',l,l',h=>by simp only[acQ,run_pure,je,lN] at h;obtain⟨rfl,rfl,rfl⟩:=h;obtain⟨d1,d2,_⟩:=hg.ahI hE;exact⟨_,⟨d1,d2,rfl,ho⟩,λt v ht=>by simp[get] at ht⟩
 |v::vs,i,ts,gs,m,G,N,E,hg,ho,hE,hq,tm,m',l,l',h=>by
  simp only[VK] at hq;obtain⟨g,gs',N1,N2,rfl,hN,q1,q2⟩:=hq;simp only[acQ] at h;replace h:=aj h;obtain⟨v1,m1,l1,h1,h⟩:=h;replace h:=aj h;obtain⟨r,m2,l2,h2,h⟩:=h;simp only[run_pure,je,lN] at h;obtain⟨rfl,rfl,rfl⟩:=h;obtain⟨G1,g1,le1,e1,o1,s1⟩:=avt hg ho hN hE q1 h1;have q2':=XK (A:=X.UN) (f:=f) le1.mem le1.view (H':=dU w) (λ_ _=>rfl) q2;obtain⟨G2,c2,s2⟩:=ah4 g1 o1 e1 q2' h2;refine⟨G2,⟨c2.ok,le1.trans c2.le,c2.E,c2.out⟩,λt u ht=> ?_⟩;simp only[get] at ht
  by_cases hti:t=i
  ·subst hti;simp only[Nat.beq_refl,aK,je] at ht;subst ht;exact⟨0,g,by simp,rfl,c2.le.aU s1⟩
  ·rw[wM hti] at ht;simp only[bn] at ht;obtain⟨k,g',e,hk,hs⟩:=s2 t u ht;exact⟨k+1,g',ak,by simpa using hk,hs⟩
def afw{A:Adv}{f:Nat}{μ:Nat->Value}{m:Mem}{H:Heap}{h:View}:∀{vs:List V} {i:Nat} {gs:List Value} {N:List Nat},VK A f μ m H h i vs gs N->gs.length=vs.length
 |[],_,_,_,q=>by simp only[VK] at q;simp[q.1]
 |v::vs,i,_,_,q=>by simp only[VK] at q;obtain⟨g,gs',N1,N2,rfl,_,_,q2⟩:=q;simp[afw q2]
def Xr{H:Heap}{h:View}:∀{cs:List Cell} {gs:List Value} {N:List Nat},cellsB H h cs gs N->gs.length=cs.length
 |[],_,_,q=>by simp[q.1]
 |c::cs,_,_,⟨g,gs',N1,N2,e,_,_,q⟩=>by subst e;simp[Xr q]
def ah5{H:Heap}{h:View}{c:Cell}{g:Value}{N:List Nat}(q:aoj H h c g N):sameKind c c:=by
 cases c with
 |box t vs=>exact rfl
 |arr fz fl ver s rows=>obtain⟨_,hv,_⟩:=q;exact⟨hv,hv,rfl,rfl⟩
 |dead=>exact q
 |qN _ _=>exact q
def aei{H:Heap}{h:View}{m:Mem}:∀{cs:List Cell} {k:Nat} {gs:List Value} {N:List Nat},(∀i,get (sF+(k+i)) m=cs[i]?)->cellsB H h cs gs N->kinds m ((List.range' k cs.length).map (sF+ ·)) cs
 |[],k,gs,N,_,_=>by simp[kinds]
 |c::cs,k,_,_,hm,⟨g,gs',N1,N2,e,_,q1,q2⟩=>by rw[nS,List.range'_succ,RQ];refine⟨c,c,cs,rfl,by have:=hm 0;simpa using this,ah5 q1,aei (λi=> ?_) q2⟩;have:=hm (i+1);rw[show k+1+i=k+(i+1) by omega];simpa using this
def ah6(n:Nat):xG n=(List.range' 0 n).map (sF+ ·):=by rw[xG,List.range_eq_range']
def abj(n:Nat):(xG n).Nodup:=by unfold xG;exact List.Pairwise.map _ (λa b h e=>h (Nat.add_left_cancel e)) List.nodup_range
def afx{n i:Nat}(h:i<n):(xG n)[i]? =some (sF+i):=by simp[xG,h]
def ah7(n:Nat):(xG n).length=n:=by simp[xG]
def afy(gs:List Value):(xG gs.length).map (impμ gs)=gs:=by
 apply List.ext_getElem?;intro i;rw[List.getElem?_map]
 by_cases h:i<gs.length
 ·rw[afx h];simp[impμ,h]
 ·rw[List.getElem?_eq_none (by rw[ah7];omega),List.getElem?_eq_none ak];rfl
def UR:∀{cs:List Cell} {k r:Nat} {c:Cell},get r (uP k cs)=some c->∃i,r=sF+(k+i)/\cs[i]? =some c
 |[],_,_,_,h=>by simp[uP,get] at h
 |c'::cs,k,r,c,h=>by
  simp only[uP,get] at h
  by_cases e:r=sF+k
  ·subst e;simp only[Nat.beq_refl,aK,je] at h;exact⟨0,by simp,by simp[h]⟩
  ·rw[wM e] at h;simp only[bn] at h;obtain⟨i,h1,h2⟩:=UR h;exact⟨i+1,ak,by simpa using h2⟩
def axd{f:Nat}{fn:Func}{args:List V}{cells:List Cell}{gargs jB:List Value}{N1 N2:List Nat}(hG:Given X base U w f args cells gargs jB N1 N2){tm:mg}{m':Mem}{l':Log}
  (h:(entry X f fn args cells).run (uP 0 cells) .none=some (tm,m',l')) (hn:args.length<=fn.ntmps):
  ∃G,Rel base U (N1++N2) w (impμ jB) (uP 0 cells) fn.ntmps w ⟨tm,m'⟩ G {tmps:=gargs.toArray++Array.replicate (fn.ntmps - gargs.toArray.size) undef,defers:=[]}:=by
 simp only[entry] at h;replace h:=aj h;obtain⟨_,m1,l1,h1,h⟩:=h;have hlen:=Xr hG.cells;have aGg:∀b,excl (λ_=>[]) (N1++N2) b↔b∈N1++N2:=by
  intro b;constructor
  ·rintro(hb|⟨r,hb⟩)
   ·exact hb
   ·simp at hb
  ·exact λhb=> .inl hb
 have hg0:Iu base U w (uP 0 cells) ⟨impμ jB,λ_=>[],N1++N2,xG cells.length⟩:=by
  refine⟨?_, ?_, ?_, ?_,hG.nd, ?_,hG.up,hG.bs, ?_, ?_⟩
  ·intro r c hr hro;exfalso;apply hro;obtain⟨i,e,hi⟩:=UR hr;have hil:i<cells.length:=(PU.1 hi).1;show r∈xG cells.length;rw[e,xG];exact List.mem_map.2 ⟨0+i,List.mem_range.2 ak,rfl⟩
  ·intro r r' _ b hb;simp at hb
  ·intro r b hb;simp at hb
  ·intro r;simp
  ·intro b hb;exact hG.lt b ((aGg b).1 hb)
  ·intro r _;rfl
  ·intro r _;rfl
 have hv:(view w U (· ∈N1++N2)).le (Gh U w ⟨impμ jB,λ_=>[],N1++N2,xG cells.length⟩):=WQ (λ_ x=>x) (λb hb=>(aGg b).1 hb);have hk0:kinds (uP 0 cells) (xG cells.length) (cells.drop 0):=by rw[List.drop_zero,ah6];exact aei (λi=>by rw[Nat.zero_add];exact WS cells i) hG.cells
 obtain⟨G1,c1⟩:=ahN (i:=0) (N:=N2) (E:=N1) hg0 (abj _) rfl hk0 List.perm_append_comm (by rw[List.drop_zero,<-hlen,afy];exact Ux hv hG.cells) h1;obtain⟨G2,c2,s2⟩:=ah4 (N:=N1) (E:=[]) c1.ok c1.out (by rw[c1.E];simp) (XK c1.le.mem (hv.trans' c1.le.view) (λ_ _=>rfl) hG.args) h;have hal:=afw hG.args;refine⟨G2,⟨c2.ok,c2.E,c2.out,⟨Keep.refl _ _,λb hb=> .inl ((aGg b).1 (c1.le.ex b (c2.le.ex b hb)))⟩⟩, ?_, ?_,rfl,wL c1.le.mem c2.le.mem⟩
 ·intro t v ht;obtain⟨k,g,e,hk,hs⟩:=s2 t v ht;have hkl:k<gargs.length:=(PU.1 hk).1;have ht':t<(gargs.toArray++Array.replicate (fn.ntmps - gargs.toArray.size) undef).size:=by simp;omega
  refine⟨ht', ?_⟩;have:(gargs.toArray++Array.replicate (fn.ntmps - gargs.toArray.size) undef).getD t undef=g:=by rw[Array.getD_eq_getD_getElem?,Array.getElem?_append_left (by simp;omega)];have:t=k:=ak;subst this;simp[hk]
  simp only[this];exact hs
 ·simp;omega
end
end Go.Vm
namespace Go.Vm
open Go
section
variable {base:Nat} {U:Nat->Prop} {w:World} {X:Ctx} {P:Program}
def am2(tmps:Array Value):ResultVar->Sem Value
 | .tmp t=>pure (tmps.getD t undef)
 | .cell a t=>do loadVar t (<-asAddr (tmps.getD a undef))
def abk{α:Type}(f:α->Sem Value):∀(l:List α) (gs:List Value),(∀(i:Nat) x,l[i]? =some x->∃g,gs[i]? =some g/\(f x).run P w=.ok g w)->l.length=gs.length->(l.mapM f).run P w=.ok gs w
 |[],gs,_,hl=>by have:gs=[]:=List.length_eq_zero_iff.1 hl.symm;subst this;rfl
 |x::l,gs,h,hl=>by
  cases gs with
  |nil=>simp at hl
  |cons g gs=>obtain⟨g',h1,h2⟩:=h 0 x rfl;simp only[List.getElem?_cons_zero,je] at h1;subst h1;have ih:=abk f l gs (λi y hy=>by simpa using h (i+1) y (by simpa using hy)) (by simpa using hl);rw[List.mapM_cons];simp only[Sem.run_bind,h2,Result.andThen_ok,ih];rfl
def afz{fn:Func}{tmps:Array Value}{gs:List Value}(h:∀(i:Nat) x,fn.results.toList[i]? =some x->∃g,gs[i]? =some g/\(am2 tmps x).run P w=.ok g w)(hl:fn.results.toList.length=gs.length):
  (results fn tmps).run P w=.ok (ab1 gs) w:=by
 have hm:=abk (P:=P) (w:=w) (am2 tmps) fn.results.toList gs h hl;have e:results fn tmps=(do
  let vs<-fn.results.mapM (am2 tmps)
  pure (if h:vs.size=1 then vs[0] else .tuple vs)):=by
  unfold results
  first
   |rfl
   |(congr 1;done)
   |(congr 1;congr 1;done)
 rw[e,Array.mapM_eq_mapM_toList];simp only[map_eq_pure_bind,Sem.run_bind,hm,Result.andThen_ok,Sem.run_pure];congr 1;unfold ab1;cases gs with
 |nil=>rfl
 |cons g gs=>cases gs with
  |nil=>simp
  |cons _ _=>simp
def aoA{m0:Mem}{G:GS}{T:TypeId}{v:V}{g:Value}(hg:Iu base U w m0 G)(ho:G.out=[])(hx:aU G.μ m0 (Gh U w G) v g){row:Row}{m':Mem}{l l':Log}(h:(ahx T v).run m0 l=some (row,m',l')):
  ∃G' N g',PV base U w m0 G m' G' N/\g=g'/\∃b a N1,g'=.pointer (some ⟨b,0,none⟩)/\dU w b=some (.cells a T (0,0))/\jE (dU w) (Gh U w G') row a.toList N1/\row.length=a.size/\N=b::N1:=by
 unfold ahx at h;split at h
 ·rename_i r off;replace h:=aj h;obtain⟨c,m2,l2,h2,h⟩:=h;rw[zD] at h2;cases h2;cases hc:get r m0 with
  |none=>rw[hc] at h;exact(ay h).elim
  |some c=>
   rw[hc] at h;cases c with
   |arr _ _ _ _ _=>exact(ay h).elim
   |dead=>exact(ay h).elim
   |qN _ _=>exact(ay h).elim
   |box T' cs=>
    simp only at h;replace h:=aj h;obtain⟨_,m2,l2,h2,h⟩:=h;obtain⟨hck,rfl,rfl⟩:=eH h2;simp only[MS] at hck;have e1:=Hy hck.1;have e2:=Hy hck.2;subst e1 e2;replace h:=aj h;obtain⟨_,m3,l3,h3,h⟩:=h;rw[P7] at h3;cases h3;have hr:r ∉ G.out:=by simp[ho]
    obtain⟨b,a,q1,q2,q3,q4⟩:=hg.cell r _ hc hr;simp only[aU,hc] at hx;obtain⟨_,b',hμ,rfl⟩:=hx;rw[hμ] at q1;cases q1;have hbF:b∈G.F r:=by rw[q4];simp
    have hle:=Iw (μ:=G.μ) (μ':=G.μ) (c':=.dead) (λ_ _=>rfl) (λc h=>by rw[hc] at h;cases h;trivial);obtain⟨k1,k2⟩:=hg.set r .dead G.μ [] (G.E++[b]) G.out (by
     simpa using List.nodup_append.2 ⟨hg.ndE,by simp,λx hx y hy e=>by simp only[List.mem_singleton] at hy;subst hy;subst e;exact hg.djE r _ hbF hx⟩) (by
     simp only[List.nil_append,List.mem_append,List.mem_singleton];rintro x (hx|rfl)
     ·exact .inr hx
     ·exact .inl hbF) hle (λ_ _=>rfl) (λ_ _=>Iff.rfl) (λ_=>rfl) (λ_ _=>rfl)
    have t0:PV base U w _ G _ ⟨G.μ,upF G.F r [],G.E++[b],G.out⟩ [b]:=⟨k1,k2,rfl,rfl,rfl⟩
    obtain⟨G',N,t1,p1,hl⟩:=VI k1 (k2.dn q3) ho h;exact⟨G',[b]++N,_,t0.trans t1,rfl,b,a,N,rfl,q2,p1,by rw[hl,<-kT q3,Array.length_toList],rfl⟩
 ·exact(ay h).elim
def avu{m:Mem}{G:GS}{tm:mg}{a:Act}{r:ResultVar}{t:TypeId}(hg:Iu base U w m G)(ho:G.out=[])(hT:acW G.μ m (Gh U w G) tm a){row:Row}{m':Mem}{l l':Log}(h:(amU P tm r t).run m l=some (row,m',l')):
  ∃G' N g,PV base U w m G m' G' N/\(am2 a.tmps r).run P w=.ok g w/\ahK P (dU w) (Gh U w G') t row g N:=by
 cases r with
 |tmp x=>
  simp only[amU] at h;have hx:=ZK (P:=P) hT 0 (.tmp x);simp only[ev] at hx;cases hpt:ahp P t with
  |some T=>rw[hpt] at h;simp only[ahK,hpt];obtain⟨G',N,g,t1,hg1,q1⟩:=aoA hg ho hx h;exact⟨G',N,g,t1,by rw[<-hg1];rfl,q1⟩
  |none=>
  rw[hpt] at h;simp only[P8 hpt];have hgo:∀v:V,aU G.μ m (Gh U w G) v (a.eval (.tmp x))->Us P t=false->(PZ [v]).run m l=some (row,m',l')->
    ∃G' N g,PV base U w m G m' G' N/\(am2 a.tmps (.tmp x)).run P w=.ok g w/\∃cs,valOf P t cs g/\jE (dU w) (Gh U w G') row cs N/\row.length=cs.length:=by
   intro v hv ht h;obtain⟨G',N,t1,q1,hl⟩:=VI hg (vs:=[v]) (gs:=[a.eval (.tmp x)]) (by simp only[dn];exact⟨_,_,rfl,hv,rfl⟩) ho h;exact⟨G',N,a.eval (.tmp x),t1,rfl,[a.eval (.tmp x)],by simp[valOf,ht],q1,by rw[hl];rfl⟩
  cases ht:Us P t with
  |true=>
   rw[ht] at h;cases hv:aaY x tm with
   |agg cs=>rw[hv] at h hx;simp only[aU] at hx;obtain⟨arr,e,hs⟩:=hx;obtain⟨G',N,t1,q1,hl⟩:=VI hg hs ho h;refine⟨G',N,_,t1,rfl,arr.toList, ?_,q1,by rw[hl,kT hs]⟩;simp only[valOf,ht,if_true];exact e
   |_=>rw[hv] at h;exact(ay h).elim
  |false=>
   rw[ht] at h;cases hv:aaY x tm with
   |agg cs=>rw[hv] at h;exact(ay h).elim
   |_=>rw[hv] at h hx;exact hgo _ hx ht h
 |cell y T=>
  simp only[amU] at h;have hx:=ZK (P:=P) hT 0 (.tmp y);simp only[ev] at hx;split at h
  ·rename_i r he;rw[he] at hx;replace h:=aj h;obtain⟨c,m2,l2,h2,h⟩:=h;rw[zD] at h2;cases h2;cases hc:get r m with
   |none=>rw[hc] at h;exact(ay h).elim
   |some c=>
    rw[hc] at h;cases c with
    |arr _ _ _ _ _=>exact(ay h).elim
    |dead=>exact(ay h).elim
    |qN _ _=>exact(ay h).elim
    |box T' cs=>
     simp only at h;replace h:=aj h;obtain⟨_,m2,l2,h2,h⟩:=h;obtain⟨hck,rfl,rfl⟩:=eH h2;simp only[MS,Bool.or_eq_true] at hck;obtain⟨⟨⟨hTt,hlen⟩,hok,hagg⟩,aGh⟩:=hck;have aGh:ahp P t=none:=by simpa using aGh
     have hTt:=Hy hTt;have hlen:=Hy hlen;subst hTt;simp only[aU,hc] at hx;obtain⟨_,b,hμ,hg0⟩:=hx;obtain⟨b',arr,e1,e2,e3,e4⟩:=hg.cell r _ hc (by rw[ho];simp);rw[hμ] at e1;cases e1;obtain⟨G',N,t1,q1,hl⟩:=VI hg e3 ho h;have hal:=kT e3;obtain⟨g,hvg⟩:∃g,valOf P T arr.toList g:=by
      unfold valOf;cases ha:Us P T with
      |true=>exact⟨_,rfl⟩
      |false=>
       have h1:cs.length=1:=by
        rcases hagg with h1|h1
        ·rw[ha] at h1;cases h1
        ·exact Hy h1
       cases hr:arr.toList with
       |nil=>rw[hr] at hal;simp[h1] at hal
       |cons g r=>
        cases r with
        |nil=>exact⟨g,rfl⟩
        |cons _ _=>rw[hr] at hal;simp[h1] at hal
     refine⟨G',N,g,t1, ?_,(P8 aGh).2 ⟨arr.toList,hvg,q1,by rw[hl,hal]⟩⟩;have hrun:=VN (P:=P) (w:=w) (t:=T) (b:=b) (off:=0) (cs:=arr.toList) (g:=g) hok (by rw[hal,hlen]) (by intro j v hj;have hH:w.heap[b]? =some (.cells arr T' (0,0)):=e2;simp only[World.cell?,hH,Nat.zero_add];simpa using hj) hvg;simp only[am2];have hg0:a.tmps.getD y undef=.pointer (some ⟨b,0,none⟩):=hg0;rw[hg0];simpa[Instr.loadAt,Instr.sureAddr,asAddr] using hrun
  ·exact(ay h).elim
def ah8{tm:mg}{a:Act}:∀{rs:List ResultVar} {ts:List TypeId} {m:Mem} {G:GS} (_:Iu base U w m G) (_:G.out=[]) (_:acW G.μ m (Gh U w G) tm a) {rows:List Row} {m':Mem} {l l':Log}
  (_:(aaJ P tm rs ts).run m l=some (rows,m',l')),∃G' N gs,PV base U w m G m' G' N/\(∀(i:Nat) x,rs[i]? =some x->∃g,gs[i]? =some g/\(am2 a.tmps x).run P w=.ok g w)/\rs.length=gs.length/\
   WT P (dU w) (Gh U w G') ts rows gs N
 |[],[],m,G,hg,ho,hT,rows,m',l,l',h=>by simp only[aaJ,run_pure,je,lN] at h;obtain⟨rfl,rfl,rfl⟩:=h;exact⟨G,[],[],PV.same hg,λi x h=>by simp at h,rfl,rfl,rfl,rfl⟩
 |r::rs,t::ts,m,G,hg,ho,hT,rows,m',l,l',h=>by
  simp only[aaJ] at h;replace h:=aj h;obtain⟨row,m1,l1,h1,h⟩:=h;replace h:=aj h;obtain⟨rows',m2,l2,h2,h⟩:=h;simp only[run_pure,je,lN] at h;obtain⟨rfl,rfl,rfl⟩:=h;obtain⟨G1,N1,g,t1,r1,v1⟩:=avu hg ho hT h1;obtain⟨G2,N2,gs,t2,r2,e2,q2⟩:=ah8 t1.ok (t1.out.trans ho) (λt v hv=>⟨(hT t v hv).1,t1.le.aU (hT t v hv).2⟩) h2;refine⟨G2,N1++N2,g::gs,t1.trans t2, ?_,by simp[e2],row,rows',g,gs,N1,N2,rfl,rfl,rfl,alj t2.le.view (λ_ _=>rfl) v1,q2⟩;intro i x hx;cases i with
  |zero=>simp only[List.getElem?_cons_zero,je] at hx;subst hx;exact⟨g,rfl,r1⟩
  |succ i=>simpa using r2 i x (by simpa using hx)
 |[],_::_,_,_,_,_,_,_,_,_,_,h=>(ay h).elim
 |_::_,[],_,_,_,_,_,_,_,_,_,h=>(ay h).elim
def avv{μ μ':Nat->Value}{r:Nat}{c c' d:Cell}(hc:sameKind c c)(h:Np μ μ' r c c')(k:sameKind c' d):μ' r=μ r/\sameKind c d:=by
 cases c<;>cases c'<;>cases d<;>simp only[sameKind,Np] at hc h k|-
 ·exact⟨h.2,h.1.symm.trans k⟩
 ·obtain⟨a1,a2,a3,a4⟩:=k;obtain⟨b1,b2,b3⟩:=h;obtain⟨c1,_,_,_⟩:=hc;have:=b3 (c1.trans a1.symm);exact⟨this.1,c1,a2,b2.symm.trans a3,this.2.symm.trans a4⟩
 all_goals trivial
def alB{μ μ':Nat->Value}{m0 m1:Mem}(hle:I9 μ m0 μ' m1):∀{rs:List Nat} {cs ds:List Cell},kinds m0 rs cs->kinds m1 rs ds->(∀c,c∈cs->sameKind c c)->(∀(i r:Nat) c,rs[i]? =some r->cs[i]? =some c->get r m0=some c)->rs.map μ'=rs.map μ/\atO cs ds
 |[],cs,ds,h,k,_,_=>by simp only[kinds] at h k;subst h;subst k;exact⟨rfl,rfl⟩
 |r::rs,cs,ds,⟨c,c',cs',e1,h1,h2,h3⟩,⟨d,d',ds',e2,k1,k2,k3⟩,hs,hg=>by subst e1;subst e2;have hc:=hg 0 r c' rfl rfl;obtain⟨c2,q1,q2⟩:=hle r c' hc;rw[k1] at q1;cases q1;obtain⟨p1,p2⟩:=avv (hs c' (by simp)) q2 k2;obtain⟨r1,r2⟩:=alB hle h3 k3 (λc hc=>hs c (by simp[hc])) (λi r c hr hc=>hg (i+1) r c (by simpa using hr) (by simpa using hc));exact⟨by simp[p1,r1],d',ds',rfl,p2,r2⟩
def afA{H:Heap}{h:View}:∀{cs:List Cell} {gs:List Value} {N:List Nat},cellsB H h cs gs N->∀c,c∈cs->sameKind c c
 |[],_,_,_,c,hc=>by simp at hc
 |c::cs,_,_,⟨g,gs',N1,N2,e,_,q1,q2⟩,d,hd=>by
  rcases List.mem_cons.1 hd with rfl|hd
  ·exact ah5 q1
  ·exact afA q2 d hd
def axe{f:Nat}{fn:Func}{args:List V}{cells outs:List Cell}{gargs jB:List Value}{N1 N2:List Nat}{w':World}(hG:Given X base U w f args cells gargs jB N1 N2){S:St}{G:GS}{a:Act}{nt:Nat}
  (R:Rel base U (N1++N2) w (impμ jB) (uP 0 cells) nt w' S G a) {rows:List Row} (h:leave X fn cells.length S=some (rows,outs)):
  ∃gs M1 M2,(results fn a.tmps).run X.P w'=.ok (ab1 gs) w'/\Did X.P U w w' (N1++N2) fn.resultTypes.toList cells outs jB rows gs M1 M2:=by
 simp only[leave] at h;split at h
 ·rename_i r m' l' hr;simp only[je] at h;subst h;replace hr:=aj hr;obtain⟨a6J,m1,l1,h1,hr⟩:=hr;replace hr:=aj hr;obtain⟨cs1,m2,l2,h2,hr⟩:=hr;simp only[run_pure,je,lN] at hr;obtain⟨⟨rfl,rfl⟩,rfl,rfl⟩:=hr;obtain⟨G1,Nr,gs,t1,r1,e1,q1⟩:=ah8 R.at_.ok R.at_.out R.tm h1;have ho1:G1.out=[]:=t1.out.trans R.at_.out;obtain⟨G2,Nc,t2,q2,kd2⟩:=aea t1.ok (abj cells.length) (λr hr=>⟨hr,by rw[ho1];simp⟩) (λr hr=>by rw[ho1] at hr;simp at hr) h2;have hE2:G2.E=Nr++Nc:=by rw[t2.E,t1.E,R.at_.E];rfl
  have hlen:=Xr hG.cells;have hk0:kinds (uP 0 cells) (xG cells.length) cells:=by rw[ah6];exact aei (λi=>by rw[Nat.zero_add];exact WS cells i) hG.cells
  obtain⟨b1,b2⟩:=alB (wL R.imp t1.le.mem) hk0 kd2 (afA hG.cells) (by intro i r c hr hc;have hi:i<cells.length:=(PU.1 hc).1;rw[afx hi] at hr;cases hr;rw[WS];exact hc);have hv:(Gh U w' G2).le (view w' U (· ∈Nc++Nr)):=WQ (λ_ x=>x) (λb hb=> .inl (by rw[hE2];simp only[List.mem_append] at hb|-;exact hb.symm));refine⟨gs,Nc,Nr,afz r1 e1,R.at_.fr.keep, ?_, ?_,b2, ?_, ?_⟩
  ·have:=t2.ok.ndE;rw[hE2] at this;exact(List.perm_append_comm.nodup_iff).1 this
  ·intro b hb;have hbE:b∈G2.E:=by rw[hE2];simp only[List.mem_append] at hb|-;exact hb.symm
   exact⟨R.at_.fr.fr b (t1.le.ex b (t2.le.ex b (.inl hbE))),(t2.ok.lt b (.inl hbE)).1⟩
  ·rw[b1,<-hlen,afy] at q2;exact Ux hv q2
  ·exact VL (t2.le.view.trans' hv) (λ_ _=>rfl) q1
 ·cases h
def aBe{K:lQ}(hK:Sound X K){f:FuncId}{fn:Func}{args:List V}{cells:List Cell}{rows:List Row}{outs:List Cell}(hf:X.P.funcs[f]? =some fn)(h:body X K f args cells=some (rows,outs))
  {gargs jB:List Value} {N1 N2:List Nat} (hG:Given X base U w f args cells gargs jB N1 N2):
  Calls X.P f gargs.toArray w λe w'=>∃gs M1 M2,e=.returned (ab1 gs)/\Did X.P U w w' (N1++N2) fn.resultTypes.toList cells outs jB rows gs M1 M2:=by
 simp only[body,hf] at h;cases hb:fn.body with
 |none=>simp[hb] at h
 |some c=>
  simp only[hb] at h;cases hn:(Nat.ble cells.length sF && Nat.ble args.length fn.ntmps) with
  |false=>simp[hn] at h
  |true=>
   simp only[hn,Bool.not_true,bn] at h;simp only[MS] at hn;have hn1:=Nat.le_of_ble_eq_true hn.1;have hn2:=Nat.le_of_ble_eq_true hn.2;split at h
   ·rename_i tm m' l' he;obtain⟨G,R⟩:=axd hG he hn2;have hM:∀r c,get r (uP 0 cells)=some c->UO r=true:=by intro r c hr;obtain⟨i,e,hi⟩:=UR hr;have hil:i<cells.length:=(PU.1 hi).1;subst e;simp only[UO,MS];exact⟨Nat.ble_eq_true_of_le ak,by rw[Nat.blt_eq];omega⟩
    have hnt:Zr X.P f=fn.ntmps:=by simp[Zr,hf]
    have aJF:=avs (base:=base) (U:=U) (M0:=N1++N2) (w0:=w) (ν:=impμ jB) ⟨hK,hG.gl⟩ hnt hM;have hfin:∀ex S,leave X fn cells.length S=some (rows,outs)->(ex=Ex.normal\/ex=Ex.ret)->∀w' G' a',Rel base U (N1++N2) w (impμ jB) (uP 0 cells) fn.ntmps w' S G' a'->(Gh U w G).le (Gh U w' G')->
      bodyPost X.P fn (λe w'=>∃gs M1 M2,e=.returned (ab1 gs)/\Did X.P U w w' (N1++N2) fn.resultTypes.toList cells outs jB rows gs M1 M2) (aGf ex) a' w':=by
     intro ex S hl hex w' G' a' R' _;obtain⟨gs,M1,M2,hr,hd⟩:=axe hG R' hl;rcases hex with rfl|rfl<;>exact⟨R'.defers,_,hr,gs,M1,M2,rfl,hd⟩
    split at h
    ·rename_i S hd;exact calls_of_wp hf hb (axc aJF c R hd (hfin _ _ h (.inl rfl)))
    ·rename_i S hd;exact calls_of_wp hf hb (axc aJF c R hd (hfin _ _ h (.inr rfl)))
    ·cases h
   ·cases h
end
def am3(X:Ctx):Prop:=∀(f:FuncId) (p:List V->List Cell->Option (List Row×List Cell)) (fn:Func) (args:List V) (cells:List Cell) (rows:List Row) (outs:List Cell),X.Zw f=some p->X.P.funcs[f]? =some fn->fn.body.isSome=true->p args cells=some (rows,outs)->
 ∀(base:Nat) (U:Nat->Prop) (w:World) (gargs jB:List Value) (N1 N2:List Nat),Given X base U w f args cells gargs jB N1 N2->
  Calls X.P f gargs.toArray w λe w'=>∃gs M1 M2,e=.returned (ab1 gs)/\Did X.P U w w' (N1++N2) fn.resultTypes.toList cells outs jB rows gs M1 M2
def aoB{X:Ctx}(hp:am3 X):∀n,Sound X (ZE X n)
 |0=>by intro f fn args cells rows outs hf hb h;simp[ZE] at h
 |n+1=>by
  intro f fn args cells rows outs hf hb h base U w gargs jB N1 N2 hG;simp only[ZE] at h;cases hx:X.Zw f with
  |some p=>rw[hx] at h;exact hp f p fn args cells rows outs hx hf hb h base U w gargs jB N1 N2 hG
  |none=>rw[hx] at h;exact aBe (aoB hp n) hf h hG
def aBf{X:Ctx}(hp:am3 X):Sound X (call X):=by intro f fn args cells rows outs hf hb h base U w gargs jB N1 N2 hG;obtain⟨n,hn⟩:=XV h;exact aoB hp n f fn args cells rows outs hf hb hn base U w gargs jB N1 N2 hG
end Go.Vm
namespace Go.Vm
open Go
def KLe(K K':lQ):Prop:=∀f args cells r,K f args cells=some r->K' f args cells=some r
def KLe.refl(K:lQ):KLe K K:=λ_ _ _ _ h=>h
def KLe.trans{K1 K2 K3:lQ}(h:KLe K1 K2)(k:KLe K2 K3):KLe K1 K3:=λf a c r q=>k f a c r (h f a c r q)
def Bh{α:Type}(A:lQ->Acc α):Prop:=∀K K',KLe K K'->∀m l r,(A K).run m l=some r->(A K').run m l=some r
def Bh.const{α:Type}(a:Acc α):Bh λ_=>a:=λ_ _ _ _ _ _ h=>h
def Bh.bind{α β:Type}{A:lQ->Acc α}{B:lQ->α->Acc β}(h:Bh A)(k:∀x,Bh λK=>B K x):Bh λK=>A K>>=B K:=by intro K K' hK m l r hr;obtain⟨y,m',l'⟩:=r;obtain⟨x,m1,l1,h1,h2⟩:=aj hr;rw[run_bind,h K K' hK m l _ h1];exact k x K K' hK m1 l1 _ h2
def Bh.op{f:Nat}{args:List V}{cells:List Cell}:Bh λK=>op' (K f args cells):=by intro K K' hK m l r hr;obtain⟨x,m',l'⟩:=r;obtain⟨h1,rfl,rfl⟩:=lD hr;simp only;rw[hK f args cells x h1];rfl
def ACt{α:Type}(Kn:Nat->lQ)(K:lQ)(A:lQ->Acc α):Prop:=∀m l r,(A K).run m l=some r->∃n,(A (Kn n)).run m l=some r
def Chain(Kn:Nat->lQ):Prop:=∀n,KLe (Kn n) (Kn (n+1))
def Chain.le{Kn:Nat->lQ}(h:Chain Kn){n k:Nat}(hk:n<=k):KLe (Kn n) (Kn k):=by
 induction hk with
 |refl=>exact KLe.refl _
 |step _ ih=>exact ih.trans (h _)
section
variable {Kn:Nat->lQ} {K:lQ} (hc:Chain Kn)
def ACt.const{α:Type}(a:Acc α):ACt Kn K λ_=>a:=λ_ _ _ h=>⟨0,h⟩
include hc in
theorem ACt.bind{α β:Type}{A:lQ->Acc α}{B:lQ->α->Acc β}(hu:Bh A)(ku:∀x,Bh λK=>B K x)(h:ACt Kn K A)(k:∀x,ACt Kn K λK=>B K x):ACt Kn K λK=>A K>>=B K:=by intro m l r hr;obtain⟨y,m',l'⟩:=r;obtain⟨x,m1,l1,h1,h2⟩:=aj hr;obtain⟨n1,q1⟩:=h m l _ h1;obtain⟨n2,q2⟩:=k x m1 l1 _ h2;refine⟨max n1 n2, ?_⟩;rw[run_bind,hu _ _ (hc.le (Nat.le_max_left n1 n2)) m l _ q1];exact ku x _ _ (hc.le (Nat.le_max_right n1 n2)) m1 l1 _ q2
theorem ACt.op(hK:∀f args cells r,K f args cells=some r->∃n,Kn n f args cells=some r){f:Nat}{args:List V}{cells:List Cell}:ACt Kn K λK=>op' (K f args cells):=by intro m l r hr;obtain⟨x,m',l'⟩:=r;obtain⟨h1,rfl,rfl⟩:=lD hr;obtain⟨n,hn⟩:=hK f args cells x h1;refine⟨n, ?_⟩;simp only;rw[hn];rfl
end
def axf(X:Ctx)(fn dst f:Nat)(args:List V):Bh λK=>acN X K fn dst f args:=by unfold acN;refine Bh.bind (Bh.const _) λg=>Bh.bind (Bh.const _) λ_=>Bh.bind (Bh.const _) λargs=>Bh.bind (Bh.const _) λcells=>Bh.bind (Bh.const _) fun⟨args,Uu⟩=>Bh.bind (Bh.const _) λ_=>Bh.bind Bh.op λout=>Bh.const _
def axg{Kn:Nat->lQ}{K:lQ}(hc:Chain Kn)(hK:∀f args cells r,K f args cells=some r->∃n,Kn n f args cells=some r)(X:Ctx)(fn dst f:Nat)(args:List V):ACt Kn K λK=>acN X K fn dst f args:=by
 unfold acN;refine ACt.bind hc (Bh.const _) ?_ (ACt.const _) λg=> ?_
 ·exact λg=>Bh.bind (Bh.const _) λ_=>Bh.bind (Bh.const _) λargs=>Bh.bind (Bh.const _) λcells=>Bh.bind (Bh.const _) fun⟨args,Uu⟩=>Bh.bind (Bh.const _) λ_=>Bh.bind Bh.op λout=>Bh.const _
 refine ACt.bind hc (Bh.const _) ?_ (ACt.const _) λ_=> ?_
 ·exact λg=>Bh.bind (Bh.const _) λargs=>Bh.bind (Bh.const _) λcells=>Bh.bind (Bh.const _) fun⟨args,Uu⟩=>Bh.bind (Bh.const _) λ_=>Bh.bind Bh.op λout=>Bh.const _
 refine ACt.bind hc (Bh.const _) ?_ (ACt.const _) λargs=> ?_
 ·exact λg=>Bh.bind (Bh.const _) λcells=>Bh.bind (Bh.const _) fun⟨args,Uu⟩=>Bh.bind (Bh.const _) λ_=>Bh.bind Bh.op λout=>Bh.const _
 refine ACt.bind hc (Bh.const _) ?_ (ACt.const _) λcells=> ?_
 ·exact λg=>Bh.bind (Bh.const _) fun⟨args,Uu⟩=>Bh.bind (Bh.const _) λ_=>Bh.bind Bh.op λout=>Bh.const _
 refine ACt.bind hc (Bh.const _) ?_ (ACt.const _) fun⟨args,Uu⟩=> ?_
 ·exact fun⟨args,Uu⟩=>Bh.bind (Bh.const _) λ_=>Bh.bind Bh.op λout=>Bh.const _
 refine ACt.bind hc (Bh.const _) ?_ (ACt.const _) λ_=> ?_
 ·exact λ_=>Bh.bind Bh.op λout=>Bh.const _
 exact ACt.bind hc Bh.op (λout=>Bh.const _) (ACt.op hK) λout=>ACt.const _
def aGi(X:Ctx)(fn:Nat)(tm:mg)(o:Oper):Bh λK=>vop X K fn tm o:=by
 obtain⟨dst,op,type,pos,after,guard⟩:=o;cases op<;>try exact Bh.const _
 case call c=>
  obtain⟨callee,args,tys⟩:=c;cases callee with
  |value f=>
   simp only[vop];split
   ·exact axf X fn _ _ _
   ·exact Bh.const _
  |invoke r m=>exact Bh.const _
  |builtin b=>cases b<;>exact Bh.const _
 case makeFunc f a b=>cases f<;>exact Bh.const _
 case slice a b c d e=>cases e<;>exact Bh.const _
def aGj{Kn:Nat->lQ}{K:lQ}(hc:Chain Kn)(hK:∀f args cells r,K f args cells=some r->∃n,Kn n f args cells=some r)(X:Ctx)(fn:Nat)(tm:mg)(o:Oper):ACt Kn K λK=>vop X K fn tm o:=by
 obtain⟨dst,op,type,pos,after,guard⟩:=o;cases op<;>try exact ACt.const _
 case call c=>
  obtain⟨callee,args,tys⟩:=c;cases callee with
  |value f=>
   simp only[vop];split
   ·exact axg hc hK X fn _ _ _
   ·exact ACt.const _
  |invoke r m=>exact ACt.const _
  |builtin b=>cases b<;>exact ACt.const _
 case makeFunc f a b=>cases f<;>exact ACt.const _
 case slice a b c d e=>cases e<;>exact ACt.const _
def Up{β:Type}(E:lQ->Option β):Prop:=∀K K',KLe K K'->∀r,E K=some r->E K'=some r
def Ct{β:Type}(Kn:Nat->lQ)(K:lQ)(E:lQ->Option β):Prop:=∀r,E K=some r->∃n,E (Kn n)=some r
def Up.const{β:Type}(e:Option β):Up λ_=>e:=λ_ _ _ _ h=>h
def Ct.const{β:Type}{Kn:Nat->lQ}{K:lQ}(e:Option β):Ct Kn K λ_=>e:=λ_ h=>⟨0,h⟩
def Up.bind{α β:Type}{E:lQ->Option α}{F:lQ->α->Option β}(h:Up E)(k:∀x,Up λK=>F K x):Up λK=>(E K).bind (F K):=by intro K K' hK r hr;simp only[Option.bind_eq_some_iff] at hr|-;obtain⟨x,h1,h2⟩:=hr;exact⟨x,h K K' hK x h1,k x K K' hK r h2⟩
def Ct.bind{α β:Type}{Kn:Nat->lQ}{K:lQ}(hc:Chain Kn){E:lQ->Option α}{F:lQ->α->Option β}(hu:Up E)(ku:∀x,Up λK=>F K x)(h:Ct Kn K E)(k:∀x,Ct Kn K λK=>F K x):Ct Kn K λK=>(E K).bind (F K):=by intro r hr;simp only[Option.bind_eq_some_iff] at hr|-;obtain⟨x,h1,h2⟩:=hr;obtain⟨n1,q1⟩:=h x h1;obtain⟨n2,q2⟩:=k x r h2;exact⟨max n1 n2,x,hu _ _ (hc.le (Nat.le_max_left n1 n2)) x q1,ku x _ _ (hc.le (Nat.le_max_right n1 n2)) r q2⟩
def aoC(X:Ctx)(fn:Nat)(ops:Array Oper)(i:Nat)(S:St):Up λK=>Ee X K fn ops i S:=by
 intro K K' hK r hr;simp only[Ee] at hr|-;cases ho:ops[i]? with
 |none=>simp[ho] at hr
 |some o=>
  simp only[ho] at hr|-;cases hw:Gn ops S.tm o with
  |none=>simp[hw] at hr
  |some bt=>
   obtain⟨b,tm⟩:=bt;cases b with
   |false=>simpa[hw] using hr
   |true=>
    simp only[hw] at hr|-;cases hv:(vop X K fn tm o).run S.mem .none with
    |none=>simp[hv] at hr
    |some q=>rw[aGi X fn tm o K K' hK S.mem .none q hv];rw[hv] at hr;exact hr
def axh{Kn:Nat->lQ}{K:lQ}(hc:Chain Kn)(hK:∀f args cells r,K f args cells=some r->∃n,Kn n f args cells=some r)(X:Ctx)(fn:Nat)(ops:Array Oper)(i:Nat)(S:St):Ct Kn K λK=>Ee X K fn ops i S:=by
 intro r hr;simp only[Ee] at hr|-;cases ho:ops[i]? with
 |none=>simp[ho] at hr
 |some o=>
  simp only[ho] at hr|-;cases hw:Gn ops S.tm o with
  |none=>simp[hw] at hr
  |some bt=>
   obtain⟨b,tm⟩:=bt;cases b with
   |false=>exact⟨0,by simpa[hw] using hr⟩
   |true=>
    simp only[hw] at hr|-;cases hv:(vop X K fn tm o).run S.mem .none with
    |none=>simp[hv] at hr
    |some q=>obtain⟨n,hn⟩:=aGj hc hK X fn tm o S.mem .none q hv;exact⟨n,by rw[hn];rw[hv] at hr;exact hr⟩
def aej(X:Ctx)(fn:Nat)(ops:Array Oper)(i:Nat)(is:List Nat)(S:St)(L:List (Nat×Log))(K:lQ):
  Pg X K fn ops (i::is) S L=(Ee X K fn ops i S).bind λr=>Pg X K fn ops is r.1 ((i,r.2)::L):=by
 simp only[Pg];cases Ee X K fn ops i S with
 |none=>rfl
 |some r=>rfl
def aek(X:Ctx)(fn:Nat)(ops:Array Oper):∀(is:List Nat) (S:St) (L:List (Nat×Log)),Up λK=>Pg X K fn ops is S L
 |[],S,L=>Up.const _
 |i::is,S,L=>by simp only[aej];exact Up.bind (aoC X fn ops i S) λr=>aek X fn ops is r.1 _
def alC{Kn:Nat->lQ}{K:lQ}(hc:Chain Kn)(hK:∀f args cells r,K f args cells=some r->∃n,Kn n f args cells=some r)(X:Ctx)(fn:Nat)(ops:Array Oper):∀(is:List Nat) (S:St) (L:List (Nat×Log)),Ct Kn K λK=>Pg X K fn ops is S L
 |[],S,L=>Ct.const _
 |i::is,S,L=>by simp only[aej];exact Ct.bind hc (aoC X fn ops i S) (λr=>aek X fn ops is r.1 _) (axh hc hK X fn ops i S) λr=>alC hc hK X fn ops is r.1 _
def ac3(X:Ctx)(fn id:Nat)(ops:Array Oper)(draw:Bool)(S:St):Up λK=>KO X K fn id ops draw S:=aek X fn ops _ S _
def am4{Kn:Nat->lQ}{K:lQ}(hc:Chain Kn)(hK:∀f args cells r,K f args cells=some r->∃n,Kn n f args cells=some r)(X:Ctx)(fn id:Nat)(ops:Array Oper)(draw:Bool)(S:St):Ct Kn K λK=>KO X K fn id ops draw S:=alC hc hK X fn ops _ S _
def ael(X:Ctx)(fn id:Nat)(ops:Array Oper)(draw:Bool)(S:St)(K:lQ):
  region X K fn id ops draw S=(KO X K fn id ops draw S).bind λr=>bif(match draw with|false=>true|true=>X.P.follows .mixedOrders &&(backOk ops && ZB ops (Region.before ops) r.2)) then prune (X.UN.keep fn id) r.1 else none:=by
 simp only[region];cases KO X K fn id ops draw S with
 |none=>rfl
 |some r=>rfl
def alD(X:Ctx)(fn id:Nat)(ops:Array Oper)(draw:Bool)(S:St):Up λK=>region X K fn id ops draw S:=by simp only[ael];exact Up.bind (ac3 X fn id ops draw S) λr=>Up.const _
def avw{Kn:Nat->lQ}{K:lQ}(hc:Chain Kn)(hK:∀f args cells r,K f args cells=some r->∃n,Kn n f args cells=some r)(X:Ctx)(fn id:Nat)(ops:Array Oper)(draw:Bool)(S:St):Ct Kn K λK=>region X K fn id ops draw S:=by simp only[ael];exact Ct.bind hc (ac3 X fn id ops draw S) (λr=>Up.const _) (am4 hc hK X fn id ops draw S) λr=>Ct.const _
def aem{b:St->Option (Ex×St)}:∀{n k:Nat} {S:St} {r:Ex×St},iter b n S=some r->n<=k->iter b k S=some r
 |0,_,_,_,h,_=>by simp[iter] at h
 |n+1,0,_,_,_,hk=>by omega
 |n+1,k+1,S,r,h,hk=>by
  simp only[iter] at h|-;cases hb:b S with
  |none=>simp[hb] at h
  |some q=>
   obtain⟨e,S'⟩:=q;rw[hb] at h;cases e with
   |normal=>exact aem h ak
   |exit id=>exact h
   |ret=>exact h
def AO{α:Type}{f:Nat->Option α}{x:α}{n:Nat}(hn:f n=some x)(h:∀m y,f m=some y->y=x):lim f=some x:=by unfold lim;rw[dif_pos ⟨x,n,hn⟩];congr 1;obtain⟨m,hm⟩:=Classical.choose_spec (⟨x,n,hn⟩:∃a n,f n=some a);exact h m _ hm
def ac4{b:St->Option (Ex×St)}{S:St}{r:Ex×St}{n:Nat}(h:iter b n S=some r):WO b S=some r:=by
 refine AO h λm y hy=> ?_
 have h1:=aem h (Nat.le_max_left n m);rw[aem hy (Nat.le_max_right n m)] at h1;exact Option.some.inj h1
def ab5{b:St->Option (Ex×St)}{S:St}{r:Ex×St}(h:WO b S=some r):∃n,iter b n S=some r:=XV h
def iter_eq{b:St->Option (Ex×St)}{n:Nat}{S:St}:iter b (n+1) S=(b S).bind λq=>match q with|(.normal,S')=>iter b n S'|(e,S')=>some (e,S'):=by
 simp only[iter];cases b S with
 |none=>rfl
 |some q=>obtain⟨e,S'⟩:=q;cases e<;>rfl
def am5{B:lQ->St->Option (Ex×St)}(h:∀S,Up λK=>B K S):∀(n:Nat) (S:St),Up λK=>iter (B K) n S
 |0,S=>Up.const _
 |n+1,S=>by
  simp only[iter_eq];refine Up.bind (h S) λq=> ?_
  obtain⟨e,S'⟩:=q;cases e with
  |normal=>exact am5 h n S'
  |exit id=>exact Up.const _
  |ret=>exact Up.const _
def atQ{Kn:Nat->lQ}{K:lQ}(hc:Chain Kn){B:lQ->St->Option (Ex×St)}(hu:∀S,Up λK=>B K S)(h:∀S,Ct Kn K λK=>B K S):∀(n:Nat) (S:St),Ct Kn K λK=>iter (B K) n S
 |0,S=>Ct.const _
 |n+1,S=>by
  simp only[iter_eq];refine Ct.bind hc (hu S) (λq=> ?_) (h S) λq=> ?_
  all_goals
   obtain⟨e,S'⟩:=q;cases e
  ·exact am5 hu n S'
  ·exact Up.const _
  ·exact Up.const _
  ·exact atQ hc hu h n S'
  ·exact Ct.const _
  ·exact Ct.const _
def axi{B:lQ->St->Option (Ex×St)}(h:∀S,Up λK=>B K S)(S:St):Up λK=>WO (B K) S:=by intro K K' hK r hr;obtain⟨n,hn⟩:=ab5 hr;exact ac4 (am5 h n S K K' hK r hn)
def axj{Kn:Nat->lQ}{K:lQ}(hc:Chain Kn){B:lQ->St->Option (Ex×St)}(hu:∀S,Up λK=>B K S)(h:∀S,Ct Kn K λK=>B K S)(S:St):Ct Kn K λK=>WO (B K) S:=by intro r hr;obtain⟨n,hn⟩:=ab5 hr;obtain⟨k,hk⟩:=atQ hc hu h n S r hn;exact⟨k,ac4 hk⟩
def am6(X:Ctx)(fn:Nat)(c:Code):∀S,Up λK=>den X K fn c S:=by
 induction c with
 |region id ops draw=>
  intro S K K' hK r hr;simp only[den] at hr|-;cases h:region X K fn id ops draw S with
  |none=>simp[h] at hr
  |some S'=>have he0:=alD X fn id ops draw S K K' hK S' h;dsimp only at he0;rw[he0];rw[h] at hr;exact hr
 |seq a b iha ihb=>
  intro S K K' hK r hr;simp only[den] at hr|-;cases h:den X K fn a S with
  |none=>simp[h] at hr
  |some q=>
   have he0:=iha S K K' hK q h;dsimp only at he0;rw[he0];rw[h] at hr;obtain⟨e,S'⟩:=q;cases e with
   |normal=>exact ihb S' K K' hK r hr
   |exit id=>exact hr
   |ret=>exact hr
 |cond c a b iha ihb=>
  intro S K K' hK r hr;simp only[den] at hr|-;cases h:aa9 X.P S.tm c with
  |none=>simp[h] at hr
  |some q=>
   rw[h] at hr;cases q with
   |true=>exact iha S K K' hK r hr
   |false=>exact ihb S K K' hK r hr
 |block id c ih=>
  intro S K K' hK r hr;simp only[den] at hr|-;cases h:den X K fn c S with
  |none=>simp[h] at hr
  |some q=>have he0:=ih S K K' hK q h;dsimp only at he0;rw[he0];rw[h] at hr;exact hr
 |loop c ih=>intro S;exact axi ih S
 |_=>intro S;exact Up.const _
def aGk{Kn:Nat->lQ}{K:lQ}(hc:Chain Kn)(hK:∀f args cells r,K f args cells=some r->∃n,Kn n f args cells=some r)(X:Ctx)(fn:Nat)(c:Code):∀S,Ct Kn K λK=>den X K fn c S:=by
 induction c with
 |region id ops draw=>
  intro S r hr;simp only[den] at hr|-;cases h:region X K fn id ops draw S with
  |none=>simp[h] at hr
  |some S'=>obtain⟨n,hn⟩:=avw hc hK X fn id ops draw S S' h;dsimp only at hn;exact⟨n,by rw[hn];rw[h] at hr;exact hr⟩
 |seq a b iha ihb=>
  intro S r hr;simp only[den] at hr|-;cases h:den X K fn a S with
  |none=>simp[h] at hr
  |some q=>
   obtain⟨n,hn⟩:=iha S q h;dsimp only at hn;rw[h] at hr;obtain⟨e,S'⟩:=q;cases e with
   |normal=>obtain⟨k,hk⟩:=ihb S' r hr;dsimp only at hk;refine⟨max n k, ?_⟩;have he0:=am6 X fn a S _ _ (hc.le (Nat.le_max_left n k)) _ hn;dsimp only at he0;rw[he0];exact am6 X fn b S' _ _ (hc.le (Nat.le_max_right n k)) _ hk
   |exit id=>exact⟨n,by rw[hn];exact hr⟩
   |ret=>exact⟨n,by rw[hn];exact hr⟩
 |cond c a b iha ihb=>
  intro S r hr;simp only[den] at hr|-;cases h:aa9 X.P S.tm c with
  |none=>simp[h] at hr
  |some q=>
   rw[h] at hr;cases q with
   |true=>exact iha S r hr
   |false=>exact ihb S r hr
 |block id c ih=>
  intro S r hr;simp only[den] at hr|-;cases h:den X K fn c S with
  |none=>simp[h] at hr
  |some q=>obtain⟨n,hn⟩:=ih S q h;dsimp only at hn;exact⟨n,by rw[hn];rw[h] at hr;exact hr⟩
 |loop c ih=>intro S;exact axj hc (am6 X fn c) ih S
 |_=>intro S;exact Ct.const _
def atS(X:Ctx)(f:Nat)(args:List V)(cells:List Cell):Up λK=>body X K f args cells:=by
 intro K K' hK r hr;simp only[body] at hr|-;cases hg:X.P.funcs[f]? with
 |none=>simp[hg] at hr
 |some g=>
  simp only[hg] at hr|-;cases hcd:g.body with
  |none=>simp[hcd] at hr
  |some c=>
   simp only[hcd] at hr|-;revert hr;generalize (!(Nat.ble cells.length sF && Nat.ble args.length g.ntmps))=q;cases q with
   |true=>exact id
   |false=>
    simp only[bn];intro hr;split at hr
    ·rename_i tm m l he;cases h:den X K f c ⟨tm,m⟩ with
     |none=>simp[h] at hr
     |some q=>have he0:=am6 X f c ⟨tm,m⟩ K K' hK q h;dsimp only at he0;rw[he0];rw[h] at hr;exact hr
    ·cases hr
def aBg{Kn:Nat->lQ}{K:lQ}(hc:Chain Kn)(hK:∀f args cells r,K f args cells=some r->∃n,Kn n f args cells=some r)(X:Ctx)(f:Nat)(args:List V)(cells:List Cell):Ct Kn K λK=>body X K f args cells:=by
 intro r hr;simp only[body] at hr|-;cases hg:X.P.funcs[f]? with
 |none=>simp[hg] at hr
 |some g=>
  simp only[hg] at hr|-;cases hcd:g.body with
  |none=>simp[hcd] at hr
  |some c=>
   simp only[hcd] at hr|-;revert hr;generalize (!(Nat.ble cells.length sF && Nat.ble args.length g.ntmps))=q;cases q with
   |true=>exact λh=>⟨0,h⟩
   |false=>
    simp only[bn];intro hr;split at hr
    ·rename_i tm m l he;cases h:den X K f c ⟨tm,m⟩ with
     |none=>simp[h] at hr
     |some q=>obtain⟨n,hn⟩:=aGk hc hK X f c ⟨tm,m⟩ q h;dsimp only at hn;exact⟨n,by rw[hn];rw[h] at hr;exact hr⟩
    ·cases hr
def WW(X:Ctx):Chain (ZE X)
 |0=>λf args cells r h=>by simp[ZE] at h
 |n+1=>λf args cells r h=>by
  simp only[ZE] at h|-;cases hp:X.Zw f with
  |some p=>simpa[hp] using h
  |none=>simp only[hp] at h|-;exact atS X f args cells _ _ (WW X n) r h
def alE{X:Ctx}{n:Nat}{f:Nat}{args:List V}{cells:List Cell}{r:List Row×List Cell}(h:ZE X n f args cells=some r):call X f args cells=some r:=by
 refine AO h λm y hy=> ?_
 have h1:=(WW X).le (Nat.le_max_left n m) f args cells r h;rw[(WW X).le (Nat.le_max_right n m) f args cells y hy] at h1;exact Option.some.inj h1
def aBh{X:Ctx}{K:lQ}(hK:KLe K (call X)){f:Nat}{args:List V}{cells:List Cell}{r:List Row×List Cell}(hp:X.Zw f=none)(h:body X K f args cells=some r):call X f args cells=some r:=by have h1:=atS X f args cells K (call X) hK r h;obtain⟨n,hn⟩:=aBg (WW X) (λf a c r hr=>XV hr) X f args cells r h1;dsimp only at hn;refine alE (n:=n+1) ?_;simp only[ZE,hp];exact hn
def am7{X:Ctx}{f:Nat}{p:List V->List Cell->Option (List Row×List Cell)}{args:List V}{cells:List Cell}{r:List Row×List Cell}(hp:X.Zw f=some p)(h:p args cells=some r):call X f args cells=some r:=
 alE (n:=1) (by simp only[ZE,hp];exact h)
end Go.Vm
namespace Go.Vm
open Go
abbrev Loops:=Nat->St->Option (Ex×St)
def lid:Code->Nat
 | .region id _ _=>id
 | .seq a b=>match lid a with
  |0=>lid b
  |n=>n
 | .block _ c=>lid c
 | .loop c=>lid c
 | .cond _ a b=>match lid a with
  |0=>lid b
  |n=>n
 |_=>0
def loops:Code->List Code
 | .seq a b=>loops a++loops b
 | .cond _ a b=>loops a++loops b
 | .block _ c=>loops c
 | .loop c=>[c]
 |_=>[]
def Nq(X:Ctx)(K:lQ)(L:Loops)(fn:Nat):Code->St->Option (Ex×St)
 | .skip,S=>some (.normal,S)
 | .region id ops draw,S=>match region X K fn id ops draw S with
  |some S'=>some (.normal,S')
  |none=>none
 | .seq a b,S=>match Nq X K L fn a S with
  |some (.normal,S')=>Nq X K L fn b S'
  |r=>r
 | .cond c a b,S=>match aa9 X.P S.tm c with
  |some true=>Nq X K L fn a S
  |some false=>Nq X K L fn b S
  |none=>none
 | .block id c,S=>match Nq X K L fn c S with
  |some (.exit j,S')=>bif Nat.beq j id then some (.normal,S') else some (.exit j,S')
  |r=>r
 | .loop c,S=>L (lid c) S
 | .exit id,S=>some (.exit id,S)
 | .ret,S=>some (.ret,S)
 |_,_=>none
def codeOf(P:Program)(f:Nat):Code:=match P.funcs[f]? with
 |some g=>match g.body with
  |some c=>c
  |none=> .skip
 |none=> .skip
def afB(X:Ctx)(K:lQ)(L:Loops)(f:Nat)(args:List V)(cells:List Cell):Option (List Row×List Cell):=
 match X.P.funcs[f]? with
 |some g=>match g.body with
  |some c=>bif !(Nat.ble cells.length sF && Nat.ble args.length g.ntmps) then none else match(entry X f g args cells).run (uP 0 cells) .none with
   |some (tm,m,_)=>(match Nq X K L f c ⟨tm,m⟩ with
    |some (.normal,S)=>leave X g cells.length S
    |some (.ret,S)=>leave X g cells.length S
    |_=>none)
   |none=>none
  |none=>none
 |none=>none
def LOk(X:Ctx)(K:lQ)(fn:Nat)(L:Loops)(cs:List Code):Prop:=∀c,c∈cs->∀S r,L (lid c) S=some r->WO (den X K fn c) S=some r
def LOk.nil{X:Ctx}{K:lQ}{fn:Nat}{L:Loops}:LOk X K fn L []:=λ_ h=>by simp at h
def LOk.cons{X:Ctx}{K:lQ}{fn:Nat}{L:Loops}{c:Code}{cs:List Code}(h:∀S r,L (lid c) S=some r->WO (den X K fn c) S=some r)(k:LOk X K fn L cs):LOk X K fn L (c::cs):=by
 intro d hd;rcases List.mem_cons.1 hd with rfl|hd
 ·exact h
 ·exact k d hd
def axk{X:Ctx}{K:lQ}{L:Loops}{fn:Nat}:∀{c:Code} {S:St} {r:Ex×St},LOk X K fn L (loops c)->Nq X K L fn c S=some r->den X K fn c S=some r:=by
 intro c;induction c with
 |seq a b iha ihb=>
  intro S r hL h;have hLa:LOk X K fn L (loops a):=λd hd=>hL d (by simp[loops,hd])
  have hLb:LOk X K fn L (loops b):=λd hd=>hL d (by simp[loops,hd])
  simp only[Nq] at h;simp only[den];cases ha:Nq X K L fn a S with
  |none=>simp[ha] at h
  |some q=>
   rw[iha hLa ha];rw[ha] at h;obtain⟨e,S'⟩:=q;cases e with
   |normal=>exact ihb hLb h
   |exit id=>exact h
   |ret=>exact h
 |cond c a b iha ihb=>
  intro S r hL h;have hLa:LOk X K fn L (loops a):=λd hd=>hL d (by simp[loops,hd])
  have hLb:LOk X K fn L (loops b):=λd hd=>hL d (by simp[loops,hd])
  simp only[Nq] at h;simp only[den];cases hc:aa9 X.P S.tm c with
  |none=>simp[hc] at h
  |some q=>
   rw[hc] at h;cases q with
   |true=>exact iha hLa h
   |false=>exact ihb hLb h
 |block id c ih=>
  intro S r hL h;simp only[Nq] at h;simp only[den];cases ha:Nq X K L fn c S with
  |none=>simp[ha] at h
  |some q=>rw[ih hL ha];rw[ha] at h;exact h
 |loop c ih=>intro S r hL h;exact hL c (by simp[loops]) S r h
 |region id ops draw=>intro S r hL h;exact h
 |skip=>intro S r hL h;exact h
 |exit id=>intro S r hL h;exact h
 |ret=>intro S r hL h;exact h
 |_=>intro S r hL h;simp[Nq] at h
def atT(X:Ctx)(L:Loops)(fn:Nat)(c:Code):∀S,Up λK=>Nq X K L fn c S:=by
 induction c with
 |region id ops draw=>
  intro S K K' hK r hr;simp only[Nq] at hr|-;cases h:region X K fn id ops draw S with
  |none=>simp[h] at hr
  |some S'=>have he0:=alD X fn id ops draw S K K' hK S' h;dsimp only at he0;rw[he0];rw[h] at hr;exact hr
 |seq a b iha ihb=>
  intro S K K' hK r hr;simp only[Nq] at hr|-;cases h:Nq X K L fn a S with
  |none=>simp[h] at hr
  |some q=>
   have he0:=iha S K K' hK q h;dsimp only at he0;rw[he0];rw[h] at hr;obtain⟨e,S'⟩:=q;cases e with
   |normal=>exact ihb S' K K' hK r hr
   |exit id=>exact hr
   |ret=>exact hr
 |cond c a b iha ihb=>
  intro S K K' hK r hr;simp only[Nq] at hr|-;cases h:aa9 X.P S.tm c with
  |none=>simp[h] at hr
  |some q=>
   rw[h] at hr;cases q with
   |true=>exact iha S K K' hK r hr
   |false=>exact ihb S K K' hK r hr
 |block id c ih=>
  intro S K K' hK r hr;simp only[Nq] at hr|-;cases h:Nq X K L fn c S with
  |none=>simp[h] at hr
  |some q=>have he0:=ih S K K' hK q h;dsimp only at he0;rw[he0];rw[h] at hr;exact hr
 |_=>intro S;exact Up.const _
def axl(X:Ctx)(L:Loops)(f:Nat)(args:List V)(cells:List Cell):Up λK=>afB X K L f args cells:=by
 intro K K' hK r hr;simp only[afB] at hr|-;cases hg:X.P.funcs[f]? with
 |none=>simp[hg] at hr
 |some g=>
  simp only[hg] at hr|-;cases hcd:g.body with
  |none=>simp[hcd] at hr
  |some c=>
   simp only[hcd] at hr|-;revert hr;generalize (!(Nat.ble cells.length sF && Nat.ble args.length g.ntmps))=q;cases q with
   |true=>exact id
   |false=>
    simp only[bn];intro hr;split at hr
    ·rename_i tm m l he;cases h:Nq X K L f c ⟨tm,m⟩ with
     |none=>simp[h] at hr
     |some q=>have he0:=atT X L f c ⟨tm,m⟩ K K' hK q h;dsimp only at he0;rw[he0];rw[h] at hr;exact hr
    ·cases hr
def aBi{X:Ctx}{K:lQ}{L:Loops}{f:Nat}{args:List V}{cells:List Cell}{r:List Row×List Cell}(hL:LOk X K f L (loops (codeOf X.P f)))(h:afB X K L f args cells=some r):body X K f args cells=some r:=by
 simp only[afB] at h;simp only[body];cases hg:X.P.funcs[f]? with
 |none=>simp[hg] at h
 |some g=>
  simp only[hg] at h|-;cases hcd:g.body with
  |none=>simp[hcd] at h
  |some c=>
   simp only[hcd] at h|-;have hcode:codeOf X.P f=c:=by simp[codeOf,hg,hcd]
   rw[hcode] at hL;revert h;generalize (!(Nat.ble cells.length sF && Nat.ble args.length g.ntmps))=q;cases q with
   |true=>exact id
   |false=>
    simp only[bn];intro h;split at h
    ·rename_i tm m l he;simp only[he];cases hd:Nq X K L f c ⟨tm,m⟩ with
     |none=>simp[hd] at h
     |some q=>rw[axk hL hd];rw[hd] at h;exact h
    ·cases h
def axn{X:Ctx}{K:lQ}{L:Loops}{f:Nat}{args:List V}{cells:List Cell}{r:List Row×List Cell}(hp:X.Zw f=none)(hK:KLe K (call X))(hL:LOk X (call X) f L (loops (codeOf X.P f)))
  (h:afB X K L f args cells=some r):call X f args cells=some r:=by
 exact aBh (KLe.refl _) hp (aBi hL (axl X L f args cells K (call X) hK r h))
def aBj{X:Ctx}{K:lQ}{L:Loops}{fn:Nat}{c:Code}{S:St}{r:Ex×St}(hK:KLe K (call X))(hL:LOk X (call X) fn L (loops c))(h:Nq X K L fn c S=some r):den X (call X) fn c S=some r:=
 axk hL (atT X L fn c S K (call X) hK r h)
end Go.Vm
namespace Go.Vm
open Go
structure Res(α:Type) where
 β:Type
 o:Option β
 enc:β->α
def Res.val{α:Type}(r:Res α):Option α:=r.o.map r.enc
abbrev Vg:=Nat->List V->List Cell->Res (List Row×List Cell)
inductive Alt(α:Type):Type 1 where
 |leaf (β:Type) (enc:β->α)
 |sum (a b:Alt α)
def Alt.T{α:Type}:Alt α->Type
 | .leaf β _=>β
 | .sum a b=>a.T⊕b.T
def Alt.enc{α:Type}:(a:Alt α)->a.T->α
 | .leaf _ enc,x=>enc x
 | .sum a _,.inl x=>a.enc x
 | .sum _ b,.inr x=>b.enc x
structure ab6(α:Type) where
 alt:Alt α
 o:Option alt.T
def ab6.val{α:Type}(r:ab6 α):Option α:=r.o.map r.alt.enc
def ab6.none{α:Type}:ab6 α:=⟨.leaf Empty Empty.elim,.none⟩
abbrev WY:=Nat->St->ab6 (Ex×St)
def Vg.to(K:Vg):lQ:=λf a c=>(K f a c).val
def WY.to(L:WY):Loops:=λn S=>(L n S).val
def Res.none{α:Type}:Res α:=⟨Empty,.none,Empty.elim⟩
section
variable {R:Type}
def pz{α β γ:Type}(r:α⊕β)(f:α->Option γ)(g:β->Option γ):Option γ:=match r with
 | .inl x=>f x
 | .inr y=>g y
def Alt.go{α:Type}:(a:Alt α)->a.T->(α->Option R)->Option R
 | .leaf _ enc=>λx k=>k (enc x)
 | .sum a b=>λx k=>pz x (λx=>a.go x k) (λy=>b.go y k)
def Alt.go_eq{α:Type}(k:α->Option R):∀(a:Alt α) (x:a.T),a.go x k=k (a.enc x)
 | .leaf _ enc,x=>rfl
 | .sum a _,.inl x=>Alt.go_eq k a x
 | .sum _ b,.inr x=>Alt.go_eq k b x
def ab6.ah9{α:Type}{r:ab6 α}{x:α}(h:r.val=some x):∃y,r.o=some y/\r.alt.enc y=x:=by simpa[ab6.val,Option.map_eq_some_iff] using h
def Res.ah9{α:Type}{r:Res α}{x:α}(h:r.val=some x):∃y,r.o=some y/\r.enc y=x:=by simpa[Res.val,Option.map_eq_some_iff] using h
def Acc.aoD{α:Type}:Acc α->Mem->Log->(α->Mem->Log->Option R)->Option R
 | .ret a,m,l,k=>k a m l
 | .fail,_,_,_=>none
 | .get i c,m,l,k=>(c (Vm.get i m)).aoD m (l.rd i) k
 | .set i x c,m,l,k=>c.aoD (put i x m) (l.wr i) k
 | .opt o c,m,l,k=>match o with|some b=>(c b).aoD m l k|none=>none
 | .guard b c,m,l,k=>match b with|true=>c.aoD m l k|false=>none
def asI(X:Ctx)(K:Vg)(fn dst f:Nat)(args:List V):Acc V:=do
 let g<-op' X.P.funcs[f]?
 ck (g.body.isSome && !(g.name == "runtime.NumGoroutine"))
 let imp:=Vb X.UN f 0 [] args
 let args<-XF X.UN f 0 args
 let cells<-Zy X.UN imp imp
 let(args,Uu)<-XH X.UN imp f 0 args
 ck (Uu.all λr=> !(mem? r imp))
 let b<-op' (K f args cells).o
 let out:=(K f args cells).enc b
 ck (Nat.beq out.1.length g.resultTypes.size)
 let need:= !(Uu.isEmpty) &&(aaI X.P (X.UN.att fn dst) 0 g.resultTypes.toList && imp.isEmpty)
 ck (bif need then out.1.all bg else true)
 freeze (bif need then[] else Uu)
 ae6 X dst out.2 0 imp
 let vs<-abK X (X.UN.att fn dst) dst out.1 0 g.resultTypes.toList
 match vs with
 |[v]=>pure v
 |vs=>pure (.FQ vs)
def aGl(X:Ctx)(K:Vg)(fn:Nat)(tm:mg)(o:Oper):Acc V:=
 match o.op with
 | .call {callee:=.value f,args,argTypes}=>match ev X.P tm 0 f with
  | .clo g first caps=>asI X K fn (o.dst.getD 0) g (first++wJ X.P tm args.toList argTypes.toList++caps)
  |_=> .fail
 |_=>vop X (λ_ _ _=>none) fn tm o
def axo(x:D)(k:D->Option R):Option R:=match x with
 | .int j n=>k (.int j n)
 | .bool b=>k (.bool b)
 | .str s=>k (.str s)
 | .VG=>k .VG
 | .sl o s rows=>match o with
  |true=>k (.sl true s rows)
  |false=>k (.sl false s rows)
mutual
def JU(v:V)(k:V->Option R):Option R:=match v with
 | .d x=>axo x λx=>k (.d x)
 | .nil s=>k (.nil s)
 | .own r v=>k (.own r v)
 | .ptr r o=>k (.ptr r o)
 | .Ej r v i o=>k (.Ej r v i o)
 | .uN row o=>k (.uN row o)
 | .Em v=>JU v λv=>k (.Em v)
 | .clo f a b=>Vh a λa=>Vh b λb=>k (.clo f a b)
 | .agg cs=>Vh cs λcs=>k (.agg cs)
 | .FQ cs=>Vh cs λcs=>k (.FQ cs)
 | .undef=>k .undef
def Vh(vs:List V)(k:List V->Option R):Option R:=match vs with
 |[]=>k []
 |v::vs=>JU v λv=>Vh vs λvs=>k (v::vs)
end
def aaN(tm:mg)(k:mg->Option R):Option R:=match tm with
 |[]=>k []
 |(t,v)::tm=>JU v λv=>aaN tm λtm=>k ((t,v)::tm)
def aaO(c:Cell)(k:Cell->Option R):Option R:=match c with
 | .box t cs=>Vh cs λcs=>k (.box t cs)
 | .arr fz fl ver s rows=>k (.arr fz fl ver s rows)
 | .dead=>k .dead
 | .qN t v=>JU v λv=>k (.qN t v)
def VT(m:Mem)(k:Mem->Option R):Option R:=match m with
 |[]=>k []
 |(r,c)::m=>aaO c λc=>VT m λm=>k ((r,c)::m)
def avx(L:List (Nat×Nat))(r:Nat)(k:Nat->Option R):Option R:=match get r L with
 |some j=>k j
 |none=>k r
mutual
def U3(L:List (Nat×Nat))(v:V)(k:V->Option R):Option R:=match v with
 | .d x=>k (.d x)
 | .nil s=>k (.nil s)
 | .own r v=>avx L r λr=>k (.own r v)
 | .ptr r o=>avx L r λr=>k (.ptr r o)
 | .Ej r v i o=>avx L r λr=>k (.Ej r v i o)
 | .uN row o=>k (.uN row o)
 | .Em v=>U3 L v λv=>k (.Em v)
 | .clo f a b=>YF L a λa=>YF L b λb=>k (.clo f a b)
 | .agg cs=>YF L cs λcs=>k (.agg cs)
 | .FQ vs=>YF L vs λvs=>k (.FQ vs)
 | .undef=>k .undef
def YF(L:List (Nat×Nat))(vs:List V)(k:List V->Option R):Option R:=match vs with
 |[]=>k []
 |v::vs=>U3 L v λv=>YF L vs λvs=>k (v::vs)
end
def am8(L:List (Nat×Nat))(tm:mg)(k:mg->Option R):Option R:=match tm with
 |[]=>k []
 |(t,v)::tm=>U3 L v λv=>am8 L tm λtm=>k ((t,v)::tm)
def atU(L:List (Nat×Nat))(c:Cell)(k:Cell->Option R):Option R:=match c with
 | .box t cs=>YF L cs λcs=>k (.box t cs)
 | .arr fz fl ver s rows=>k (.arr fz fl ver s rows)
 | .dead=>k .dead
 | .qN t v=>U3 L v λv=>k (.qN t v)
def ag0(L:List (Nat×Nat))(m:Mem)(k:Mem->Option R):Option R:=match m with
 |[]=>k []
 |(r,c)::m=>avx L r λr=>atU L c λc=>ag0 L m λm=>VT (put r c m) k
def am9(l:List Nat)(k:List Nat->Option R):Option R:=match l with
 |[]=>k []
 |x::l=>am9 l λl=>k (x::l)
def ag1(l:List (Nat×Nat))(k:List (Nat×Nat)->Option R):Option R:=match l with
 |[]=>k []
 |(x,y)::l=>ag1 l λl=>k ((x,y)::l)
def ana(S:St)(k:St->Option R):Option R:=am9 (aAX S.tm S.mem) λo=>match o with
 |[]=>k S
 |a::o=>ag1 (aAY names (a::o)) λL=>match acP L (S.mem.map (·.1)) with
  |true=>am8 L S.tm λtm=>ag0 L S.mem λm=>k ⟨tm,m⟩
  |false=>k S
def anb(ops:Array Oper)(tm:mg)(o:Oper)(k:Bool->mg->Option R):Option R:=
 match o.guard with
 |none=>k true tm
 |some (j,want)=>match ops[j]? with
  |some oj=>match oj.dst with
   |some d=>match aaY d tm with
    | .d (.bool b)=>match b with
     |true=>k want (put d (.d (.bool true)) tm)
     |false=>k (!want) (put d (.d (.bool false)) tm)
    | .FQ vs=>match vs with
     |[]=>k false (put d (.FQ []) tm)
     |_::_=>none
    |_=>none
   |none=>none
  |none=>none
def asJ(X:Ctx)(K:Vg)(fn:Nat)(ops:Array Oper)(i:Nat)(S:St)(k:St->Log->Option R):Option R:=
 match ops[i]? with
 |none=>none
 |some o=>anb ops S.tm o λb tm=>match b with
  |false=>k ⟨ae7 (Zr X.P fn) o.dst tm,S.mem⟩ .none
  |true=>(aGl X K fn tm o).aoD S.mem .none λv m l=>bif ZA (Zr X.P fn) o.dst then JU v λv=>k ⟨aky o.dst v tm,m⟩ l else none
def ag2(X:Ctx)(K:Vg)(fn:Nat)(ops:Array Oper):List Nat->St->List (Nat×Log)->(St->List (Nat×Log)->Option R)->Option R
 |[],S,L,k=>k S L
 |i::is,S,L,k=>asJ X K fn ops i S λS' l=>ag2 X K fn ops is S' ((i,l)::L) k
def aEB(X:Ctx)(ops:Array Oper)(L:List (Nat×Log)):Bool->Bool
 |false=>true
 |true=>X.P.follows .mixedOrders &&(backOk ops && ZB ops (Region.before ops) L)
def ab7(X:Ctx)(K:Vg)(fn id:Nat)(ops:Array Oper)(draw:Bool)(S:St)(k:St->List (Nat×Log)->Option R):Option R:=ag2 X K fn ops (List.range ops.size) S [] k
def anc(X:Ctx)(K:Vg)(fn id:Nat)(ops:Array Oper)(draw:Bool)(S:St)(k:St->Option R):Option R:=
 ab7 X K fn id ops draw S λS' L=>
  bif aEB X ops L draw then(match abN (X.UN.keep fn id) S' with
   |some S''=>aaN S''.tm λtm=>VT S''.mem λm=>ana ⟨tm,m⟩ k
   |none=>none) else none
def rep(k:Nat)(x:V):mg->mg
 |[]=>[]
 |(j,y)::l=>match Nat.beq k j with
  |true=>(j,x)::l
  |false=>(j,y)::rep k x l
def aBk(c:Operand)(b:Bool)(S:St):St:=match c with
 | .tmp i=>⟨rep i (.d (.bool b)) S.tm,S.mem⟩
 |_=>S
def atV{k:Nat}{x:V}:∀{l:mg},get k l=some x->rep k x l=l
 |[],h=>rfl
 |(j,y)::l,h=>by
  simp only[get] at h;rw[rep];cases hb:Nat.beq k j with
  |true=>rw[hb] at h;simp only[aK,je] at h;rw[h]
  |false=>rw[hb] at h;simp only;rw[atV h]
def atW{P:Program}{c:Operand}{b:Bool}{S:St}(h:ev P S.tm 0 c=.d (.bool b)):aBk c b S=S:=by
 cases c with
 |tmp i=>
  simp only[ev,aaY] at h;cases hg:get i S.tm with
  |none=>rw[hg] at h;cases h
  |some v=>rw[hg] at h;simp only at h;subst h;rw[aBk,atV hg]
 |_=>rfl
def ab8(X:Ctx)(K:Vg)(L:WY)(fn:Nat):Code->St->(Ex->St->Option R)->Option R
 | .skip,S,k=>k .normal S
 | .region id ops draw,S,k=>anc X K fn id ops draw S λS'=>k .normal S'
 | .seq a b,S,k=>ab8 X K L fn a S λe S'=>match e with
  | .normal=>ab8 X K L fn b S' k
  |e=>k e S'
 | .cond c a b,S,k=>match ev X.P S.tm 0 c with
  | .d (.bool t)=>(match t with
   |true=>ab8 X K L fn a (aBk c true S) k
   |false=>ab8 X K L fn b (aBk c false S) k)
  |_=>none
 | .block id c,S,k=>ab8 X K L fn c S λe S'=>match e with
  | .exit j=>bif Nat.beq j id then k .normal S' else k (.exit j) S'
  |e=>k e S'
 | .loop c,S,k=>match(L (lid c) S).o with
  |some b=>(L (lid c) S).alt.go b λr=>k r.1 r.2
  |none=>none
 | .exit id,S,k=>k (.exit id) S
 | .ret,S,k=>k .ret S
 |_,_,_=>none
def ane(X:Ctx)(g:Func)(n:Nat)(S:St)(k:List Row->List Cell->Option R):Option R:=
 (do
  let rows<-aaJ X.P S.tm g.results.toList g.resultTypes.toList
  let cells<-Zy X.UN (xG n) (xG n)
  pure (rows,cells):Acc (List Row×List Cell)).aoD S.mem .none λr _ _=>k r.1 r.2
def bodyC(X:Ctx)(K:Vg)(L:WY)(f:Nat)(args:List V)(cells:List Cell)(k:List Row->List Cell->Option R):Option R:=
 match X.P.funcs[f]? with
 |some g=>match g.body with
  |some c=>bif !(Nat.ble cells.length sF && Nat.ble args.length g.ntmps) then none else(entry X f g args cells).aoD (uP 0 cells) .none λtm m _=>
   aaN tm λtm=>VT m λm=>ab8 X K L f c ⟨tm,m⟩ λe S=>match e with
    | .normal=>ane X g cells.length S k
    | .ret=>ane X g cells.length S k
    | .exit _=>none
  |none=>none
 |none=>none
def anf{α:Type}(A:Acc α):∀(m:Mem) (l:Log) (k:α->Mem->Log->Option R),A.aoD m l k=(A.run m l).bind λr=>k r.1 r.2.1 r.2.2:=by
 induction A with
 |ret a=>intro m l k;rfl
 |fail=>intro m l k;rfl
 |get i c ih=>intro m l k;exact ih _ _ _ _
 |set i x c ih=>intro m l k;exact ih _ _ _
 |opt o c ih=>intro m l k;cases o with
  |none=>rfl
  |some b=>exact ih b _ _ _
 |guard b c ih=>intro m l k;cases b with
  |false=>rfl
  |true=>exact ih _ _ _
def avy(x:D)(k:D->Option R):axo x k=k x:=by
 cases x with
 |sl o s rows=>cases o<;>rfl
 |_=>rfl
mutual
def XW:∀(v:V) (k:V->Option R),JU v k=k v
 | .d x,k=>by simp only[JU,avy]
 | .nil s,k=>by simp only[JU]
 | .own r v,k=>by simp only[JU]
 | .ptr r o,k=>by simp only[JU]
 | .Ej r v i o,k=>by simp only[JU]
 | .uN row o,k=>by simp only[JU]
 | .Em v,k=>by simp only[JU];rw[XW v]
 | .clo f a b,k=>by simp only[JU];rw[SB a,SB b]
 | .agg cs,k=>by simp only[JU];rw[SB cs]
 | .FQ cs,k=>by simp only[JU];rw[SB cs]
 | .undef,k=>by simp only[JU]
def SB:∀(vs:List V) (k:List V->Option R),Vh vs k=k vs
 |[],k=>by simp only[Vh]
 |v::vs,k=>by simp only[Vh];rw[XW v,SB vs]
end
def ab9:∀(tm:mg) (k:mg->Option R),aaN tm k=k tm
 |[],k=>rfl
 |(t,v)::tm,k=>by simp only[aaN];rw[XW v,ab9 tm]
def ang(c:Cell)(k:Cell->Option R):aaO c k=k c:=by
 cases c with
 |box t cs=>simp only[aaO,SB]
 |qN t v=>simp only[aaO,XW]
 |_=>rfl
def WZ:∀(m:Mem) (k:Mem->Option R),VT m k=k m
 |[],k=>rfl
 |(t,v)::m,k=>by simp only[VT];rw[ang v,WZ m]
def ag3(L:List (Nat×Nat))(r:Nat)(k:Nat->Option R):avx L r k=k (ren L r):=by unfold avx ren;cases get r L<;>rfl
mutual
def ac5(L:List (Nat×Nat)):∀(v:V) (k:V->Option R),U3 L v k=k (UQ L v)
 | .d x,k=>by simp only[U3,UQ]
 | .nil s,k=>by simp only[U3,UQ]
 | .own r v,k=>by simp only[U3,UQ,ag3]
 | .ptr r o,k=>by simp only[U3,UQ,ag3]
 | .Ej r v i o,k=>by simp only[U3,UQ,ag3]
 | .uN row o,k=>by simp only[U3,UQ]
 | .Em v,k=>by simp only[U3,UQ];rw[ac5 L v]
 | .clo f a b,k=>by simp only[U3,UQ];rw[VB L a,VB L b]
 | .agg cs,k=>by simp only[U3,UQ];rw[VB L cs]
 | .FQ vs,k=>by simp only[U3,UQ];rw[VB L vs]
 | .undef,k=>by simp only[U3,UQ]
def VB(L:List (Nat×Nat)):∀(vs:List V) (k:List V->Option R),YF L vs k=k (Zz L vs)
 |[],k=>by simp only[YF,Zz]
 |v::vs,k=>by simp only[YF,Zz];rw[ac5 L v,VB L vs]
end
def alF(L:List (Nat×Nat)):∀(tm:mg) (k:mg->Option R),am8 L tm k=k (ahw L tm)
 |[],k=>rfl
 |(t,v)::tm,k=>by simp only[am8,ahw];rw[ac5 L v,alF L tm]
def axp(L:List (Nat×Nat))(c:Cell)(k:Cell->Option R):atU L c k=k (ahv L c):=by
 cases c with
 |box t cs=>simp only[atU,ahv,VB]
 |qN t v=>simp only[atU,ahv,ac5]
 |_=>rfl
def aia(L:List (Nat×Nat)):∀(m:Mem) (k:Mem->Option R),ag0 L m k=k (VH L m)
 |[],k=>rfl
 |(r,c)::m,k=>by simp only[ag0,VH,ag3,axp];rw[aia L m,WZ]
def alG:∀(l:List Nat) (k:List Nat->Option R),am9 l k=k l
 |[],k=>rfl
 |x::l,k=>by simp only[am9];rw[alG l]
def aib:∀(l:List (Nat×Nat)) (k:List (Nat×Nat)->Option R),ag1 l k=k l
 |[],k=>rfl
 |(x,y)::l,k=>by simp only[ag1];rw[aib l]
def avz(S:St)(k:St->Option R):ana S k=k (canon S):=by
 unfold ana canon;rw[alG];cases aAX S.tm S.mem with
 |nil=>rfl
 |cons a o=>
  simp only[aib,amT];cases acP (aAY names (a::o)) (S.mem.map (·.1)) with
  |true=>simp only[alF,aia]
  |false=>rfl
def acd{α:Type}(a b:Acc α):Prop:=∀m l,a.run m l=b.run m l
def acd.refl{α:Type}(a:Acc α):acd a a:=λ_ _=>rfl
def acd.bind{α β:Type}{a:Acc α}{f g:α->Acc β}(h:∀x,acd (f x) (g x)):acd (a>>=f) (a>>=g):=by
 intro m l;rw[run_bind,run_bind];cases a.run m l with
 |none=>rfl
 |some r=>obtain⟨x,m,l⟩:=r;exact h x m l
def acd.enc{α β γ:Type}{o:Option β}{enc:β->α}{f:α->Acc γ}:acd (op' o>>=λb=>f (enc b)) (op' (o.map enc)>>=f):=by intro m l;rw[run_bind,run_bind];cases o<;>rfl
def asK{X:Ctx}{K:Vg}{fn dst f:Nat}{args:List V}{m:Mem}{l:Log}:(asI X K fn dst f args).run m l=(acN X K.to fn dst f args).run m l:=by
 revert m l;show acd _ _;unfold asI acN;refine acd.bind λg=>acd.bind λ_=>acd.bind λargs=>acd.bind λcells=>acd.bind fun⟨args,Uu⟩=>acd.bind λ_=> ?_
 exact acd.enc (o:=(K f args cells).o) (enc:=(K f args cells).enc) (f:=λout=>do
  ck (Nat.beq out.1.length g.resultTypes.size)
  ck (bif(!(Uu.isEmpty) &&(aaI X.P (X.UN.att fn dst) 0 g.resultTypes.toList &&(Vb X.UN _ 0 [] _).isEmpty)) then out.1.all bg else true)
  freeze (bif(!(Uu.isEmpty) &&(aaI X.P (X.UN.att fn dst) 0 g.resultTypes.toList &&(Vb X.UN _ 0 [] _).isEmpty)) then[] else Uu)
  ae6 X dst out.2 0 (Vb X.UN _ 0 [] _)
  let vs<-abK X (X.UN.att fn dst) dst out.1 0 g.resultTypes.toList
  match vs with
  |[v]=>pure v
  |vs=>pure (.FQ vs))
def axq{X:Ctx}{K:Vg}{fn:Nat}{tm:mg}{o:Oper}{m:Mem}{l:Log}:(aGl X K fn tm o).run m l=(vop X K.to fn tm o).run m l:=by
 obtain⟨dst,op,type,pos,after,guard⟩:=o;cases op<;>try rfl
 case call c=>
  obtain⟨callee,args,tys⟩:=c;cases callee with
  |value f=>
   simp only[aGl,vop];cases ev X.P tm 0 f with
   |clo g a b=>exact asK
   |_=>rfl
  |invoke r m=>rfl
  |builtin b=>cases b<;>rfl
 case makeFunc f a b=>cases f<;>rfl
 case slice a b c d e=>cases e<;>rfl
def asL(ops:Array Oper)(tm:mg)(o:Oper)(k:Bool->mg->Option R):anb ops tm o k=(Gn ops tm o).bind λr=>k r.1 r.2:=by
 unfold anb Gn;cases o.guard with
 |none=>rfl
 |some jw=>
  obtain⟨j,want⟩:=jw;simp only;cases ops[j]? with
  |none=>rfl
  |some oj=>
   simp only;cases oj.dst with
   |none=>rfl
   |some d=>
    simp only;cases aaY d tm with
    |d x=>cases x with
     |bool b=>cases b<;>rfl
     |_=>rfl
    |FQ vs=>cases vs<;>rfl
    |_=>rfl
def avA(X:Ctx)(K:Vg)(fn:Nat)(ops:Array Oper)(i:Nat)(S:St)(k:St->Log->Option R):asJ X K fn ops i S k=(Ee X K.to fn ops i S).bind λr=>k r.1 r.2:=by
 unfold asJ Ee;cases ops[i]? with
 |none=>rfl
 |some o=>
  simp only[asL];cases Gn ops S.tm o with
  |none=>rfl
  |some r=>
   obtain⟨b,tm⟩:=r;cases b with
   |false=>rfl
   |true=>
    simp only[Option.bind_some,anf,axq];cases(vop X K.to fn tm o).run S.mem .none with
    |none=>rfl
    |some r=>
     obtain⟨v,m,l⟩:=r;simp only[Option.bind_some];cases ZA (Zr X.P fn) o.dst with
     |false=>rfl
     |true=>simp only[aK,XW];rfl
def aic(X:Ctx)(K:Vg)(fn:Nat)(ops:Array Oper):∀(is:List Nat) (S:St) (L:List (Nat×Log)) (k:St->List (Nat×Log)->Option R),ag2 X K fn ops is S L k=(Pg X K.to fn ops is S L).bind λr=>k r.1 r.2
 |[],S,L,k=>rfl
 |i::is,S,L,k=>by
  simp only[ag2,aej,avA];cases Ee X K.to fn ops i S with
  |none=>rfl
  |some r=>simp only[Option.bind_some];exact aic X K fn ops is _ _ k
def akH(X:Ctx)(K:Vg)(fn id:Nat)(ops:Array Oper)(draw:Bool)(S:St)(k:St->List (Nat×Log)->Option R):ab7 X K fn id ops draw S k=(KO X K.to fn id ops draw S).bind λr=>k r.1 r.2:=by rw[ab7,aic];rfl
def asM(X:Ctx)(K:Vg)(fn id:Nat)(ops:Array Oper)(draw:Bool)(S:St)(k:St->Option R):anc X K fn id ops draw S k=(region X K.to fn id ops draw S).bind k:=by
 simp only[anc,ael,akH];cases KO X K.to fn id ops draw S with
 |none=>rfl
 |some r=>
  simp only[Option.bind_some];have hp:(match abN (X.UN.keep fn id) r.1 with
   |some S''=>aaN S''.tm λtm=>VT S''.mem λm=>ana ⟨tm,m⟩ k
   |none=>none)=(prune (X.UN.keep fn id) r.1).bind k:=by
   unfold prune;cases abN (X.UN.keep fn id) r.1 with
   |none=>rfl
   |some S''=>simp only[ab9,WZ,avz];rfl
  rw[hp];cases draw with
  |false=>rfl
  |true=>simp only[aEB];cases(X.P.follows .mixedOrders &&(backOk ops && ZB ops (Region.before ops) r.2))<;>rfl
def atX(X:Ctx)(K:Vg)(L:WY)(fn:Nat)(c:Code):∀(S:St) (k:Ex->St->Option R),ab8 X K L fn c S k=(Nq X K.to L.to fn c S).bind λr=>k r.1 r.2:=by
 induction c with
 |skip=>intro S k;rfl
 |region id ops draw=>intro S k;simp only[ab8,Nq,asM];cases region X K.to fn id ops draw S<;>rfl
 |seq a b iha ihb=>
  intro S k;simp only[ab8,Nq,iha];cases Nq X K.to L.to fn a S with
  |none=>rfl
  |some r=>
   obtain⟨e,S'⟩:=r;cases e with
   |normal=>exact ihb S' k
   |exit id=>rfl
   |ret=>rfl
 |cond c a b iha ihb=>
  intro S k;simp only[ab8,Nq,aa9];cases hev:ev X.P S.tm 0 c with
  |d x=>cases x with
   |bool t=>cases t with
    |true=>simp only[atW hev];exact iha S k
    |false=>simp only[atW hev];exact ihb S k
   |_=>rfl
  |_=>rfl
 |block id c ih=>
  intro S k;simp only[ab8,Nq,ih];cases Nq X K.to L.to fn c S with
  |none=>rfl
  |some r=>
   obtain⟨e,S'⟩:=r;cases e with
   |normal=>rfl
   |ret=>rfl
   |exit j=>simp only[Option.bind_some];cases Nat.beq j id<;>rfl
 |loop c ih=>intro S k;simp only[ab8,Nq,WY.to,ab6.val,Alt.go_eq];cases(L (lid c) S).o<;>rfl
 |exit id=>intro S k;rfl
 |ret=>intro S k;rfl
 |_=>intro S k;rfl
def alH(X:Ctx)(g:Func)(n:Nat)(S:St)(k:List Row->List Cell->Option R):ane X g n S k=(leave X g n S).bind λr=>k r.1 r.2:=by
 simp only[ane,leave,anf];split
 ·rename_i r m l he;simp only[he];rfl
 ·rename_i he;simp only[he];rfl
def axr(X:Ctx)(K:Vg)(L:WY)(f:Nat)(args:List V)(cells:List Cell)(k:List Row->List Cell->Option R):bodyC X K L f args cells k=(afB X K.to L.to f args cells).bind λr=>k r.1 r.2:=by
 simp only[bodyC,afB];cases X.P.funcs[f]? with
 |none=>rfl
 |some g=>
  simp only;cases g.body with
  |none=>rfl
  |some c=>
   simp only;generalize (!(Nat.ble cells.length sF && Nat.ble args.length g.ntmps))=q;cases q with
   |true=>rfl
   |false=>
    simp only[bn,anf];cases(entry X f g args cells).run (uP 0 cells) .none with
    |none=>rfl
    |some r=>
     obtain⟨tm,m,l⟩:=r;simp only[Option.bind_some,ab9,WZ,atX];cases Nq X K.to L.to f c ⟨tm,m⟩ with
     |none=>rfl
     |some r=>
      obtain⟨e,S⟩:=r;cases e with
      |normal=>simp only[Option.bind_some,alH]
      |ret=>simp only[Option.bind_some,alH]
      |exit j=>rfl
end
def axt{X:Ctx}{K:Vg}{L:WY}{f:Nat}{args:List V}{cells:List Cell}{r:List Row×List Cell}(hp:X.Zw f=none)(hK:KLe K.to (call X))(hL:LOk X (call X) f L.to (loops (codeOf X.P f)))
  (h:bodyC X K L f args cells (λa b=>some (a,b))=some r):call X f args cells=some r:=by
 refine axn hp hK hL ?_;rw[axr] at h;cases hb:afB X K.to L.to f args cells with
 |none=>rw[hb] at h;cases h
 |some q=>rw[hb] at h;exact h
def aBl{X:Ctx}{K:Vg}{L:WY}{fn:Nat}{c:Code}{S:St}{r:Ex×St}(hK:KLe K.to (call X))(hL:LOk X (call X) fn L.to (loops c))(h:ab8 X K L fn c S (λa b=>some (a,b))=some r):den X (call X) fn c S=some r:=by
 refine aBj hK hL ?_;rw[atX] at h;cases hb:Nq X K.to L.to fn c S with
 |none=>rw[hb] at h;cases h
 |some q=>rw[hb] at h;exact h
end Go.Vm
