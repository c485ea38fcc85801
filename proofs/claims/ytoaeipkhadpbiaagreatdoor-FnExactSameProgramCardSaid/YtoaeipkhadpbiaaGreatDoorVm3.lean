import Derived.Test.YtoaeipkhadpbiaaGreatDoorVm2
import Derived.LoopN
import Derived.CheckFast
set_option linter.defProp false
set_option linter.unusedVariables false
set_option linter.unusedSimpArgs false
namespace Go.Vm
open Go
section
variable {base:Nat} {U:Nat->Prop} {M0:List Nat} {w0 w w':World} {m m':Mem} {G G':GS} {X:Ctx}
def aHL(P:Program)(w:World)(s:Sem Value):((do pure (.value (<-s))):Sem Next).run P w=(s.run P w).andThen λg w'=> .ok (.value g) w':=by simp only[Sem.run_bind,Sem.run_pure]
def P6{o:Oper}{a:Act}{next:Act->World->Prop}{Q:Exit->Act->World->Prop}{s:Sem Value}{v:V}
  (he:(execOp a.eval o).run X.P w=((do pure (.value (<-s))):Sem Next).run X.P w) (h:Po base U M0 w0 w m G X.P s v m')
  (hn:∀g w' G',Nx base U M0 w0 w m G w' m' G'->bQ G'.μ m' (Gh U w' G') v g->next (a.put o.dst g) w'):o.wp X.P a w next Q:=by
 obtain⟨g,w',G',hr,hx,hs⟩:=h;exact VE (by rw[he,aHL,hr];rfl) (hn g w' G' hx hs)
def arQ{P:Program}{tm:oz}{xs:List Operand}{ts:List TypeId}{a:V}(h:CO P tm xs ts=[a]):∃x,xs=[x]/\a=ev P tm (ts.headD 0) x:=by
 cases xs with
 |nil=>simp[CO] at h
 |cons x xs=>
  cases xs with
  |nil=>simp only[CO,List.cons.injEq,and_true] at h;exact⟨x,rfl,h.symm⟩
  |cons _ _=>simp[CO] at h
def aeh{P:Program}{tm:oz}{xs:List Operand}{ts:List TypeId}{a b:V}(h:CO P tm xs ts=[a,b]):∃x y,xs=[x,y]/\a=ev P tm (ts.headD 0) x/\b=ev P tm (ts.tail.headD 0) y:=by
 cases xs with
 |nil=>simp[CO] at h
 |cons x xs=>
  cases xs with
  |nil=>simp[CO] at h
  |cons y xs=>
   cases xs with
   |nil=>simp only[CO,List.cons.injEq,and_true] at h;exact⟨x,y,rfl,h.1.symm,h.2.symm⟩
   |cons _ _=>simp[CO] at h
def XR{α:Type}{a:Array α}{l:List α}(h:a.toList=l):a=l.toArray:=by rw[<-h]
def aES(hg:aiT X (Gh U w G)){tm:oz}{a:Act}(hT:ae7 G.μ m (Gh U w G) tm a)(t:TypeId)(x:Operand):bQ G.μ m (Gh U w G) (evG X tm t x) (a.eval x):=by
 cases x with
 |global g=>
  simp only[evG];cases hr:X.glob g with
  |none=>simp[bQ]
  |some row=>simp only[bQ];exact⟨g,0,rfl,hg.row g row hr⟩
 |tmp i=>exact ZU (P:=X.P) hT t (.tmp i)
 |const v=>exact ZU (P:=X.P) hT t (.const v)
 |func f=>exact ZU (P:=X.P) hT t (.func f)
def aET{K:nC}(hK:aeg X K U M0 w0)(hA:At base U M0 w0 w m G){fn:Nat}{tm:oz}{a:Act}(hT:ae7 G.μ m (Gh U w G) tm a){o:Oper}{v:V}{l l':Log}(h:(vop X K fn tm o).run m l=some (v,m',l'))
  {next:Act->World->Prop} {Q:Exit->Act->World->Prop} (hn:∀g w' G',Nx base U M0 w0 w m G w' m' G'->bQ G'.μ m' (Gh U w' G') v g->next (a.put o.dst g) w'):o.wp X.P a w next Q:=by
 have E:=λt x=>ZU (P:=X.P) hT t x
 have EG:=λt x=>aES (RJ hA.first hK.gl) hT t x
 unfold vop at h;simp only at h;split at h
 ·rename_i x hop;obtain⟨rfl,rfl,_⟩:=rpu h;exact VE (by simp[execOp,hop]) (hn _ _ _ hA.nx (E _ x))
 ·rename_i x hop;obtain⟨rfl,rfl,_⟩:=rpu h;exact VE (by simp[execOp,hop]) (hn _ _ _ hA.nx (E _ x))
 ·rename_i c x y hop;refine P6 ?_ (aw7 hA (E _ c) (E _ x) (E _ y) h) hn;simp[execOp,hop]
 ·rename_i T hop;obtain⟨z,hz,h⟩:=bop h;replace h:=aF h;obtain⟨u,m2,l2,h2,h⟩:=h;obtain⟨rfl,rfl,_⟩:=rpu h;refine P6 ?_ (aw1 hA hz h2) hn;simp[execOp,hop]
 ·rename_i T x hop;obtain⟨hsz,h⟩:=bck h;obtain⟨hone,h⟩:=bck h;replace h:=aF h;obtain⟨u,m2,l2,h2,h⟩:=h;obtain⟨rfl,rfl,_⟩:=rpu h;refine P6 ?_ (aEN hA (E T x) hone h2) hn;simp[execOp,hop]
 ·rename_i T ps hop;refine P6 ?_ (auJ hA hT h) hn;simp[execOp,hop]
 ·rename_i t n ps hop;refine P6 ?_ (ajf hA hT h) hn;simp[execOp,hop]
 ·rename_i t x hop;obtain⟨g,hr,rfl,hs⟩:=awZ hA (EG 0 x) h;refine P6 ?_ (Po.same hA hr hs) hn;simp[execOp,hop]
 ·rename_i t x y hop;replace h:=aF h;obtain⟨u,m1,l1,h1,h⟩:=h;obtain⟨rfl,rfl,_⟩:=rpu h;obtain⟨w',G',hr,hx⟩:=auH hA (E 0 x) (E t y) h1;refine wp_skip (w':=w') ?_ (hn _ _ _ hx trivial);simp[execOp,hop,hr]
 ·rename_i x hop;have hE:=EG o.type x;have key:∀{b:Nat} {q:Nat},a.eval x=.pointer (some ⟨b,q,none⟩)->v=evG X tm o.type x->m'=m->o.wp X.P a w next Q:=by intro b q hx hv hm;subst hm;refine VE (g:=a.eval x) ?_ (hn _ _ _ hA.nx (by rw[hv];exact hE));simp[execOp,hop,hx]
  split at h
  ·rename_i r off hv;simp only[run_pure,oL,uI] at h;rw[hv] at hE key;obtain⟨b,q,hp⟩:=hE.1;exact key hp h.1.symm h.2.1.symm
  ·rename_i row off hv;simp only[run_pure,oL,uI] at h;rw[hv] at hE key;obtain⟨b,q,hp,_⟩:=hE;exact key hp h.1.symm h.2.1.symm
  ·rename_i r ver i off hv;simp only[run_pure,oL,uI] at h;rw[hv] at hE key;obtain⟨b,q,hp⟩:=hE.1;exact key hp h.1.symm h.2.1.symm
  ·exact aQ h
 ·rename_i op t x y t' hop;refine P6 ?_ (aBo (ox:=x) (oy:=y) hA (E t x) (E t' y) h) hn;simp[execOp,hop]
 ·rename_i op t x hop;refine P6 ?_ (aHJ hA (E t x) h) hn;simp[execOp,hop]
 ·rename_i s d x hop;refine P6 ?_ (aoQ hA (E s x) h) hn;simp[execOp,hop]
 ·rename_i t x y hop;refine P6 ?_ (alb hA (E _ x) (E _ y) h) hn;simp[execOp,hop]
 ·rename_i t x lo hi hop;have gen:(ani X.P t (evG X tm t x) (lo.map (ev X.P tm 3)) (hi.map (ev X.P tm 3))).run m l=some (v,m',l')->o.wp X.P a w next Q:=by
   intro h;refine P6 ?_ (auN (glo:=lo.map a.eval) (ghi:=hi.map a.eval) hA (EG _ x) ?_ ?_ h) hn
   ·simp[execOp,hop]
   ·cases lo with
    |none=>rfl
    |some x=>exact⟨_,rfl,E _ x⟩
   ·cases hi with
    |none=>rfl
    |some x=>exact⟨_,rfl,E _ x⟩
  cases ht:X.U8.trunc fn (o.dst.getD 0) with
  |false=>rw[ht] at h;exact gen h
  |true=>
   rw[ht] at h;cases lo with
   |some z=>
    cases hi with
    |some _=>exact gen h
    |none=>refine P6 ?_ (aw6 hA (E _ x) (E _ z) h) hn;simp[execOp,hop]
   |none=>
    refine P6 ?_ (auO (ghi:=hi.map a.eval) hA (E _ x) ?_ h) hn
    ·simp[execOp,hop]
    ·cases hi with
     |none=>rfl
     |some x=>exact⟨_,rfl,E _ x⟩
 ·rename_i T x f hop;refine P6 ?_ (ak8 hA (E _ x) h) hn;simp[execOp,hop]
 ·rename_i T x f hop;refine P6 ?_ (auK hA (E _ x) h) hn;simp[execOp,hop]
 ·rename_i t x i hop;refine P6 ?_ (ala hA (EG _ x) (E _ i) h) hn;simp[execOp,hop]
 ·rename_i t x i hop;refine P6 ?_ (auL hA (E _ x) (E _ i) h) hn;simp[execOp,hop]
 ·rename_i x i hop;split at h
  ·rename_i vs hv;obtain⟨hi,rfl,rfl⟩:=nV h;have hE:=E 0 x;rw[hv] at hE;simp only[bQ] at hE;obtain⟨arr,ha,hs⟩:=hE;obtain⟨g,hg,hq⟩:=aw8 hs hi;refine VE (g:=g) ?_ (hn _ _ _ hA.nx hq);simp[execOp,hop,ha,Instr.extract,hg]
  ·exact aQ h
 ·rename_i f args tys hop;split at h
  ·rename_i g first caps hv
   have hE:=E 0 f;rw[hv] at hE;simp only[bQ] at hE;obtain⟨fa,ca,hf,hs1,hs2⟩:=hE;have hargs:=PY (PY hs1 (al0 (P:=X.P) hT args.toList tys.toList)) hs2;obtain⟨he,hc⟩:=aw9 hK hA hargs h;have harr:(fa.toList++args.toList.map a.eval++ca.toList).toArray=fa++args.map a.eval++ca:=by apply Array.ext';simp
   rw[harr] at he hc;unfold Oper.wp;have hrun:(execOp a.eval o).run X.P w=.ok (.enter g (fa++args.map a.eval++ca)) w:=by simp only[execOp,hop,resolve,hf,Deferred.ofValue,Sem.run_bind,Sem.run_pure,Result.andThen_ok,invoke,he]
   rw[hrun,Oper.upon_enter];refine Calls.mono hc ?_;rintro e w' ⟨g',G',rfl,hx,hq⟩;exact hn g' w' G' hx hq
  ·exact aQ h
 ·rename_i args tys hop;split at h
  ·rename_i x hx;obtain⟨ox,hxs,rfl⟩:=arQ hx;obtain⟨hk,h⟩:=bck h;have hx0:=E (tys.toList.headD 0) ox;unfold aHw at hk;split at hk
   ·rename_i t ht;have hxs:=XR hxs;have hts:=XR ht;refine P6 (s:=Builtin.len_ #[t] o.type #[a.eval ox]) ?_ (aBl hA hx0 ?_ ?_ h) hn
    ·simp[execOp,hop,resolve,invoke,builtin,hxs,hts]
    ·intro s hs;rw[hs] at hk;simp only at hk;cases hu:X.P.underlying t with
     |none=>rw[hu] at hk;cases hk
     |some d=>rw[hu] at hk;cases d<;>simp at hk;rfl
    ·intro hs;split at hk
     ·rename_i s hv;exact absurd hv (hs s)
     ·cases hu:X.P.underlying t with
      |none=>rw[hu] at hk;cases hk
      |some d=>rw[hu] at hk;cases d<;>simp at hk;exact⟨_,rfl⟩
   ·cases hk
  ·exact aQ h
 ·rename_i args tys hop;split at h
  ·rename_i x y t t' hxy ht;obtain⟨ox,oy,hxs,rfl,rfl⟩:=aeh hxy;have hxs:=XR hxs;have hts:=XR ht;refine P6 (s:=Builtin.append_ #[t,t'] o.type #[a.eval ox,a.eval oy]) ?_ (arM hA (E _ ox) (E _ oy) h) hn;simp[execOp,hop,resolve,invoke,builtin,hxs,hts]
  ·exact aQ h
 ·rename_i args tys hop;split at h
  ·rename_i k x k' y hxy;obtain⟨ox,oy,hxs,h1,h2⟩:=aeh hxy;have hxs:=XR hxs;have e1:=E (tys.toList.headD 0) ox;have e2:=E (tys.toList.tail.headD 0) oy;rw[<-h1] at e1;rw[<-h2] at e2;simp only[bQ,ro] at e1 e2;obtain⟨rfl,rfl,_⟩:=rpu h;refine VE (g:=.int k (bif decide (x<y) then y else x)) ?_ (hn _ _ _ hA.nx (by simp[bQ,ro]))
   by_cases hlt:x<y<;>simp[execOp,hop,resolve,invoke,builtin,hxs,e1,e2,Builtin.max_,Builtin.max2,hlt]
  ·exact aQ h
 ·rename_i args tys hop;split at h
  ·rename_i k x k' y hxy;obtain⟨ox,oy,hxs,h1,h2⟩:=aeh hxy;have hxs:=XR hxs;have e1:=E (tys.toList.headD 0) ox;have e2:=E (tys.toList.tail.headD 0) oy;rw[<-h1] at e1;rw[<-h2] at e2;simp only[bQ,ro] at e1 e2;obtain⟨rfl,rfl,_⟩:=rpu h;refine VE (g:=.int k (bif decide (y<x) then y else x)) ?_ (hn _ _ _ hA.nx (by simp[bQ,ro]))
   by_cases hlt:y<x<;>simp[execOp,hop,resolve,invoke,builtin,hxs,e1,e2,Builtin.min_,Builtin.min2,hlt]
  ·exact aQ h
 ·exact aQ h
end
end Go.Vm
namespace Go.Vm
open Go
def auT{α:Type}(A:Acc α):∀{m:Mem} {l:Log} {v:α} {m':Mem} {l':Log},A.run m l=some (v,m',l')->
  ∃R W,l'=⟨R++l.r,W++l.w⟩/\(∀k,k ∉ W->get k m'=get k m)/\
   ∀m2 l2,(∀k,k∈R->get k m2=get k m)->∃m2',A.run m2 l2=some (v,m2',⟨R++l2.r,W++l2.w⟩)/\(∀k,k∈W->get k m2'=get k m')/\(∀k,k ∉ W->get k m2'=get k m2):=by
 induction A with
 |ret a=>intro m l v m' l' h;simp only[Acc.run,oL,uI] at h;obtain⟨rfl,rfl,rfl⟩:=h;exact⟨[],[],rfl,λ_ _=>rfl,λm2 l2 _=>⟨m2,rfl,λ_ h=>by simp at h,λ_ _=>rfl⟩⟩
 |fail=>intro m l v m' l' h;simp[Acc.run] at h
 |get k c ih=>intro m l v m' l' h;simp only[Acc.run] at h;obtain⟨R,W,e,h1,h2⟩:=ih _ h;refine⟨R++[k],W,by rw[e];simp[Log.rd],h1,λm2 l2 hm=> ?_⟩;obtain⟨m2',q1,q2,q3⟩:=h2 m2 (l2.rd k) (λj hj=>hm j (by simp[hj]));refine⟨m2', ?_,q2,q3⟩;simp only[Acc.run];rw[hm k (by simp),q1];simp[Log.rd]
 |set k x c ih=>
  intro m l v m' l' h;simp only[Acc.run] at h;obtain⟨R,W,e,h1,h2⟩:=ih h;refine⟨R,W++[k],by rw[e];simp[Log.wr],λj hj=> ?_,λm2 l2 hm=> ?_⟩
  ·simp only[List.mem_append,List.mem_singleton,not_or] at hj;rw[h1 j hj.1,qF hj.2]
  ·obtain⟨m2',q1,q2,q3⟩:=h2 (put k x m2) (l2.wr k) (λj hj=>by
    rw[get_put,get_put];split
    ·rfl
    ·exact hm j hj)
   refine⟨m2', ?_,λj hj=> ?_,λj hj=> ?_⟩
   ·simp only[Acc.run];rw[q1];simp[Log.wr]
   ·by_cases hw:j∈W
    ·exact q2 j hw
    ·have hjk:j=k:=by simpa[hw] using hj
     subst hjk;rw[q3 j hw,h1 j hw,nD,nD]
   ·simp only[List.mem_append,List.mem_singleton,not_or] at hj;rw[q3 j hj.1,qF hj.2]
 |opt o c ih=>
  intro m l v m' l' h;cases o with
  |none=>simp[Acc.run] at h
  |some b=>simp only[Acc.run] at h;obtain⟨R,W,e,h1,h2⟩:=ih _ h;exact⟨R,W,e,h1,λm2 l2 hm=>by simpa only[Acc.run] using h2 m2 l2 hm⟩
 |guard b c ih=>
  intro m l v m' l' h;cases b with
  |false=>simp[Acc.run] at h
  |true=>simp only[Acc.run] at h;obtain⟨R,W,e,h1,h2⟩:=ih h;exact⟨R,W,e,h1,λm2 l2 hm=>by simpa only[Acc.run] using h2 m2 l2 hm⟩
def XT{P:Program}{tm Xn:oz}{t:TypeId}{x:Operand}(h:∀i,x=.tmp i->get i tm=get i Xn):ev P tm t x=ev P Xn t x:=by
 cases x with
 |tmp i=>simp only[ev,adU,h i rfl]
 |_=>rfl
def auU{X:Ctx}{tm Xn:oz}{t:TypeId}{x:Operand}(h:∀i,x=.tmp i->get i tm=get i Xn):evG X tm t x=evG X Xn t x:=by
 cases x with
 |global g=>rfl
 |tmp i=>exact XT (P:=X.P) (t:=t) h
 |const v=>rfl
 |func f=>rfl
def afe{P:Program}{tm Xn:oz}:∀{xs:List Operand} {ts:List TypeId},(∀x∈xs,∀i,x=.tmp i->get i tm=get i Xn)->CO P tm xs ts=CO P Xn xs ts
 |[],_,_=>rfl
 |x::xs,ts,h=>by simp only[CO];rw[XT (h x (by simp)),afe λy hy=>h y (by simp[hy])]
def XU{P:Program}{T:TypeId}{tm Xn:oz}:∀{ps:List (Nat×Operand)} {cs:List V},(∀x∈ps,∀i,x.2=.tmp i->get i tm=get i Xn)->BA P T tm ps cs=BA P T Xn ps cs
 |[],_,_=>rfl
 |(f,x)::ps,cs,h=>by
  simp only[BA];have e:∀t,ev P tm t x=ev P Xn t x:=λt=>XT (h (f,x) (by simp))
  have r:∀cs,BA P T tm ps cs=BA P T Xn ps cs:=λcs=>XU λy hy=>h y (by simp[hy])
  simp only[e,r]
def WJ{P:Program}{e:TypeId}{tm Xn:oz}:∀{ps:List (Nat×Operand)} {cs:List V},(∀x∈ps,∀i,x.2=.tmp i->get i tm=get i Xn)->yG P e tm ps cs=yG P e Xn ps cs
 |[],_,_=>rfl
 |(f,x)::ps,cs,h=>by
  simp only[yG];have e1:ev P tm e x=ev P Xn e x:=XT (h (f,x) (by simp));have r:∀cs,yG P e tm ps cs=yG P e Xn ps cs:=λcs=>WJ λy hy=>h y (by simp[hy])
  simp only[e1,r]
def XV{P:Program}{T:TypeId}{tm Xn:oz}:∀{ps:List (Nat×Operand)} {k:Nat},(∀x∈ps,∀i,x.2=.tmp i->get i tm=get i Xn)->BD P T tm k ps=BD P T Xn k ps
 |[],_,_=>rfl
 |(f,x)::ps,k,h=>by
  simp only[BD];have e:∀t,ev P tm t x=ev P Xn t x:=λt=>XT (h (f,x) (by simp))
  have r:∀k,BD P T tm k ps=BD P T Xn k ps:=λk=>XV λy hy=>h y (by simp[hy])
  simp only[e,r]
def auV{X:Ctx}{K:nC}{fn:Nat}{tm Xn:oz}{o:Oper}(h:∀x∈o.op.operands,∀i,x=.tmp i->get i tm=get i Xn):vop X K fn tm o=vop X K fn Xn o:=by
 obtain⟨dst,op,type,pos,after,guard⟩:=o;have e:∀{x:Operand} (t:TypeId),x∈op.operands->ev X.P tm t x=ev X.P Xn t x:=λt hx=>XT (h _ hx)
 have eG:∀{x:Operand} (t:TypeId),x∈op.operands->evG X tm t x=evG X Xn t x:=λt hx=>auU (h _ hx)
 cases op<;>simp only[vop]
 case call c=>
  obtain⟨callee,args,tys⟩:=c;have ea:∀ts,CO X.P tm args.toList ts=CO X.P Xn args.toList ts:=λts=>afe λx hx=>h x (by
   simp only[Op.operands,Call.operands];have hx':x∈args:=by simpa using hx
   cases callee<;>simp[hx'])
  cases callee with
  |value f=>simp only[ea,e (x:=f) 0 (by simp[Op.operands,Call.operands])]
  |invoke r m=>rfl
  |builtin b=>cases b<;>simp only[ea]
 case build t ps=>
  simp only[ank,arE,anj];have:∀cs,BA X.P t tm ps.toList cs=BA X.P t Xn ps.toList cs:=λcs=>XU λx hx=>h x.2 (by simp only[Op.operands];simp;exact⟨x.1,by simpa using hx⟩)
  have aHM:∀e cs,yG X.P e tm ps.toList cs=yG X.P e Xn ps.toList cs:=λe cs=>WJ λx hx=>h x.2 (by simp only[Op.operands];simp;exact⟨x.1,by simpa using hx⟩)
  simp only[this,aHM]
 case buildSlice t n ps=>
  simp only[WB];have:∀e,BD X.P e tm 0 ps.toList=BD X.P e Xn 0 ps.toList:=λe=>XV λx hx=>h x.2 (by simp only[Op.operands];simp;exact⟨x.1,by simpa using hx⟩)
  simp only[this]
 case load t x=>rw[eG 0 (by simp[Op.operands])]
 case nilCheck x=>rw[eG type (by simp[Op.operands])]
 case indexAddr t x i=>rw[eG t (by simp[Op.operands]),e 3 (x:=i) (by simp[Op.operands])]
 case slice t x lo hi mx=>
  cases mx with
  |some _=>rfl
  |none=>
   simp only;rw[eG t (by simp[Op.operands]),e t (x:=x) (by simp[Op.operands])];generalize X.U8.trunc fn (dst.getD 0)=b;cases lo with
   |none=>cases hi with
    |none=>cases b<;>rfl
    |some y=>cases b<;>simp only[Ir,Option.map_none,e 3 (x:=y) (by simp[Op.operands])]
   |some z=>cases hi with
    |none=>cases b<;>simp only[Ir,Option.map_none,e 3 (x:=z) (by simp[Op.operands])]
    |some y=>cases b<;>simp only[Ir,Option.map_none,e 3 (x:=y) (by simp[Op.operands]),e 3 (x:=z) (by simp[Op.operands])]
 all_goals first
  |rfl
  |(simp only[e _ (by simp[Op.operands]:_∈Op.operands _)];done)
  |skip
 all_goals(simp only[Op.operands] at e;simp_all)
end Go.Vm
namespace Go.Vm
open Go
structure Rel(base:Nat)(U:Nat->Prop)(M0:List Nat)(w0:World)(ν:Nat->Value)(M:Mem)(nt:Nat)(w:World)(S:St)(G:GS)(a:Act):Prop where
 at_:At base U M0 w0 w S.mem G
 tm:ae7 G.μ S.mem (Gh U w G) S.tm a
 size:a.tmps.size=nt
 defers:a.defers=[]
 imp:NI ν M G.μ S.mem
section
variable {base:Nat} {U:Nat->Prop} {M0:List Nat} {w0 w w':World} {ν:Nat->Value} {M:Mem} {nt:Nat} {S S':St} {G G':GS} {a:Act} {X:Ctx}
def aff(a:Act)(dst:Option Tmp)(g:Value):(a.put dst g).tmps.size=a.tmps.size:=by cases dst<;>simp[Act.put]
def put_defers(a:Act)(dst:Option Tmp)(g:Value):(a.put dst g).defers=a.defers:=by cases dst<;>rfl
def Rel.put(R:Rel base U M0 w0 ν M nt w S G a){m':Mem}{v:V}{g:Value}{dst:Option Nat}(hx:Nx base U M0 w0 w S.mem G w' m' G')(hs:bQ G'.μ m' (Gh U w' G') v g)(hd:ZM nt dst=true):
  Rel base U M0 w0 ν M nt w' ⟨ak4 dst v S.tm,m'⟩ G' (a.put dst g):=by
 refine⟨hx.at_, ?_,by rw[aff,R.size],by rw[put_defers,R.defers],Ad R.imp hx.mem⟩;intro t u hu;cases dst with
 |none=>simp only[ak4] at hu;obtain⟨h1,h2⟩:=R.tm t u hu;exact⟨h1,hx.bQ h2⟩
 |some d=>
  simp only[ak4] at hu;have hdn:d<nt:=by simpa[ZM] using hd
  rw[aff];rw[get_put] at hu;split at hu
  ·rename_i htd;simp only[oL] at hu;subst hu htd;refine⟨by rw[R.size];exact hdn, ?_⟩;have:((a.put (some t) g).tmps).getD t undef=g:=by simp only[Act.put,Array.getD_eq_getD_getElem?];rw[Array.getElem?_setIfInBounds_self_of_lt (by rw[R.size];exact hdn)];rfl
   rw[this];exact hs
  ·rename_i htd;obtain⟨h1,h2⟩:=R.tm t u hu;refine⟨h1, ?_⟩;have:((a.put (some d) g).tmps).getD t undef=a.tmps.getD t undef:=by simp only[Act.put,Array.getD_eq_getD_getElem?];rw[Array.getElem?_setIfInBounds_ne (Ne.symm htd)]
   rw[this];exact hx.bQ h2
def Rel.skip(R:Rel base U M0 w0 ν M nt w S G a)(dst:Option Nat):Rel base U M0 w0 ν M nt w ⟨aA4 dst S.tm,S.mem⟩ G (a.put dst Go.undef):=by
 refine⟨R.at_, ?_,by rw[aff,R.size],by rw[put_defers,R.defers],R.imp⟩;intro t u hu;cases dst with
 |none=>exact R.tm t u hu
 |some d=>
  simp only[aA4] at hu;rw[aBa] at hu;split at hu
  ·cases hu
  ·rename_i htd;obtain⟨h1,h2⟩:=R.tm t u hu;refine⟨by rw[aff];exact h1, ?_⟩;have:((a.put (some d) Go.undef).tmps).getD t Go.undef=a.tmps.getD t Go.undef:=by simp only[Act.put,Array.getD_eq_getD_getElem?];rw[Array.getElem?_setIfInBounds_ne (Ne.symm htd)]
   rw[this];exact h2
def Rel.skip'(R:Rel base U M0 w0 ν M nt w S G a)(dst:Option Nat):Rel base U M0 w0 ν M nt w ⟨ag4 nt dst S.tm,S.mem⟩ G (a.put dst Go.undef):=by
 unfold ag4;cases hd:ZM nt dst with
 |false=>exact R.skip dst
 |true=>exact R.put R.at_.nx (by simp only[bQ,dX];exact⟨#[],rfl,rfl⟩) hd
def Rel.tms(R:Rel base U M0 w0 ν M nt w S G a){tm:oz}(h:∀t,get t tm=get t S.tm):Rel base U M0 w0 ν M nt w ⟨tm,S.mem⟩ G a:=
 ⟨R.at_,λt u hu=>R.tm t u (by rw[<-h t];exact hu),R.size,R.defers,R.imp⟩
def aoR{t d:Nat}{x:V}{tm:oz}(h:adU d tm=x)(hx:x≠.undef):get t (put d x tm)=get t tm:=by
 rw[get_put];split
 ·rename_i e;subst e;unfold adU at h;cases hg:get t tm with
  |none=>rw[hg] at h;exact absurd h.symm hx
  |some v=>rw[hg] at h;simp at h;rw[h]
 ·rfl
def Va{ops:Array Oper}{o:Oper}{b:Bool}{tm tm':oz}(h:IX ops tm o=some (b,tm')):∀t,get t tm'=get t tm:=by
 intro t;unfold IX at h;split at h
 ·simp only[oL,uI] at h;rw[h.2]
 ·split at h
  ·split at h
   ·split at h
    ·rename_i c he;split at h
     all_goals
      simp only[oL,uI] at h;rw[<-h.2];exact aoR he (by simp)
    ·rename_i vs he;split at h
     ·simp only[oL,uI] at h;rw[<-h.2];exact aoR he (by simp)
     ·cases h
    ·cases h
   ·cases h
  ·cases h
def auW{ops:Array Oper}{o:Oper}{b:Bool}{tm':oz}(R:Rel base U M0 w0 ν M nt w S G a)(h:IX ops S.tm o=some (b,tm')):Region.wanted o (yielded ops a.tmps)=b:=by
 unfold IX at h;unfold Region.wanted;cases hg:o.guard with
 |none=>simp only[hg,oL,uI] at h;simpa using h.1
 |some jw=>
  obtain⟨j,want⟩:=jw;simp only[hg] at h|-;cases hj:ops[j]? with
  |none=>simp[hj] at h
  |some oj=>
   simp only[hj] at h;cases hd:oj.dst with
   |none=>simp[hd] at h
   |some d=>
    simp only[hd] at h;unfold adU at h;cases ht:get d S.tm with
    |none=>simp[ht] at h
    |some v=>
     simp only[ht] at h;obtain⟨h1,h2⟩:=R.tm d v ht;cases v with
     |d x=>
      cases x with
      |bool c=>
       simp only[bQ,ro] at h2;have hy:yielded ops a.tmps j=some c:=by
        simp only[yielded,hj,Option.bind_some,hd];have:a.tmps[d]? =some (.bool c):=by rw[<-h2,Array.getD_eq_getD_getElem?,Array.getElem?_eq_getElem h1];rfl
        rw[this]
       rw[hy];cases c<;>simp only[oL,uI] at h<;>obtain⟨rfl,_⟩:=h<;>cases want<;>rfl
      |_=>simp at h
     |ZH vs=>
      cases vs with
      |cons _ _=>simp at h
      |nil=>
       simp only[oL,uI] at h;simp only[bQ,dX] at h2;obtain⟨arr,h3,h4⟩:=h2;have hy:yielded ops a.tmps j=none:=by
        simp only[yielded,hj,Option.bind_some,hd];have:a.tmps[d]? =some (.tuple arr):=by rw[<-h3,Array.getD_eq_getD_getElem?,Array.getElem?_eq_getElem h1];rfl
        rw[this]
       rw[hy,<-h.1];rfl
     |_=>simp at h
def aoS{K:nC}(hK:aeg X K U M0 w0){fn:Nat}(hnt:Zu X.P fn=nt)(R:Rel base U M0 w0 ν M nt w S G a){ops:Array Oper}{i:Nat}{lg:Log}(h:GI X K fn ops i S=some (S',lg))
  {next:Act->World->Prop} {Q:Exit->Act->World->Prop} (hn:∀w' G' a',Rel base U M0 w0 ν M nt w' S' G' a'->(Gh U w G).le (Gh U w' G')->next a' w'):wpOp X.P ops Q i next a w:=by
 unfold GI at h;unfold wpOp;cases ho:ops[i]? with
 |none=>simp[ho] at h
 |some o=>
  simp only[ho] at h|-;cases hw:IX ops S.tm o with
  |none=>simp[hw] at h
  |some bt=>
   obtain⟨b,tm⟩:=bt;rw[auW R hw];have R':=R.tms (Va hw);cases b with
   |false=>simp only[hw,oL,uI] at h;obtain⟨rfl,rfl⟩:=h;simp only[Bool.false_eq_true,if_false];exact hn _ _ _ (hnt ▸ R'.skip' o.dst) (View.le_refl _)
   |true=>
    simp only[hw] at h;simp only[if_true];cases hv:(vop X K fn tm o).run S.mem .none with
    |none=>simp[hv] at h
    |some r=>
     obtain⟨v,m',l⟩:=r;simp only[hv] at h;cases hd:ZM (Zu X.P fn) o.dst with
     |false=>simp[hd] at h
     |true=>simp only[hd,aJ,oL,uI] at h;obtain⟨rfl,rfl⟩:=h;rw[hnt] at hd;exact .inl (aET hK R'.at_ R'.tm hv λg w' G' hx hs=>hn w' G' _ (R'.put hx hs hd) hx.view)
def ajl{K:nC}(hK:aeg X K U M0 w0){fn:Nat}(hnt:Zu X.P fn=nt){ops:Array Oper}{Q:Exit->Act->World->Prop}{rest:List Nat}:∀{is:List Nat} {w:World} {S S':St} {G:GS} {a:Act} {L L':List (Nat×Log)}
  (_:Rel base U M0 w0 ν M nt w S G a) (_:OY X K fn ops is S L=some (S',L')) (_:∀w' G' a',Rel base U M0 w0 ν M nt w' S' G' a'->(Gh U w G).le (Gh U w' G')->wpOps X.P ops Q rest a' w'),wpOps X.P ops Q (is++rest) a w
 |[],w,S,S',G,a,L,L',R,h,hn=>by simp only[OY,oL,uI] at h;obtain⟨rfl,rfl⟩:=h;exact hn w G a R (View.le_refl _)
 |i::is,w,S,S',G,a,L,L',R,h,hn=>by
  rw[zca,wpOps_cons];simp only[OY] at h;cases h1:GI X K fn ops i S with
  |none=>simp[h1] at h
  |some r=>obtain⟨S1,l1⟩:=r;simp only[h1] at h;exact aoS hK hnt R h1 λw1 G1 a1 R1 v1=>ajl hK hnt R1 h λw' G' a' R' v'=>hn w' G' a' R' (v1.trans' v')
def auX{K:nC}(hK:aeg X K U M0 w0){fn:Nat}(hnt:Zu X.P fn=nt){ops:Array Oper}{Q:Exit->Act->World->Prop}{is:List Nat}{w:World}{S S':St}{G:GS}{a:Act}{L L':List (Nat×Log)}
  (R:Rel base U M0 w0 ν M nt w S G a) (h:OY X K fn ops is S L=some (S',L')) (hn:∀w' G' a',Rel base U M0 w0 ν M nt w' S' G' a'->(Gh U w G).le (Gh U w' G')->Q .normal a' w'):wpOps X.P ops Q is a w:=by
 have:=ajl (rest:=[]) hK hnt R h hn
 rwa [List.append_nil] at this
end
end Go.Vm
namespace Go.Vm
open Go
def YI{k:Nat}{c:Cell}{m:Mem}(h:sortedK ((k,c)::m)=true):sortedK m=true:=by
 cases m with
 |nil=>rfl
 |cons x m=>obtain⟨j,d⟩:=x;simp only[sortedK,PO] at h;exact h.2
def ajm:∀{m:Mem} {k:Nat} {c:Cell},sortedK ((k,c)::m)=true->∀j d,(j,d)∈m->k<j
 |[],_,_,_,_,_,h=>by simp at h
 |(i,e)::m,k,c,h,j,d,hm=>by
  have h':=h;simp only[sortedK,PO] at h;have hki:k<i:=Nat.le_of_ble_eq_true h.1;simp only[List.mem_cons,uI] at hm;rcases hm with⟨rfl,_⟩|hm
  ·exact hki
  ·exact Nat.lt_trans hki (ajm (YI h') j d hm)
def get_mem{α:Type}{k:Nat}{x:α}:∀{l:List (Nat×α)},get k l=some x->(k,x)∈l
 |[],h=>by simp[get] at h
 |(j,y)::l,h=>by
  simp only[get] at h;cases hb:Nat.beq k j with
  |true=>rw[hb] at h;simp only[aJ,oL] at h;have:=MB hb;simp[this,h]
  |false=>rw[hb] at h;exact zmm _ (get_mem h)
def get_none{α:Type}{k:Nat}:∀{l:List (Nat×α)},(∀x,(k,x) ∉ l)->get k l=none
 |[],_=>rfl
 |(j,y)::l,h=>by
  have hne:k≠j:=λe=>h y (by simp[e])
  simp only[get,EM hne,aX];exact get_none λx hx=>h x (zmm _ hx)
def live:Cell->Bool
 | .dead=>false
 |_=>true
def Z4{all:Mem}{R:List Nat}{k:Nat}:∀{m:Mem},sortedK m=true->∀c',get k (EW all R m)=some c'↔∃c,get k m=some c/\live c=true/\k∈R/\c'=PU all c
 |[],_,c'=>by simp[EW,get]
 |(j,c)::m,hs,c'=>by
  have ih:=Z4 (all:=all) (R:=R) (k:=k) (YI hs) c';have hlt:=ajm hs
  by_cases hkj:k=j
  ·subst hkj;have hnone:get k m=none:=get_none λx hx=>Nat.lt_irrefl _ (hlt k x hx)
   have hnone':get k (EW all R m)=none:=by
    cases hg:get k (EW all R m) with
    |none=>rfl
    |some c2=>obtain⟨c3,h3,_⟩:=(Z4 (all:=all) (R:=R) (k:=k) (YI hs) c2).1 hg;rw[hnone] at h3;cases h3
   have hget:get k ((k,c)::m)=some c:=by simp[get]
   rw[hget];cases c with
   |dead=>simp[EW,hnone',live]
   |box t cs=>
    cases hm:mem? k R with
    |true=>
     have:=(PX k R).1 hm;simp only[EW,hm,aJ];rw[show∀(x:Cell) l,get k ((k,x)::l)=some x from λx l=>by simp[get]];constructor
     ·intro h;exact⟨_,rfl,rfl,this,(Option.some.inj h).symm⟩
     ·rintro⟨c,h1,_,_,rfl⟩;cases h1;rfl
    |false=>
     have hn:k ∉ R:=λh=>by rw[(PX k R).2 h] at hm;cases hm
     simp[EW,hm,hnone',hn]
   |arr fz fl ver s rows=>
    cases hm:mem? k R with
    |true=>
     have:=(PX k R).1 hm;simp only[EW,hm,aJ];rw[show∀(x:Cell) l,get k ((k,x)::l)=some x from λx l=>by simp[get]];constructor
     ·intro h;exact⟨_,rfl,rfl,this,(Option.some.inj h).symm⟩
     ·rintro⟨c,h1,_,_,rfl⟩;cases h1;rfl
    |false=>
     have hn:k ∉ R:=λh=>by rw[(PX k R).2 h] at hm;cases hm
     simp[EW,hm,hnone',hn]
  ·have hget:get k ((j,c)::m)=get k m:=by simp[get,EM hkj]
   rw[hget,<-ih];cases c with
   |dead=>simp[EW]
   |box t cs=>cases hm:mem? j R<;>simp[EW,hm,get,EM hkj]
   |arr fz fl ver s rows=>cases hm:mem? j R<;>simp[EW,hm,get,EM hkj]
def VI:∀(as l:List Nat) (x:Nat),x∈l\/x∈as->x∈ad3 as l
 |[],l,x,h=>by simpa[ad3] using h
 |a::as,l,x,h=>by
  simp only[ad3];cases hm:mem? a l with
  |true=>
   have:=(PX a l).1 hm;refine VI as l x ?_;rcases h with h|h
   ·exact .inl h
   ·simp only[List.mem_cons] at h;rcases h with rfl|h
    ·exact .inl this
    ·exact .inr h
  |false=>
   refine VI as (a::l) x ?_;simp only[List.mem_cons] at h|-;rcases h with h|h|h
   ·exact .inl (.inr h)
   ·exact .inl (.inl h)
   ·exact .inr h
def al5(m:Mem):∀(n:Nat) (l:List Nat) (x:Nat),x∈l->x∈reach m n l
 |0,_,_,h=>h
 |n+1,l,x,h=>al5 m n _ x (VI _ _ _ (.inl h))
def anv{μ:Nat->Value}{m m2:Mem}{h:View}{R:List Nat}(hm:∀r c,get r m=some c->live c=true->r∈R->get r m2=some (PU m c)):
  ∀(v:V) (g:Value),bQ μ m h v g->(∀r,r∈refs (ad1 m v)->r∈R)->bQ μ m2 h (ad1 m v) g
 | .d x,g,q,_=>q
 | .nil s,g,q,_=>q
 | .own r ver,g,q,hr=>by
  simp only[bQ] at q;simp only[ad1] at hr|-;cases hc:get r m with
  |none=>simp[hc] at q
  |some c=>
   rw[hc] at hr;cases c with
   |box _ _=>simp[bQ]
   |dead=>simp[bQ]
   |arr fz fl wZ s rows=>
    simp only[hc] at q;simp only at hr|-;cases hb:Nat.beq ver wZ with
    |false=>simp[bQ]
    |true=>rw[hb] at hr;have hv:=MB hb;have:=hm r _ hc rfl (hr r (by simp[refs]));simp only[aJ,bQ,this,PU];exact⟨q.1,Nat.le_refl _,λ_=>q.2.2 hv⟩
 | .ptr r off,g,q,hr=>by
  simp only[bQ] at q;simp only[ad1] at hr|-;cases hc:get r m with
  |none=>simp[hc] at q
  |some c=>
   rw[hc] at hr;cases c with
   |arr _ _ _ _ _=>simp[bQ]
   |dead=>simp[bQ]
   |box t cs=>simp only[hc] at q;have:=hm r _ hc rfl (hr r (by simp[refs]));simp only[bQ,this,PU];exact q
 | .MC r ver i off,g,q,hr=>by
  simp only[bQ] at q;simp only[ad1] at hr|-;cases hc:get r m with
  |none=>simp[hc] at q
  |some c=>
   rw[hc] at hr;cases c with
   |box _ _=>simp[bQ]
   |dead=>simp[bQ]
   |arr fz fl wZ s rows=>
    simp only[hc] at q;simp only at hr|-;cases hb:Nat.beq ver wZ with
    |false=>simp[bQ]
    |true=>rw[hb] at hr;have hv:=MB hb;have:=hm r _ hc rfl (hr r (by simp[refs]));simp only[aJ,bQ,this,PU];exact⟨q.1,Nat.le_refl _,λ_=>q.2.2 hv⟩
 | .IW row off,g,q,_=>q
 | .clo f a b,g,q,hr=>by simp only[bQ] at q;obtain⟨x,y,rfl,h1,h2⟩:=q;simp only[ad1,refs] at hr;simp only[ad1,bQ];exact⟨x,y,rfl,XW hm a _ h1 λr hx=>hr r (by simp[hx]),XW hm b _ h2 λr hx=>hr r (by simp[hx])⟩
 | .agg cs,g,q,hr=>by simp only[bQ] at q;obtain⟨x,rfl,h1⟩:=q;simp only[ad1,refs] at hr;simp only[ad1,bQ];exact⟨x,rfl,XW hm cs _ h1 hr⟩
 | .ZH cs,g,q,hr=>by simp only[bQ] at q;obtain⟨x,rfl,h1⟩:=q;simp only[ad1,refs] at hr;simp only[ad1,bQ];exact⟨x,rfl,XW hm cs _ h1 hr⟩
 | .undef,g,q,_=>q
where
 XW {μ:Nat->Value} {m m2:Mem} {h:View} {R:List Nat} (hm:∀r c,get r m=some c->live c=true->r∈R->get r m2=some (PU m c)):
  ∀(vs:List V) (gs:List Value),dX μ m h vs gs->(∀r,r∈SV (acr m vs)->r∈R)->dX μ m2 h (acr m vs) gs
 |[],gs,q,_=>q
 |v::vs,gs,q,hr=>by obtain⟨g,gs',rfl,h1,h2⟩:=xC q;simp only[acr,SV] at hr;simp only[acr,dX];exact⟨g,gs',rfl,anv hm v g h1 λr hx=>hr r (by simp[hx]),XW hm vs gs' h2 λr hx=>hr r (by simp[hx])⟩
def aei{m:Mem}{tm:oz}{t:Nat}{v:V}:∀{ts:List Nat},get t (ad2 m tm ts)=some v->∃u,get t tm=some u/\v=ad1 m u
 |[],h=>by simp[ad2,get] at h
 |i::ts,h=>by
  simp only[ad2] at h;cases hi:get i tm with
  |none=>rw[hi] at h;exact aei h
  |some u=>
   rw[hi] at h;simp only[get] at h;cases hb:Nat.beq t i with
   |true=>have:=MB hb;subst this;rw[hb] at h;simp only[aJ,oL] at h;exact⟨u,hi,h.symm⟩
   |false=>rw[hb] at h;exact aei h
section
variable {base:Nat} {U:Nat->Prop} {M0:List Nat} {w0 w:World} {ν:Nat->Value} {M:Mem} {nt:Nat} {S S':St} {G:GS} {a:Act}
open Classical in
def auY(R:Rel base U M0 w0 ν M nt w S G a)(hM:∀r c,get r M=some c->UC r=true){ts:List Nat}(h:ad4 ts S=some S'):
  ∃G',Rel base U M0 w0 ν M nt w S' G' a/\(Gh U w G).le (Gh U w G'):=by
 simp only[ad4] at h;generalize htm:ad2 S.mem S.tm ts=tm at h;generalize hRR:reach S.mem 3 (roots tm S.mem)=RR at h;generalize hmm:EW S.mem RR S.mem=m2 at h;cases hc:(closed RR m2 &&(aHx S.mem && sortedK S.mem)) with
 |false=>simp[hc] at h
 |true=>
  simp only[hc,aJ,oL] at h;subst h;simp only[PO] at hc;obtain⟨hcl,hfm,hso⟩:=hc;have hget:∀k c',get k m2=some c'↔∃c,get k S.mem=some c/\live c=true/\k∈RR/\c'=PU S.mem c:=by intro k c';rw[<-hmm];exact Z4 hso c'
  have hto:∀r c,get r S.mem=some c->live c=true->r∈RR->get r m2=some (PU S.mem c):=λr c h1 h2 h3=>(hget r _).2 ⟨c,h1,h2,h3,rfl⟩
  have hroot:∀r,r∈roots tm S.mem->r∈RR:=λr hr=>by rw[<-hRR];exact al5 _ _ _ _ hr
  have hout:∀r,r ∉ G.out:=λr=>by rw[R.at_.out];simp
  let F2:Nat->List Nat:=λr=>if get r m2=none then[] else G.F r
  have hF:∀r b,b∈F2 r->b∈G.F r:=by
   intro r b hb;simp only[F2] at hb;split at hb
   ·simp at hb
   ·exact hb
  have hex:∀b,excl F2 [] b->excl G.F G.E b:=by
   rintro b (hb|⟨r,hb⟩)
   ·simp at hb
   ·exact .inr ⟨r,hF r b hb⟩
  have hv:(Gh U w G).le (Gh U w ⟨G.μ,F2,[],[]⟩):=WE (λ_ x=>x) hex;have hbox:∀r t cs,get r m2=some (.box t cs)->∀q,q∈SV cs->q∈RR:=by intro r t cs hr q hq;have:=List.all_eq_true.1 hcl (r,.box t cs) (get_mem hr);simp only[List.all_eq_true] at this;exact(PX q RR).1 (this q hq)
  refine⟨⟨G.μ,F2,[],[]⟩,⟨⟨⟨?_, ?_, ?_, ?_,by simp, ?_,R.at_.ok.up,R.at_.ok.bs, ?_, ?_⟩,rfl,rfl,R.at_.fr.less hex⟩, ?_,R.size,R.defers, ?_⟩,hv⟩
  ·intro r c' hr _;have hF2:F2 r=G.F r:=by simp[F2,hr]
   obtain⟨c,h1,h2,h3,rfl⟩:=(hget r c').1 hr;have hq:=R.at_.ok.cell r c h1 (hout r);show xB G.μ m2 (fZ w) (Gh U w ⟨G.μ,F2,[],[]⟩) r (PU S.mem c) (F2 r);rw[hF2];cases c with
   |dead=>cases h2
   |box t cs=>obtain⟨b,arr,e1,e2,e3,e4⟩:=hq;exact⟨b,arr,e1,e2,anv.XW hto _ _ (y8 (BF _ _) hv _ _ e3) (hbox r t _ hr),e4⟩
   |arr fz fl ver s rows=>
    cases fz with
    |true=>exact⟨MG hv _ _ hq.1,hq.2⟩
    |false=>exact XJ hv (λ_ _=>rfl) hq
  ·intro r r' hne b hb hb';exact R.at_.ok.dj r r' hne b (hF r b hb) (hF r' b hb')
  ·intro r b hb;simp
  ·intro r;simp only[F2];split
   ·simp
   ·exact R.at_.ok.nd r
  ·intro b hb;exact R.at_.ok.lt b (hex b hb)
  ·intro r hr;simp[F2,hr]
  ·intro r hr;simp at hr
  ·intro t v ht;rw[<-htm] at ht;obtain⟨u,h1,rfl⟩:=aei ht;obtain⟨h2,h3⟩:=R.tm t u h1;refine⟨h2,anv hto u _ (RH (BF _ _) hv _ _ h3) λr hr=> ?_⟩;refine hroot r (VI _ _ _ (.inr ?_));rw[List.mem_flatMap];exact⟨(t,ad1 S.mem u),by rw[<-htm];exact get_mem ht,hr⟩
  ·intro r c hr;obtain⟨c',h1,h2⟩:=R.imp r c hr;have hk:=hM r c hr;have axa:=List.all_eq_true.1 hfm (r,c') (get_mem h1);have hrr:r∈RR:=hroot r (VI _ _ _ (.inl (by rw[List.mem_filter];exact⟨List.mem_map.2 ⟨(r,c'),get_mem h1,rfl⟩,hk⟩)));cases c' with
   |dead=>simp[hk] at axa
   |box t cs=>refine⟨_,hto r _ h1 rfl hrr, ?_⟩;cases c<;>simp only[OZ,PU] at h2|-<;>exact h2
   |arr fz fl ver s rows=>simp only[hk,aJ] at axa;have hv0:=MB axa;subst hv0;exact⟨_,hto r _ h1 rfl hrr,h2⟩
def ajn{f:Nat->Nat}:∀{ks:List Nat},nodupB (ks.map f)=true->∀a b,a∈ks->b∈ks->f a=f b->a=b
 |[],_,a,b,ha,_,_=>absurd ha List.not_mem_nil
 |k::ks,h,a,b,ha,hb,e=>by
  simp only[zmc,nodupB,PO] at h;have h1:=XM h.1;rcases List.mem_cons.1 ha with e1|ha1<;>rcases List.mem_cons.1 hb with e2|hb1
  ·rw[e1,e2]
  ·exact absurd (by rw[<-e1,e];exact List.mem_map.2 ⟨b,hb1,rfl⟩) h1
  ·exact absurd (by rw[<-e2,<-e];exact List.mem_map.2 ⟨a,ha1,rfl⟩) h1
  ·exact ajn h.2 a b ha1 hb1 e
def aix{α:Type}{k:Nat}{x:α}{l:List (Nat×α)}(h:get k l=some x):k∈l.map (·.1):=List.mem_map.2 ⟨_,get_mem h,rfl⟩
def acy{L:List (Nat×Nat)}:∀{m:Mem} {k':Nat} {c':Cell},get k' (Vw L m)=some c'->∃k c,get k m=some c/\ren L k=k'/\c'=ak5 L c
 |[],k',c',h=>by simp[Vw,get] at h
 |(j,c0)::m,k',c',h=>by
  simp only[Vw] at h;rw[get_put] at h;split at h
  ·rename_i e;cases h;exact⟨j,c0,by simp[get],e.symm,rfl⟩
  ·rename_i e;obtain⟨k,c,h1,h2,h3⟩:=acy h;refine⟨k,c, ?_,h2,h3⟩;have:Nat.beq k j=false:=EM (λq=>e (by rw[<-h2,q]));simp only[get,this,aX];exact h1
def ajo{L:List (Nat×Nat)}:∀{m:Mem} (_:∀a b,a∈m.map (·.1)->b∈m.map (·.1)->ren L a=ren L b->a=b) {k:Nat} {c:Cell},get k m=some c->get (ren L k) (Vw L m)=some (ak5 L c)
 |[],_,k,c,h=>by simp[get] at h
 |(j,c0)::m,hi,k,c,h=>by
  simp only[Vw];rw[get_put]
  by_cases hk:k=j
  ·subst hk;have:Nat.beq k k=true:=Nat.beq_refl k;simp only[get,this,aJ,oL] at h;subst h;rw[if_pos rfl]
  ·have hb:Nat.beq k j=false:=EM hk;simp only[get,hb,aX] at h;rw[if_neg]
   ·exact ajo (λa b ha hb=>hi a b (zmm _ ha) (zmm _ hb)) h
   ·intro e;exact hk (hi k j (zmm _ (aix h)) zmf e)
def al6{L:List (Nat×Nat)}:∀{tm:oz} {t:Nat} {v:V},get t (aiS L tm)=some v->∃u,get t tm=some u/\v=Xk L u
 |[],t,v,h=>by simp[aiS,get] at h
 |(j,u)::tm,t,v,h=>by
  simp only[aiS,get] at h|-;cases hb:Nat.beq t j with
  |true=>rw[hb] at h;simp only[aJ,oL] at h;exact⟨u,rfl,h.symm⟩
  |false=>rw[hb] at h;simp only[aX] at h|-;exact al6 h
mutual
def atp{L:List (Nat×Nat)}{μ μ':Nat->Value}{m m':Mem}{h:View}(hm:∀k c,get k m=some c->get (ren L k) m'=some (ak5 L c)/\μ' (ren L k)=μ k):∀(v:V) (g:Value),bQ μ m h v g->bQ μ' m' h (Xk L v) g
 | .d x,g,q=>q
 | .nil s,g,q=>q
 | .own r v0,g,q=>by
  simp only[Xk,bQ] at q|-;refine⟨q.1, ?_⟩;have q2:=q.2;cases hr:get r m with
  |none=>rw[hr] at q2;exact q2.elim
  |some c=>
   rw[hr] at q2;obtain⟨h1,h2⟩:=hm r c hr;rw[h1];cases c with
   |box t cs=>exact q2.elim
   |arr fz fl ver s rows=>exact⟨q2.1,λe=>by rw[h2];exact q2.2 e⟩
   |dead=>trivial
 | .ptr r off,g,q=>by
  simp only[Xk,bQ] at q|-;refine⟨q.1, ?_⟩;have q2:=q.2;cases hr:get r m with
  |none=>rw[hr] at q2;exact q2.elim
  |some c=>
   rw[hr] at q2;obtain⟨h1,h2⟩:=hm r c hr;rw[h1];cases c with
   |box t cs=>obtain⟨b,e1,e2⟩:=q2;exact⟨b,by rw[h2];exact e1,e2⟩
   |arr fz fl ver s rows=>exact q2.elim
   |dead=>trivial
 | .MC r v0 i off,g,q=>by
  simp only[Xk,bQ] at q|-;refine⟨q.1, ?_⟩;have q2:=q.2;cases hr:get r m with
  |none=>rw[hr] at q2;exact q2.elim
  |some c=>
   rw[hr] at q2;obtain⟨h1,h2⟩:=hm r c hr;rw[h1];cases c with
   |box t cs=>exact q2.elim
   |arr fz fl ver s rows=>refine⟨q2.1,λe=> ?_⟩;obtain⟨b,n,cap,e1,e2⟩:=q2.2 e;exact⟨b,n,cap,by rw[h2];exact e1,e2⟩
   |dead=>trivial
 | .IW row off,g,q=>q
 | .clo f a b,g,q=>by simp only[Xk,bQ] at q|-;obtain⟨x,y,e,h1,h2⟩:=q;exact⟨x,y,e,XY hm a _ h1,XY hm b _ h2⟩
 | .agg cs,g,q=>by simp only[Xk,bQ] at q|-;obtain⟨x,e,h1⟩:=q;exact⟨x,e,XY hm cs _ h1⟩
 | .ZH vs,g,q=>by simp only[Xk,bQ] at q|-;obtain⟨x,e,h1⟩:=q;exact⟨x,e,XY hm vs _ h1⟩
 | .undef,g,q=>trivial
def XY{L:List (Nat×Nat)}{μ μ':Nat->Value}{m m':Mem}{h:View}(hm:∀k c,get k m=some c->get (ren L k) m'=some (ak5 L c)/\μ' (ren L k)=μ k):∀(vs:List V) (gs:List Value),dX μ m h vs gs->dX μ' m' h (ZL L vs) gs
 |[],gs,q=>q
 |v::vs,gs,q=>by simp only[ZL,dX] at q|-;obtain⟨g,gs',rfl,h1,h2⟩:=q;exact⟨g,gs',rfl,atp hm v g h1,XY hm vs gs' h2⟩
end
open Classical in
def auZ(R:Rel base U M0 w0 ν M nt w S G a)(hM:∀r c,get r M=some c->UC r=true)(L:List (Nat×Nat)):
  ∃G',Rel base U M0 w0 ν M nt w (anl L S) G' a/\(Gh U w G).le (Gh U w G'):=by
 simp only[anl];cases hc:aeZ L (S.mem.map (·.1)) with
 |false=>exact⟨G,R,View.le_refl _⟩
 |true=>
  simp only;simp only[aeZ,PO] at hc;obtain⟨hnd,himp⟩:=hc;have hinj:=ajn hnd
  let inv:Nat->Nat:=λk'=>if h:∃k,k∈S.mem.map (·.1)/\ren L k=k' then h.choose else k'
  let F2:Nat->List Nat:=λk'=>if∃k,k∈S.mem.map (·.1)/\ren L k=k' then G.F (inv k') else[]
  have hinv:∀k,k∈S.mem.map (·.1)->inv (ren L k)=k:=by
   intro k hk;have hex:∃j,j∈S.mem.map (·.1)/\ren L j=ren L k:=⟨k,hk,rfl⟩
   simp only[inv,dif_pos hex];exact hinj _ _ hex.choose_spec.1 hk hex.choose_spec.2
  have hF2:∀k,k∈S.mem.map (·.1)->F2 (ren L k)=G.F k:=by
   intro k hk;have hex:∃j,j∈S.mem.map (·.1)/\ren L j=ren L k:=⟨k,hk,rfl⟩
   simp only[F2,if_pos hex,hinv k hk]
  have hF:∀r b,b∈F2 r->∃k,k∈S.mem.map (·.1)/\ren L k=r/\b∈G.F k:=by
   intro r b hb;simp only[F2] at hb;split at hb
   ·rename_i hex;obtain⟨k,h1,rfl⟩:=hex;rw[hinv k h1] at hb;exact⟨k,h1,rfl,hb⟩
   ·simp at hb
  have hex:∀b,excl F2 [] b->excl G.F G.E b:=by
   rintro b (hb|⟨r,hb⟩)
   ·simp at hb
   ·obtain⟨k,_,_,h⟩:=hF r b hb;exact .inr ⟨k,h⟩
  have hv:(Gh U w G).le (Gh U w ⟨G.μ ∘ inv,F2,[],[]⟩):=WE (λ_ x=>x) hex;have hm:∀k c,get k S.mem=some c->get (ren L k) (Vw L S.mem)=some (ak5 L c)/\(G.μ ∘ inv) (ren L k)=G.μ k:=by intro k c hk;exact⟨ajo hinj hk,by show G.μ (inv (ren L k))=_;rw[hinv k (aix hk)]⟩
  have hout:∀r,r ∉ G.out:=λr=>by rw[R.at_.out];simp
  refine⟨⟨G.μ ∘ inv,F2,[],[]⟩,⟨⟨⟨?_, ?_, ?_, ?_,by simp, ?_,R.at_.ok.up,R.at_.ok.bs, ?_, ?_⟩,rfl,rfl,R.at_.fr.less hex⟩, ?_,R.size,R.defers, ?_⟩,hv⟩
  ·intro r c' hr _;obtain⟨k,c,h1,rfl,rfl⟩:=acy hr;have hq:=R.at_.ok.cell k c h1 (hout k);show xB (G.μ ∘ inv) (Vw L S.mem) (fZ w) (Gh U w ⟨G.μ ∘ inv,F2,[],[]⟩) (ren L k) (ak5 L c) (F2 (ren L k));rw[hF2 k (aix h1)];have hmu:=(hm k c h1).2;cases c with
   |dead=>exact hq
   |box t cs=>obtain⟨b,arr,e1,e2,e3,e4⟩:=hq;exact⟨b,arr,by rw[hmu];exact e1,e2,XY hm _ _ (y8 (BF _ _) hv _ _ e3),e4⟩
   |arr fz fl ver s rows=>
    cases fz with
    |true=>have hq':ro (Gh U w G) (.sl true s rows) (G.μ k)/\G.F k=[]:=hq;refine⟨?_,hq'.2⟩;rw[hmu];exact MG hv _ _ hq'.1
    |false=>have hq':ad5 (fZ w) (Gh U w G) fl s rows (G.μ k) (G.F k):=hq;show ad5 (fZ w) (Gh U w ⟨G.μ ∘ inv,F2,[],[]⟩) fl s rows ((G.μ ∘ inv) (ren L k)) (G.F k);rw[hmu];exact XJ hv (λ_ _=>rfl) hq'
  ·intro r r' hne b hb hb';obtain⟨k,_,rfl,h1⟩:=hF r b hb;obtain⟨k',_,rfl,h2⟩:=hF r' b hb';exact R.at_.ok.dj k k' (λe=>hne (by rw[e])) b h1 h2
  ·intro r b hb;simp
  ·intro r;simp only[F2];split
   ·exact R.at_.ok.nd _
   ·simp
  ·intro b hb;exact R.at_.ok.lt b (hex b hb)
  ·intro r hr;simp only[F2];split
   ·rename_i hq;obtain⟨k,h1,rfl⟩:=hq;obtain⟨⟨k2,c⟩,h2,h3⟩:=List.mem_map.1 h1;simp only at h3;subst h3;cases hg:get k2 S.mem with
    |none=>rw[hinv k2 h1];exact R.at_.ok.none_ _ hg
    |some c2=>rw[(hm k2 c2 hg).1] at hr;cases hr
   ·rfl
  ·intro r hr;simp at hr
  ·intro t v ht;obtain⟨u,h1,rfl⟩:=al6 ht;obtain⟨h2,h3⟩:=R.tm t u h1;exact⟨h2,atp hm u _ (RH (BF _ _) hv _ _ h3)⟩
  ·intro r c hr;obtain⟨c',h1,h2⟩:=R.imp r c hr;have hk:=hM r c hr;have hir:=List.all_eq_true.1 himp r (aix h1);simp only[hk,aJ] at hir;have her:=MB hir;obtain⟨h3,h4⟩:=hm r c' h1;rw[her] at h3 h4;refine⟨_,h3, ?_⟩;cases c<;>cases c'<;>simp only[OZ,ak5] at h2|-<;>first
    |exact⟨h2.1,h4.trans h2.2⟩
    |exact⟨h2.1,h2.2.1,λe=>⟨h4.trans (h2.2.2 e).1,(h2.2.2 e).2⟩⟩
    |exact⟨h2.1,λe=>⟨h4.trans (h2.2 e).1,(h2.2 e).2⟩⟩
    |exact h4.trans h2
    |trivial
    |exact h2
def axb(R:Rel base U M0 w0 ν M nt w S G a)(hM:∀r c,get r M=some c->UC r=true):
  ∃G',Rel base U M0 w0 ν M nt w (canon S) G' a/\(Gh U w G).le (Gh U w G'):=by
 unfold canon;cases aA6 S.tm S.mem with
 |nil=>exact⟨G,R,View.le_refl _⟩
 |cons k o=>exact auZ R hM _
def axc(R:Rel base U M0 w0 ν M nt w S G a)(hM:∀r c,get r M=some c->UC r=true){ts:List Nat}(h:prune ts S=some S'):
  ∃G',Rel base U M0 w0 ν M nt w S' G' a/\(Gh U w G).le (Gh U w G'):=by
 simp only[prune] at h;cases hp:ad4 ts S with
 |none=>simp[hp] at h
 |some S1=>simp only[hp,oL] at h;subst h;obtain⟨G1,R1,v1⟩:=auY R hM hp;obtain⟨G2,R2,v2⟩:=axb R1 hM;exact⟨G2,R2,v1.trans' v2⟩
end
end Go.Vm
namespace Go.Vm
open Go
def VJ{α:Type}{f:Nat->Option α}{x:α}(h:lim f=some x):∃n,f n=some x:=by
 unfold lim at h;split at h
 ·rename_i hx;have:=Classical.choose_spec hx;obtain⟨n,hn⟩:=this;simp only[oL] at h;exact⟨n,by rw[hn,h]⟩
 ·cases h
def aEU:Ex->Exit
 | .normal=> .normal
 | .exit id=> .exit id
 | .ret=> .ret
section
variable {base:Nat} {U:Nat->Prop} {M0:List Nat} {w0:World} {ν:Nat->Value} {M:Mem} {nt:Nat} {X:Ctx} {K:nC} {fn:Nat}
def aDQ(base:Nat)(U:Nat->Prop)(M0:List Nat)(w0:World)(ν:Nat->Value)(M:Mem)(nt:Nat)(X:Ctx)(K:nC)(fn:Nat):Prop:=
 ∀(id:Nat) (ops:Array Oper) (draw:Bool) (w:World) (S S':St) (G:GS) (a:Act) (Q:Exit->Act->World->Prop),Rel base U M0 w0 ν M nt w S G a->region X K fn id ops draw S=some S'->
  (∀w' G' a',Rel base U M0 w0 ν M nt w' S' G' a'->(Gh U w G).le (Gh U w' G')->Q .normal a' w')->(Code.region id ops draw).wp X.P Q a w
def axd(hR:aDQ base U M0 w0 ν M nt X K fn)(c:Code):∀{w:World} {S S':St} {ex:Ex} {G:GS} {a:Act} {Q:Exit->Act->World->Prop},Rel base U M0 w0 ν M nt w S G a->den X K fn c S=some (ex,S')->
  (∀w' G' a',Rel base U M0 w0 ν M nt w' S' G' a'->(Gh U w G).le (Gh U w' G')->Q (aEU ex) a' w')->c.wp X.P Q a w:=by
 induction c with
 |skip=>intro w S S' ex G a Q R h hn;simp only[den,oL,uI] at h;obtain⟨rfl,rfl⟩:=h;exact Go.wp_skip (hn _ _ _ R (View.le_refl _))
 |region id ops draw=>
  intro w S S' ex G a Q R h hn;simp only[den] at h;cases hr:region X K fn id ops draw S with
  |none=>simp[hr] at h
  |some S1=>simp only[hr,oL,uI] at h;obtain⟨rfl,rfl⟩:=h;exact hR id ops draw w S S1 G a Q R hr hn
 |seq x y ihx ihy=>
  intro w S S' ex G a Q R h hn;simp only[den] at h;refine wp_seq ?_;cases hx:den X K fn x S with
  |none=>simp[hx] at h
  |some r=>
   obtain⟨e1,S1⟩:=r;rw[hx] at h;cases e1 with
   |normal=>simp only at h;exact ihx R hx λw1 G1 a1 R1 v1=>ihy R1 h λw' G' a' R' v'=>hn w' G' a' R' (v1.trans' v')
   |exit id=>simp only[oL,uI] at h;obtain⟨rfl,rfl⟩:=h;exact ihx R hx λw1 G1 a1 R1 v1=>hn w1 G1 a1 R1 v1
   |ret=>simp only[oL,uI] at h;obtain⟨rfl,rfl⟩:=h;exact ihx R hx λw1 G1 a1 R1 v1=>hn w1 G1 a1 R1 v1
 |cond c x y ihx ihy=>
  intro w S S' ex G a Q R h hn;simp only[den] at h;have hc:∀b,acs X.P S.tm c=some b->a.eval c=.bool b:=by
   intro b hb;have:=ZU (P:=X.P) R.tm 0 c;have he:ev X.P S.tm 0 c=.d (.bool b):=by
    unfold acs at hb;revert hb;generalize ev X.P S.tm 0 c=v;intro hb;cases v with
    |d x=>
     cases x with
     |bool b'=>exact congrArg (λq=>V.d (.bool q)) (Option.some.inj hb)
     |_=>cases hb
    |_=>cases hb
   rw[he] at this;simpa[bQ,ro] using this
  cases hb:acs X.P S.tm c with
  |none=>simp[hb] at h
  |some b=>
   rw[hb] at h;cases b with
   |true=>exact wp_cond (hc _ hb) (ihx R h hn)
   |false=>exact wp_cond (hc _ hb) (ihy R h hn)
 |block id c ih=>
  intro w S S' ex G a Q R h hn;simp only[den] at h;refine wp_block ?_;cases hx:den X K fn c S with
  |none=>simp[hx] at h
  |some r=>
   obtain⟨e1,S1⟩:=r;rw[hx] at h;cases e1 with
   |normal=>simp only[oL,uI] at h;obtain⟨rfl,rfl⟩:=h;exact ih R hx λw1 G1 a1 R1 v1=>hn w1 G1 a1 R1 v1
   |ret=>simp only[oL,uI] at h;obtain⟨rfl,rfl⟩:=h;exact ih R hx λw1 G1 a1 R1 v1=>hn w1 G1 a1 R1 v1
   |exit j=>
    refine ih R hx λw1 G1 a1 R1 v1=> ?_
    simp only[aEU,Exit.inBlock]
    by_cases hj:j=id
    ·subst hj;simp only[Nat.beq_refl,aJ,oL,uI] at h;obtain⟨rfl,rfl⟩:=h;simp only[if_true];exact hn w1 G1 a1 R1 v1
    ·dsimp only at h;rw[EM hj] at h;simp only[aX,oL,uI] at h;obtain⟨rfl,rfl⟩:=h;simp only[hj,if_false];exact hn w1 G1 a1 R1 v1
 |loop c ih=>
  intro w S S' ex G a Q R h hn;simp only[den,WC] at h;have hl:=VJ h;clear h;obtain⟨n,h⟩:=hl;refine wp_loop_rounds n ?_;induction n generalizing w S G a with
  |zero=>simp[iter] at h
  |succ n ihn=>
   simp only[iter] at h;rw[rounds_succ];cases hx:den X K fn c S with
   |none=>simp[hx] at h
   |some r=>
    obtain⟨e1,S1⟩:=r;rw[hx] at h;cases e1 with
    |normal=>exact ih R hx λw1 G1 a1 R1 v1=>ihn R1 (λw' G' a' R' v'=>hn w' G' a' R' (v1.trans' v')) h
    |exit id=>simp only[oL,uI] at h;obtain⟨rfl,rfl⟩:=h;exact ih R hx λw1 G1 a1 R1 v1=>hn w1 G1 a1 R1 v1
    |ret=>simp only[oL,uI] at h;obtain⟨rfl,rfl⟩:=h;exact ih R hx λw1 G1 a1 R1 v1=>hn w1 G1 a1 R1 v1
 |exit id=>intro w S S' ex G a Q R h hn;simp only[den,oL,uI] at h;obtain⟨rfl,rfl⟩:=h;exact wp_exit (hn _ _ _ R (View.le_refl _))
 |ret=>intro w S S' ex G a Q R h hn;simp only[den,oL,uI] at h;obtain⟨rfl,rfl⟩:=h;exact wp_ret (hn _ _ _ R (View.le_refl _))
 |_=>intro w S S' ex G a Q R h hn;simp[den] at h
end
end Go.Vm
namespace Go.Vm
open Go
structure Eqv(S T:St):Prop where
 tm:∀t,get t S.tm=get t T.tm
 mem:∀k,get k S.mem=get k T.mem
def Eqv.refl(S:St):Eqv S S:=⟨λ_=>rfl,λ_=>rfl⟩
def Eqv.symm{S T:St}(h:Eqv S T):Eqv T S:=⟨λt=>(h.tm t).symm,λk=>(h.mem k).symm⟩
def Eqv.trans{S T V:St}(h:Eqv S T)(k:Eqv T V):Eqv S V:=⟨λt=>(h.tm t).trans (k.tm t),λj=>(h.mem j).trans (k.mem j)⟩
def acz{ops:Array Oper}{o:Oper}{tm Xn tm':oz}{b:Bool}(h:∀t,t∈o.looksAt ops->get t Xn=get t tm)(hw:IX ops tm o=some (b,tm')):∃aRX,IX ops Xn o=some (b,aRX):=by
 unfold IX at hw|-;cases hg:o.guard with
 |none=>simp only[hg,oL,uI] at hw;exact⟨Xn,by simp[hw.1]⟩
 |some jw=>
  obtain⟨j,want⟩:=jw;simp only[hg] at hw|-;cases hj:ops[j]? with
  |none=>simp[hj] at hw
  |some oj=>
   simp only[hj] at hw|-;cases hd:oj.dst with
   |none=>simp[hd] at hw
   |some d=>
    simp only[hd,adU] at hw|-;rw[h d (by simp[Oper.looksAt,hg,hj,hd])];split at hw
    ·split at hw
     all_goals
      simp only[oL,uI] at hw;exact⟨_,congrArg (λx=>some (x,_)) hw.1⟩
    ·split at hw
     ·simp only[oL,uI] at hw;exact⟨_,congrArg (λx=>some (x,_)) hw.1⟩
     ·cases hw
    ·cases hw
section
variable {X:Ctx} {K:nC} {fn:Nat} {ops:Array Oper}
def Z5{i:Nat}{o:Oper}{S S':St}{lg:Log}(ho:ops[i]? =some o)(h:GI X K fn ops i S=some (S',lg)):
  (∀k,k ∉ lg.w->get k S'.mem=get k S.mem)/\(∀t,o.dst≠some t->get t S'.tm=get t S.tm)/\
  ∀T:St,(∀t,t∈o.looksAt ops->get t T.tm=get t S.tm)->(∀k,k∈lg.r->get k T.mem=get k S.mem)->
   ∃T',GI X K fn ops i T=some (T',lg)/\(∀k,k∈lg.w->get k T'.mem=get k S'.mem)/\(∀k,k ∉ lg.w->get k T'.mem=get k T.mem)/\
    (∀t,o.dst=some t->get t T'.tm=get t S'.tm)/\(∀t,o.dst≠some t->get t T'.tm=get t T.tm):=by
 unfold GI at h;simp only[ho] at h;have hdel:∀(tm:oz) t,o.dst≠some t->get t (ag4 (Zu X.P fn) o.dst tm)=get t tm:=by
  intro tm t ht;unfold ag4;cases ZM (Zu X.P fn) o.dst<;>cases hd:o.dst with
  |none=>rfl
  |some d=>first|exact SY (λe=>ht (by rw[hd,e])) tm|exact qF (λe=>ht (by rw[hd,e])) _ tm
 have hput:∀(tm:oz) v t,o.dst≠some t->get t (ak4 o.dst v tm)=get t tm:=by
  intro tm v t ht;cases hd:o.dst with
  |none=>rfl
  |some d=>exact qF (λe=>ht (by rw[hd,e])) v tm
 cases hw:IX ops S.tm o with
 |none=>simp[hw] at h
 |some bt=>
  obtain⟨b,tm⟩:=bt;have hsame:=Va hw;cases b with
  |false=>
   simp only[hw,oL,uI] at h;obtain⟨rfl,rfl⟩:=h;refine⟨λ_ _=>rfl,λt ht=>by rw[hdel tm t ht,hsame t],λT ht hk=> ?_⟩;obtain⟨Xn,hw2⟩:=acz ht hw;have anw:=Va hw2;refine⟨⟨ag4 (Zu X.P fn) o.dst Xn,T.mem⟩, ?_,λk hk=>by simp[Log.none] at hk,λ_ _=>rfl, ?_,λt ht=>by rw[hdel Xn t ht,anw t]⟩
   ·unfold GI;simp only[ho,hw2]
   ·intro t htd;rw[htd];simp only[ag4,aA4,ak4];cases ZM (Zu X.P fn) (some t) with
    |false=>simp only[aX];rw[PW,PW]
    |true=>simp only[aJ];rw[nD,nD]
  |true=>
   simp only[hw] at h;cases hv:(vop X K fn tm o).run S.mem .none with
   |none=>simp[hv] at h
   |some r=>
    obtain⟨v,m',l⟩:=r;simp only[hv] at h;cases hd:ZM (Zu X.P fn) o.dst with
    |false=>simp[hd] at h
    |true=>
     simp only[hd,aJ,oL,uI] at h;obtain⟨rfl,rfl⟩:=h;obtain⟨R,W,e,h1,h2⟩:=auT _ hv;simp only[Log.none,List.append_nil] at e;subst e;refine⟨h1,λt ht=>by rw[hput tm v t ht,hsame t],λT ht hk=> ?_⟩;obtain⟨m2,q1,q2,q3⟩:=h2 T.mem .none hk;obtain⟨Xn,hw2⟩:=acz ht hw;have anw:=Va hw2;refine⟨⟨ak4 o.dst v Xn,m2⟩, ?_,q2,q3, ?_,λt ht=>by rw[hput Xn v t ht,anw t]⟩
     ·unfold GI;have hc:vop X K fn Xn o=vop X K fn tm o:=auV λx hx i hi=>by rw[anw,hsame];exact ht i (by subst hi;exact List.mem_append_left _ (List.mem_filterMap.2 ⟨.tmp i,by simpa using hx,rfl⟩))
      simp only[ho,hw2,hc,q1,hd,aJ];simp[Log.none]
     ·intro t htd;rw[htd];simp only[ak4];rw[nD,nD]
def af8{a b:List Nat}(h:aA8 a b=true):∀k,k∈a->k ∉ b:=λk hk=>XM (List.all_eq_true.1 h k hk)
structure aoT(ops:Array Oper)(i j:Nat)(li lj:Log):Prop where
 ex:∃a b,ops[i]? =some a/\ops[j]? =some b/\(∀d,a.dst=some d->d ∉ b.looksAt ops)/\(∀d,a.dst=some d->b.dst≠some d)/\(∀d,b.dst=some d->d ∉ a.looksAt ops)
 wr:∀k,k∈li.w->k ∉ lj.r
 ww:∀k,k∈li.w->k ∉ lj.w
 rw:∀k,k∈li.r->k ∉ lj.w
def swap{i j:Nat}{li lj:Log}{S S1 S2:St}(hI:aoT ops i j li lj)(h1:GI X K fn ops i S=some (S1,li))(h2:GI X K fn ops j S1=some (S2,lj)):
  ∃T1 T2,GI X K fn ops j S=some (T1,lj)/\GI X K fn ops i T1=some (T2,li)/\Eqv S2 T2:=by
 obtain⟨a,b,ha,hb,i1,i2,i3⟩:=hI.ex;obtain⟨a1,a2,a3⟩:=Z5 ha h1;obtain⟨b1,b2,b3⟩:=Z5 hb h2;obtain⟨T1,c1,c2,c3,c4,c5⟩:=b3 S (λt ht=>(a2 t (λe=>i1 t e ht)).symm) (λk hk=>(a1 k (λhw=>hI.wr k hw hk)).symm);obtain⟨T2,d1,d2,d3,d4,d5⟩:=a3 T1 (λt ht=>c5 t (λe=>i3 t e ht)) (λk hk=>c3 k (hI.rw k hk));refine⟨T1,T2,c1,d1,λt=> ?_,λk=> ?_⟩
 ·by_cases hta:a.dst=some t
  ·rw[b2 t (λe=>i2 t hta e),d4 t hta]
  ·rw[d5 t hta]
   by_cases htb:b.dst=some t
   ·rw[c4 t htb]
   ·rw[c5 t htb,b2 t htb,a2 t hta]
 ·by_cases hka:k∈li.w
  ·rw[b1 k (hI.ww k hka),d2 k hka]
  ·rw[d3 k hka]
   by_cases hkb:k∈lj.w
   ·rw[c2 k hkb]
   ·rw[c3 k hkb,b1 k hkb,a1 k hka]
def Tr(X:Ctx)(K:nC)(fn:Nat)(ops:Array Oper):List (Nat×Log)->St->St->Prop
 |[],S,S'=>S=S'
 |(i,l)::is,S,S'=>∃S1,GI X K fn ops i S=some (S1,l)/\Tr X K fn ops is S1 S'
def ajp{i:Nat}{S S':St}{l:Log}(h:GI X K fn ops i S=some (S',l)):∃o,ops[i]? =some o:=by
 cases ho:ops[i]? with
 |some o=>exact⟨o,rfl⟩
 |none=>simp[GI,ho] at h
def au0{i:Nat}{S S1 T:St}{l:Log}(h:GI X K fn ops i S=some (S1,l))(hE:Eqv S T):∃T1,GI X K fn ops i T=some (T1,l)/\Eqv S1 T1:=by
 obtain⟨o,ho⟩:=ajp h;obtain⟨a1,a2,a3⟩:=Z5 ho h;obtain⟨T1,c1,c2,c3,c4,c5⟩:=a3 T (λt _=>(hE.tm t).symm) (λk _=>(hE.mem k).symm);refine⟨T1,c1,λt=> ?_,λk=> ?_⟩
 ·by_cases ht:o.dst=some t
  ·rw[c4 t ht]
  ·rw[c5 t ht,a2 t ht,hE.tm t]
 ·by_cases hk:k∈l.w
  ·rw[c2 k hk]
  ·rw[c3 k hk,a1 k hk,hE.mem k]
def Tr.eqv:∀{is:List (Nat×Log)} {S S' T:St},Tr X K fn ops is S S'->Eqv S T->∃T',Tr X K fn ops is T T'/\Eqv S' T'
 |[],S,S',T,h,hE=>⟨T,rfl,by cases h;exact hE⟩
 |(i,l)::is,S,S',T,⟨S1,h1,h2⟩,hE=>by obtain⟨T1,c1,e1⟩:=au0 h1 hE;obtain⟨T',c2,e2⟩:=Tr.eqv h2 e1;exact⟨T',⟨T1,c1,c2⟩,e2⟩
def Tr.front{i:Nat}{l:Log}{post:List (Nat×Log)}:∀{pre:List (Nat×Log)} {S S':St},Tr X K fn ops (pre++(i,l)::post) S S'->(∀x,x∈pre->aoT ops x.1 i x.2 l)->
  ∃S'',Tr X K fn ops ((i,l)::(pre++post)) S S''/\Eqv S' S''
 |[],S,S',h,_=>⟨S',h,Eqv.refl _⟩
 |(j,lj)::pre,S,S',⟨S1,h1,h2⟩,hI=>by obtain⟨T',⟨T1,t1,t2⟩,e1⟩:=Tr.front h2 (λx hx=>hI x (by simp[hx]));obtain⟨V1,V2,v1,v2,ev⟩:=swap (hI (j,lj) (by simp)) h1 t1;obtain⟨V',w1,e2⟩:=Tr.eqv t2 ev;exact⟨V',⟨V1,v1,V2,v2,w1⟩,e1.trans e2⟩
end
end Go.Vm
namespace Go.Vm
open Go
def Za(acc:Array Nat)(o:Oper):Array Nat:=acc.push (o.after.foldl (λs e=>if Region.binds .any e then s|||2 ^ e.on|||acc.getD e.on 0 else s) 0)
def aoU(look:Nat->Nat)(j:Nat):∀(es:List Edge) (s:Nat),(es.foldl (λs e=>if Region.binds .any e then s|||2 ^ e.on|||look e.on else s) s).testBit j=true->
  s.testBit j=true\/∃e,e∈es/\Region.binds .any e=true/\(j=e.on\/(look e.on).testBit j=true)
 |[],s,h=> .inl h
 |e::es,s,h=>by
  simp only[List.foldl_cons] at h;rcases aoU look j es _ h with h|⟨e',h1,h2⟩
  ·cases hb:Region.binds .any e with
   |false=>simp only[hb,Bool.false_eq_true,if_false] at h;exact .inl h
   |true=>
    simp only[hb,if_true,Nat.testBit_or,Bool.or_eq_true] at h;rcases h with(h|h)|h
    ·exact .inl h
    ·rw[Nat.testBit_two_pow] at h;exact .inr ⟨e,by simp,hb,.inl (by simpa using(of_decide_eq_true h).symm)⟩
    ·exact .inr ⟨e,by simp,hb,.inr h⟩
  ·exact .inr ⟨e',by simp[h1],h2⟩
def aHN(l:List Oper):∀(acc:Array Nat),(l.foldl Za acc).size=acc.size+l.length/\(∀i,i<acc.size->(l.foldl Za acc).getD i 0=acc.getD i 0)/\
  ∀k j,((l.foldl Za acc).getD (acc.size+k) 0).testBit j=true->∃o e,l[k]? =some o/\e∈o.after/\Region.binds .any e=true/\(j=e.on\/(e.on<acc.size+k/\((l.foldl Za acc).getD e.on 0).testBit j=true)):=by
 induction l with
 |nil=>intro acc;refine⟨by simp,λi _=>rfl,λk j h=> ?_⟩;rw[List.foldl_nil,Array.getD,dif_neg aC] at h;simp at h
 |cons o l ih=>
  intro acc;obtain⟨s1,s2,s3⟩:=ih (Za acc o);have hsz:(Za acc o).size=acc.size+1:=by simp[Za]
  rw[hsz] at s1 s2 s3;have hold:∀i,i<acc.size->(Za acc o).getD i 0=acc.getD i 0:=by intro i hi;simp only[Za,Array.getD_eq_getD_getElem?,Array.getElem?_push];rw[if_neg aC]
  refine⟨by rw[List.foldl_cons,s1,Zr];omega,λi hi=>by rw[List.foldl_cons,s2 i aC,hold i hi],λk j h=> ?_⟩;rw[List.foldl_cons] at h|-;cases k with
  |zero=>
   rw[Nat.add_zero,s2 _ aC] at h;have hv:(Za acc o).getD acc.size 0=o.after.foldl (λs e=>if Region.binds .any e then s|||2 ^ e.on|||acc.getD e.on 0 else s) 0:=by simp[Za,Array.getD_eq_getD_getElem?]
   rw[hv,<-Array.foldl_toList] at h;rcases aoU (λi=>acc.getD i 0) j _ 0 h with h|⟨e,h1,h2,h3⟩
   ·simp at h
   ·refine⟨o,e,rfl,by simpa using h1,h2, ?_⟩;rcases h3 with h3|h3
    ·exact .inl h3
    ·have hlt:e.on<acc.size:=by
      rcases Nat.lt_or_ge e.on acc.size with h'|h'
      ·exact h'
      ·simp[Array.getD,Nat.not_lt.2 h'] at h3
     refine .inr ⟨aC, ?_⟩;rw[s2 _ aC,hold _ hlt];exact h3
  |succ k=>obtain⟨o',e,q1,q2,q3,q4⟩:=s3 k j (by rwa [show acc.size+(k+1)=acc.size+1+k by omega] at h);exact⟨o',e,by simpa using q1,q2,q3,q4.imp id fun⟨x,y⟩=>⟨aC,y⟩⟩
def ajq{ops:Array Oper}{i j:Nat}(h:ordered (Region.before ops) i j=true):∃o e,ops[i]? =some o/\e∈o.after/\Region.binds .any e=true/\(j=e.on\/(e.on<i/\ordered (Region.before ops) e.on j=true)):=by
 have he:Region.before ops=ops.toList.foldl Za #[]:=by unfold Region.before;rw[<-Array.foldl_toList];rfl
 unfold ordered at h|-;rw[he] at h|-;obtain⟨o,e,h1,h2,h3,h4⟩:=(aHN ops.toList #[]).2.2 i j (by simpa using h);exact⟨o,e,by simpa using h1,h2,h3,by simpa using h4⟩
end Go.Vm
namespace Go.Vm
open Go
section
variable {base:Nat} {U:Nat->Prop} {M0:List Nat} {w0 w:World} {ν:Nat->Value} {M:Mem} {nt:Nat} {S T:St} {G:GS} {a:Act} {X:Ctx} {K:nC} {fn:Nat} {ops:Array Oper}
def af9(h:Eqv S T)(μ:Nat->Value):NI μ S.mem μ T.mem:=λr c hc=>⟨c,by rw[<-h.mem r];exact hc,ag6 μ r c⟩
def Rel.eqv(R:Rel base U M0 w0 ν M nt w S G a)(h:Eqv S T):Rel base U M0 w0 ν M nt w T G a:=by
 have ok:=R.at_.ok;refine⟨⟨⟨?_,ok.dj,ok.djE,ok.nd,ok.ndE,ok.lt,ok.up,ok.bs, ?_,ok.out_⟩,R.at_.E,R.at_.out,R.at_.fr⟩, ?_,R.size,R.defers,Ad R.imp (af9 h _)⟩
 ·intro r c hc ho;exact PV (af9 h _) (View.le_refl _) rfl (λ_ _=>rfl) (ok.cell r c (by rw[h.mem r];exact hc) ho)
 ·intro r hr;exact ok.none_ r (by rw[h.mem r];exact hr)
 ·intro t v hv;obtain⟨h1,h2⟩:=R.tm t v (by rw[h.tm t];exact hv);exact⟨h1,RH (af9 h _) (View.le_refl _) _ _ h2⟩
def Cl(ops:Array Oper)(listed:Array Bool):Prop:=∀k,listed.getD k false=true->∀o,ops[k]? =some o->∀e,e∈o.after->Region.binds .any e=true->listed.getD e.on false=true
def Cl.path{listed:Array Bool}(h:Cl ops listed):∀(k j:Nat),listed.getD k false=true->ordered (Region.before ops) k j=true->listed.getD j false=true:=by
 intro k;induction k using Nat.strongRecOn with
 |_ k ih=>
  intro j hk ho;obtain⟨o,e,h1,h2,h3,h4⟩:=ajq ho;have he:=h k hk o h1 e h2 h3;rcases h4 with rfl|⟨h5,h6⟩
  ·exact he
  ·exact ih e.on h5 j he h6
def Ok(ops:Array Oper):List (Nat×Log)->Prop:=List.Pairwise λp q=>ordered (Region.before ops) q.1 p.1=true\/aoT ops p.1 q.1 p.2 q.2
def ahs:∀{L:List (Nat×Log)},ZN ops (Region.before ops) L=true->L.Pairwise λq p=>ordered (Region.before ops) q.1 p.1=true\/aoT ops p.1 q.1 p.2 q.2
 |[],_=>List.Pairwise.nil
 |(i,l)::L,h=>by
  simp only[ZN,PO] at h;refine List.Pairwise.cons ?_ (ahs h.2);rintro⟨j,l'⟩ hj;have:=List.all_eq_true.1 h.1 (j,l') hj;simp only[Bool.or_eq_true,PO] at this;rcases this with h1|⟨h1,h2⟩
  ·exact .inl h1
  ·right;cases ha:ops[i]? with
   |none=>simp[ha] at h2
   |some a=>
    cases hb:ops[j]? with
    |none=>simp[ha,hb] at h2
    |some b=>simp only[ha,hb] at h2;obtain⟨p1,p2,p3⟩:=Oper.apart_spec h2;simp only[Log.apart,PO] at h1;refine⟨⟨b,a,hb,ha,p3,λd hd he=>p2 d he hd,p1⟩,λk hk hr=>af8 h1.2 k hr hk,λk hk hr=>af8 h1.1.2 k hr hk,λk hk hr=>af8 h1.1.1 k hr hk⟩
end
end Go.Vm
namespace Go.Vm
open Go
section
variable {base:Nat} {U:Nat->Prop} {M0:List Nat} {w0 w:World} {ν:Nat->Value} {M:Mem} {nt:Nat} {S T:St} {G:GS} {a:Act} {X:Ctx} {K:nC} {fn:Nat} {ops:Array Oper}
def al7:∀{is:List Nat} {S S':St} {L L':List (Nat×Log)},OY X K fn ops is S L=some (S',L')->
  ∃T:List (Nat×Log),L'=T.reverse++L/\Tr X K fn ops T S S'/\T.map (·.1)=is
 |[],S,S',L,L',h=>by simp only[OY,oL,uI] at h;obtain⟨rfl,rfl⟩:=h;exact⟨[],rfl,rfl,rfl⟩
 |i::is,S,S',L,L',h=>by
  simp only[OY] at h;cases h1:GI X K fn ops i S with
  |none=>simp[h1] at h
  |some r=>obtain⟨S1,l1⟩:=r;simp only[h1] at h;obtain⟨T,e,t,m⟩:=al7 h;exact⟨(i,l1)::T,by rw[e];simp,⟨S1,h1,t⟩,by simp[m]⟩
def acA:∀{l:List Oper} {n k:Nat} {o:Oper},ZO n l=true->l[k]? =some o->∀e,e∈o.after->Region.binds .any e=true->e.on<n+k
 |[],_,_,_,_,h=>by simp at h
 |o'::l,n,0,o,hb,h=>by simp only[List.getElem?_cons_zero,oL] at h;subst h;simp only[ZO,PO] at hb;intro e he hbi;have:=List.all_eq_true.1 hb.1 e (by simpa using he);rw[hbi] at this;simpa using this
 |o'::l,n,k+1,o,hb,h=>by simp only[ZO,PO] at hb;intro e he hbi;have:=acA hb.2 (by simpa using h) e he hbi;omega
def aoV{k:Nat}{o:Oper}(hb:backOk ops=true)(h:ops[k]? =some o):∀e,e∈o.after->Region.binds .any e=true->e.on<k:=by intro e he hbi;have:=acA (n:=0) hb (k:=k) (o:=o) (by simpa using h) e he hbi;omega
def any_ok(hK:aeg X K U M0 w0)(hnt:Zu X.P fn=nt)(hb:backOk ops=true){Q:Exit->Act->World->Prop}:∀(fuel:Nat) {listed:Array Bool} {L:List (Nat×Log)} {w:World} {S S':St} {G:GS} {a:Act}
  (_:L.length<=fuel) (_:listed.size=ops.size) (_:Cl ops listed) (_:∀i,i<ops.size->(listed.getD i true=false↔i∈L.map (·.1))) (_:(L.map (·.1)).Nodup)
  (_:Ok ops L) (_:Tr X K fn ops L S S') (_:Rel base U M0 w0 ν M nt w S G a)
  (_:∀w' G' a',Rel base U M0 w0 ν M nt w' S' G' a'->(Gh U w G).le (Gh U w' G')->Q .normal a' w'),wpAny X.P .any ops Q fuel listed a w
 |0,listed,L,w,S,S',G,a,hf,hs,hcl,hl,hnd,hok,htr,R,hn=>by have:L=[]:=List.length_eq_zero_iff.1 (Nat.le_zero.1 hf);subst this;cases htr;refine⟨?_,hn w G a R (View.le_refl _)⟩;rw[List.eq_nil_iff_forall_not_mem];intro i hi;obtain⟨h1,o,h2,_⟩:=mem_ready.1 hi;have hlt:i<ops.size:=(Array.getElem?_eq_some_iff.1 h2).1;simpa using(hl i hlt).1 h1
 |fuel+1,listed,L,w,S,S',G,a,hf,hs,hcl,hl,hnd,hok,htr,R,hn=>by
  refine⟨λhr=> ?_,λi hi=> ?_⟩
  ·have hL:L=[]:=by
    rw[List.eq_nil_iff_forall_not_mem];have hall:∀i,i ∉ L.map (·.1):=by
     intro i;induction i using Nat.strongRecOn with
     |_ i ih=>
      intro hi;have hlt:i<ops.size:=by
       rcases Nat.lt_or_ge i ops.size with h|h
       ·exact h
       ·obtain⟨⟨i',l⟩,hx,rfl⟩:=List.mem_map.1 hi;exfalso;have:∀{L:List (Nat×Log)} {S S':St},Tr X K fn ops L S S'->∀x,x∈L->∃o,ops[x.1]? =some o:=by
         intro L;induction L with
         |nil=>intro _ _ _ x hx;simp at hx
         |cons y L ihL=>
          rintro S S' ⟨S1,h1,h2⟩ x hx;rcases List.mem_cons.1 hx with rfl|hx
          ·exact ajp h1
          ·exact ihL h2 x hx
        obtain⟨o,ho⟩:=this htr _ hx;have:=(Array.getElem?_eq_some_iff.1 ho).1;simp at this h;omega
      have hni:i ∉ Region.ready .any ops listed:=by rw[hr];simp
      apply hni;rw[mem_ready];refine⟨(hl i hlt).2 hi,ops[i],by simp[hlt],λe he hbi=> ?_⟩;have hei:=aoV hb (k:=i) (by simp[hlt]) e he hbi;have hel:e.on<ops.size:=Nat.lt_trans hei hlt;have:=ih e.on hei;rw[<-hl e.on hel] at this;have hsz:e.on<listed.size:=by rw[hs];exact hel
      simp only[Array.getD,hsz,dite_true] at this|-;simpa using this
    intro x hx;exact hall x.1 (List.mem_map.2 ⟨x,hx,rfl⟩)
   subst hL;cases htr;exact hn w G a R (View.le_refl _)
  ·obtain⟨h1,o,h2,h3⟩:=mem_ready.1 hi;have hlt:i<ops.size:=(Array.getElem?_eq_some_iff.1 h2).1;obtain⟨⟨i',l⟩,hx,rfl⟩:=List.mem_map.1 ((hl i hlt).1 h1);obtain⟨pre,post,rfl⟩:=List.append_of_mem hx;simp only at h1 h2 h3 hlt hi;have hsz:i'<listed.size:=by rw[hs];exact hlt
   have hun:∀x,x∈pre->listed.getD x.1 false=false/\x.1<ops.size:=by
    intro x hxp;have hxo:∃o,ops[x.1]? =some o:=by
     have:∀{L:List (Nat×Log)} {S S':St},Tr X K fn ops L S S'->∀x,x∈L->∃o,ops[x.1]? =some o:=by
      intro L;induction L with
      |nil=>intro _ _ _ x hx;simp at hx
      |cons y L ihL=>
       rintro S S' ⟨S1,h1,h2⟩ x hx;rcases List.mem_cons.1 hx with rfl|hx
       ·exact ajp h1
       ·exact ihL h2 x hx
     exact this htr x (by simp[hxp])
    obtain⟨ox,hox⟩:=hxo;have hxl:=(Array.getElem?_eq_some_iff.1 hox).1;have:=(hl x.1 hxl).2 (List.mem_map.2 ⟨x,by simp[hxp],rfl⟩);have hsx:x.1<listed.size:=by rw[hs];exact hxl
    simp only[Array.getD,hsx,dite_true] at this|-;exact⟨this,hxl⟩
   have aRY:∀x,x∈pre->aoT ops x.1 i' x.2 l:=by
    intro x hxp;have:=(List.pairwise_append.1 hok).2.2 x hxp (i',l) (by simp);rcases this with ho|ho
    ·exfalso;obtain⟨o',e,q1,q2,q3,q4⟩:=ajq ho;simp only at q1;rw[h2] at q1;cases q1;have hel:=h3 e q2 q3;have hx0:=(hun x hxp).1;rcases q4 with q4|⟨_,q4⟩
     ·rw[q4,hel] at hx0;cases hx0
     ·rw[hcl.path e.on x.1 hel q4] at hx0;cases hx0
    ·exact ho
   obtain⟨S'',⟨S1,r1,r2⟩,hE⟩:=Tr.front htr aRY;refine aoS hK hnt R r1 λw1 G1 a1 R1 v1=> ?_
   have hnd':((pre++post).map (·.1)).Nodup/\i' ∉(pre++post).map (·.1):=by
    have h':(pre.map (·.1)++i'::post.map (·.1)).Nodup:=by simpa using hnd
    have h'':=(List.perm_middle (a:=i') (l₁:=pre.map (·.1)) (l₂:=post.map (·.1))).nodup_iff.1 h';rw[List.nodup_cons] at h'';exact⟨by simpa using h''.2,by simpa using h''.1⟩
   refine any_ok hK hnt hb fuel (L:=pre++post) ?_ ?_ ?_ ?_ hnd'.1 ?_ r2 R1 ?_
   ·simp at hf|-;omega
   ·simp[hs]
   ·intro k hk o' ho' e he hbd
    by_cases hki:k=i'
    ·subst hki;rw[h2] at ho';cases ho';have:=h3 e he hbd
     by_cases hei:k=e.on
     ·simp[Array.getD,<-hei,hsz]
     ·rw[getD_set_ne false hei];exact this
    ·rw[getD_set_ne false (Ne.symm hki)] at hk;have:=hcl k hk o' ho' e he hbd
     by_cases hei:i'=e.on
     ·simp[Array.getD,<-hei,hsz]
     ·rw[getD_set_ne false hei];exact this
   ·intro k hk
    by_cases hki:k=i'
    ·subst hki;have e1:(listed.setIfInBounds k true).getD k true=true:=by simp[Array.getD,hsz]
     rw[e1];exact⟨λh=>by simp at h,λh=>absurd h hnd'.2⟩
    ·rw[getD_set_ne true (Ne.symm hki),hl k hk];simp[hki]
   ·have h':=List.pairwise_append.1 hok;exact List.pairwise_append.2 ⟨h'.1,(List.pairwise_cons.1 h'.2.1).2,λx hx y hy=>h'.2.2 x hx y (by simp[hy])⟩
   ·intro w' G' a' R' v';exact hn w' G' a' (R'.eqv hE.symm) (v1.trans' v')
def au1(hK:aeg X K U M0 w0)(hnt:Zu X.P fn=nt)(hM:∀r c,get r M=some c->UC r=true):aDQ base U M0 w0 ν M nt X K fn:=by
 intro id ops draw w S S' G a Q R h hn;simp only[region] at h;cases hr:MF X K fn id ops draw S with
 |none=>simp[hr] at h
 |some r=>
  obtain⟨S1,L⟩:=r;simp only[hr] at h;have hfin:prune (X.U8.keep fn id) S1=some S'->∀w1 G1 a1,Rel base U M0 w0 ν M nt w1 S1 G1 a1->(Gh U w G).le (Gh U w1 G1)->Q .normal a1 w1:=by intro hp w1 G1 a1 R1 v1;obtain⟨G2,R2,v2⟩:=axc R1 hM hp;exact hn w1 G2 a1 R2 (v1.trans' v2)
  simp only[MF] at hr;cases draw with
  |false=>simp only[aJ] at h;exact wp_region (auX hK hnt R hr (hfin h))
  |true=>
   simp only at h;cases hc:(X.P.follows .mixedOrders &&(backOk ops && ZN ops (Region.before ops) L)) with
   |false=>simp[hc] at h
   |true=>
    simp only[hc,aJ] at h;simp only[PO] at hc;obtain⟨hm,hb,hd⟩:=hc;obtain⟨T,e,ht,hmp⟩:=al7 hr;simp only[List.append_nil] at e;subst e;have hok:Ok ops T:=by have:=ahs hd;rw[List.pairwise_reverse] at this;exact this
    have hlen:T.length=ops.size:=by have:=congrArg List.length hmp;simpa using this
    have hR':Rel base U M0 w0 ν M nt {w with drawn:=w.drawn+1} S G a:=by have ok:=R.at_.ok;have fr:=R.at_.fr;have kp:=fr.keep;exact⟨⟨⟨ok.cell,ok.dj,ok.djE,ok.nd,ok.ndE,ok.lt,ok.up,ok.bs,ok.none_,ok.out_⟩,R.at_.E,R.at_.out,⟨⟨kp.os,kp.tape,kp.output,kp.size,kp.block⟩,fr.fr⟩⟩,R.tm,R.size,R.defers,R.imp⟩
    refine wp_region_any hm (any_ok hK hnt hb ops.size (L:=T) aC (by simp) ?_ ?_ ?_ hok ht hR' ?_)
    ·intro k hk;simp[Array.getD] at hk
    ·intro i hi;simp[Array.getD,hi,hmp]
    ·rw[hmp];exact List.nodup_range
    ·intro w' G' a' R' v';exact hfin h w' G' a' R' v'
end
end Go.Vm
namespace Go.Vm
open Go
section
variable {base:Nat} {U:Nat->Prop} {w:World} {X:Ctx}
def au2{f i:Nat}{fl:Bool}{m:Mem}{G:GS}{v v':V}{g:Value}{N N1 N2 E:List Nat}(hg:KW base U w m G)(ho:G.out=[])(hN:N=N1++N2)(hE:(N++E).Perm G.E)
  (hq:match PS X.U8 f i with
   |1=>∃x,v=.d x/\ow (fZ w) (Gh U w G) x g N1
   |_=>N1=[]/\bQ G.μ m (Gh U w G) v g) {m':Mem} {l l':Log} (h:(arH X.U8 f i fl v).run m l=some (v',m',l')):
  ∃G',KW base U w m' G'/\GLe m G m' G'/\(N2++E).Perm G'.E/\G'.out=[]/\bQ G'.μ m' (Gh U w G') v' g:=by
 subst hN;rw[XG] at hE;unfold arH at h;split at hq
 ·rename_i hmo;obtain⟨x,rfl,hx⟩:=hq;rw[hmo] at h;simp only at h;have hdef:∀y,ow (fZ w) (Gh U w G) y g N1->(Pure.pure (V.d (roD y)):Acc V).run m l=some (v',m',l')->
    ∃G',KW base U w m' G'/\GLe m G m' G'/\(N2++E).Perm G'.E/\G'.out=[]/\bQ G'.μ m' (Gh U w G') v' g:=by
   intro y hy h;obtain⟨rfl,rfl,rfl⟩:=rpu h;obtain⟨d1,d2,d3⟩:=hg.ai5 hE;refine⟨_,d1,d2,List.Perm.refl _,ho, ?_⟩;simp only[bQ];exact awW (d3 hy)
  split at h
  ·rename_i s rows he;cases he;replace h:=aF h;obtain⟨x1,m1,l1,h1,h⟩:=h;obtain⟨rfl,rfl,rfl⟩:=rpu h;obtain⟨G1,g1,s1⟩:=alU hg (λr hr=>by rw[ho] at hr;simp at hr) hE hx h1;exact⟨G1,g1.ok,g1.le,by rw[g1.E],g1.out.trans ho,s1⟩
  ·rename_i y hne he;cases he;exact hdef _ hx h
  ·exact aQ h
 ·rename_i hmo;obtain⟨rfl,hs⟩:=hq;split at h
  ·rename_i e;exact absurd e hmo
  ·obtain⟨rfl,rfl,rfl⟩:=rpu h;exact⟨G,hg,GLe.refl _ _,by simpa using hE,ho,hs⟩
def ajr{f:Nat}:∀{vs:List V} {i:Nat} {ts:List TypeId} {gs:List Value} {m:Mem} {G:GS} {N E:List Nat} (_:KW base U w m G) (_:G.out=[]) (_:(N++E).Perm G.E)
  (_:VA X.U8 f G.μ m (fZ w) (Gh U w G) i vs gs N) {tm:oz} {m':Mem} {l l':Log} (_:(ae0 X f i ts vs).run m l=some (tm,m',l')),
  ∃G',Came base U w m G m' G' E/\∀t v,get t tm=some v->∃k g,t=i+k/\gs[k]? =some g/\bQ G'.μ m' (Gh U w G') v g
 |[],i,ts,gs,m,G,N,E,hg,ho,hE,hq,tm,m',l,l',h=>by simp only[ae0,run_pure,oL,uI] at h;obtain⟨rfl,rfl,rfl⟩:=h;obtain⟨d1,d2,_⟩:=hg.ai5 hE;exact⟨_,⟨d1,d2,rfl,ho⟩,λt v ht=>by simp[get] at ht⟩
 |v::vs,i,ts,gs,m,G,N,E,hg,ho,hE,hq,tm,m',l,l',h=>by
  simp only[VA] at hq;obtain⟨g,gs',N1,N2,rfl,hN,q1,q2⟩:=hq;simp only[ae0] at h;replace h:=aF h;obtain⟨v1,m1,l1,h1,h⟩:=h;replace h:=aF h;obtain⟨r,m2,l2,h2,h⟩:=h;obtain⟨rfl,rfl,rfl⟩:=rpu h;obtain⟨G1,g1,le1,e1,o1,s1⟩:=au2 hg ho hN hE q1 h1;have q2':=XO (A:=X.U8) (f:=f) le1.mem le1.view (H':=fZ w) (λ_ _=>rfl) q2;obtain⟨G2,c2,s2⟩:=ajr g1 o1 e1 q2' h2;refine⟨G2,⟨c2.ok,le1.trans c2.le,c2.E,c2.out⟩,λt u ht=> ?_⟩;simp only[get] at ht
  by_cases hti:t=i
  ·subst hti;simp only[Nat.beq_refl,aJ,oL] at ht;subst ht;exact⟨0,g,by simp,rfl,c2.le.bQ s1⟩
  ·rw[EM hti] at ht;simp only[aX] at ht;obtain⟨k,g',e,hk,hs⟩:=s2 t u ht;exact⟨k+1,g',aC,by simpa using hk,hs⟩
def aht{A:Adv}{f:Nat}{μ:Nat->Value}{m:Mem}{H:Heap}{h:View}:∀{vs:List V} {i:Nat} {gs:List Value} {N:List Nat},VA A f μ m H h i vs gs N->gs.length=vs.length
 |[],_,_,_,q=>by simp only[VA] at q;simp[q.1]
 |v::vs,i,_,_,q=>by simp only[VA] at q;obtain⟨g,gs',N1,N2,rfl,_,_,q2⟩:=q;simp[aht q2]
def Xo{H:Heap}{h:View}:∀{cs:List Cell} {gs:List Value} {N:List Nat},cellsB H h cs gs N->gs.length=cs.length
 |[],_,_,q=>by simp[q.1]
 |c::cs,_,_,⟨g,gs',N1,N2,e,_,_,q⟩=>by subst e;simp[Xo q]
def ajs{H:Heap}{h:View}{c:Cell}{g:Value}{N:List Nat}(q:aoI H h c g N):sameKind c c:=by
 cases c with
 |box t vs=>exact rfl
 |arr fz fl ver s rows=>obtain⟨_,hv,_⟩:=q;exact⟨hv,hv,rfl,rfl⟩
 |dead=>exact q
def aga{H:Heap}{h:View}{m:Mem}:∀{cs:List Cell} {k:Nat} {gs:List Value} {N:List Nat},(∀i,get (xA+(k+i)) m=cs[i]?)->cellsB H h cs gs N->kinds m ((List.range' k cs.length).map (xA+ ·)) cs
 |[],k,gs,N,_,_=>by simp[kinds]
 |c::cs,k,_,_,hm,⟨g,gs',N1,N2,e,_,q1,q2⟩=>by rw[Zr,List.range'_succ,zmc];refine⟨c,c,cs,rfl,by have:=hm 0;simpa using this,ajs q1,aga (λi=> ?_) q2⟩;have:=hm (i+1);rw[show k+1+i=k+(i+1) by omega];simpa using this
def ajt(n:Nat):Bf n=(List.range' 0 n).map (xA+ ·):=by rw[Bf,List.range_eq_range']
def acB(n:Nat):(Bf n).Nodup:=by unfold Bf;exact List.Pairwise.map _ (λa b h e=>h (Nat.add_left_cancel e)) List.nodup_range
def ahu{n i:Nat}(h:i<n):(Bf n)[i]? =some (xA+i):=by simp[Bf,h]
def aju(n:Nat):(Bf n).length=n:=by simp[Bf]
def ahv(gs:List Value):(Bf gs.length).map (impμ gs)=gs:=by
 apply List.ext_getElem?;intro i;rw[List.getElem?_map]
 by_cases h:i<gs.length
 ·rw[ahu h];simp[impμ,h]
 ·rw[List.getElem?_eq_none (by rw[aju];omega),List.getElem?_eq_none aC];rfl
def UE:∀{cs:List Cell} {k r:Nat} {c:Cell},get r (y7 k cs)=some c->∃i,r=xA+(k+i)/\cs[i]? =some c
 |[],_,_,_,h=>by simp[y7,get] at h
 |c'::cs,k,r,c,h=>by
  simp only[y7,get] at h
  by_cases e:r=xA+k
  ·subst e;simp only[Nat.beq_refl,aJ,oL] at h;exact⟨0,by simp,by simp[h]⟩
  ·rw[EM e] at h;simp only[aX] at h;obtain⟨i,h1,h2⟩:=UE h;exact⟨i+1,aC,by simpa using h2⟩
def axe{f:Nat}{fn:Func}{args:List V}{cells:List Cell}{gargs mV:List Value}{N1 N2:List Nat}(hG:Given X base U w f args cells gargs mV N1 N2){tm:oz}{m':Mem}{l':Log}
  (h:(entry X f fn args cells).run (y7 0 cells) .none=some (tm,m',l')) (hn:args.length<=fn.ntmps):
  ∃G,Rel base U (N1++N2) w (impμ mV) (y7 0 cells) fn.ntmps w ⟨tm,m'⟩ G {tmps:=gargs.toArray++Array.replicate (fn.ntmps - gargs.toArray.size) undef,defers:=[]}:=by
 simp only[entry] at h;replace h:=aF h;obtain⟨_,m1,l1,h1,h⟩:=h;have hlen:=Xo hG.cells;have aEV:∀b,excl (λ_=>[]) (N1++N2) b↔b∈N1++N2:=by
  intro b;constructor
  ·rintro(hb|⟨r,hb⟩)
   ·exact hb
   ·simp at hb
  ·exact λhb=> .inl hb
 have hg0:KW base U w (y7 0 cells) ⟨impμ mV,λ_=>[],N1++N2,Bf cells.length⟩:=by
  refine⟨?_, ?_, ?_, ?_,hG.nd, ?_,hG.up,hG.bs, ?_, ?_⟩
  ·intro r c hr hro;exfalso;apply hro;obtain⟨i,e,hi⟩:=UE hr;have hil:i<cells.length:=(UN.1 hi).1;show r∈Bf cells.length;rw[e,Bf];exact List.mem_map.2 ⟨0+i,List.mem_range.2 aC,rfl⟩
  ·intro r r' _ b hb;simp at hb
  ·intro r b hb;simp at hb
  ·intro r;simp
  ·intro b hb;exact hG.lt b ((aEV b).1 hb)
  ·intro r _;rfl
  ·intro r _;rfl
 have hv:(view w U (· ∈N1++N2)).le (Gh U w ⟨impμ mV,λ_=>[],N1++N2,Bf cells.length⟩):=WE (λ_ x=>x) (λb hb=>(aEV b).1 hb);have hk0:kinds (y7 0 cells) (Bf cells.length) (cells.drop 0):=by rw[List.drop_zero,ajt];exact aga (λi=>by rw[Nat.zero_add];exact WH cells i) hG.cells
 obtain⟨G1,c1⟩:=ai9 (i:=0) (N:=N2) (E:=N1) hg0 (acB _) rfl hk0 List.perm_append_comm (by rw[List.drop_zero,<-hlen,ahv];exact Uf hv hG.cells) h1;obtain⟨G2,c2,s2⟩:=ajr (N:=N1) (E:=[]) c1.ok c1.out (by rw[c1.E];simp) (XO c1.le.mem (hv.trans' c1.le.view) (λ_ _=>rfl) hG.args) h;have hal:=aht hG.args;refine⟨G2,⟨c2.ok,c2.E,c2.out,⟨Keep.refl _ _,λb hb=> .inl ((aEV b).1 (c1.le.ex b (c2.le.ex b hb)))⟩⟩, ?_, ?_,rfl,Ad c1.le.mem c2.le.mem⟩
 ·intro t v ht;obtain⟨k,g,e,hk,hs⟩:=s2 t v ht;have hkl:k<gargs.length:=(UN.1 hk).1;have ht':t<(gargs.toArray++Array.replicate (fn.ntmps - gargs.toArray.size) undef).size:=by simp;omega
  refine⟨ht', ?_⟩;have:(gargs.toArray++Array.replicate (fn.ntmps - gargs.toArray.size) undef).getD t undef=g:=by rw[Array.getD_eq_getD_getElem?,Array.getElem?_append_left (by simp;omega)];have:t=k:=aC;subst this;simp[hk]
  simp only[this];exact hs
 ·simp;omega
end
end Go.Vm
namespace Go.Vm
open Go
section
variable {base:Nat} {U:Nat->Prop} {w:World} {X:Ctx} {P:Program}
def anx(tmps:Array Value):ResultVar->Sem Value
 | .tmp t=>pure (tmps.getD t undef)
 | .cell a t=>do loadVar t (<-asAddr (tmps.getD a undef))
def acC{α:Type}(f:α->Sem Value):∀(l:List α) (gs:List Value),(∀(i:Nat) x,l[i]? =some x->∃g,gs[i]? =some g/\(f x).run P w=.ok g w)->l.length=gs.length->(l.mapM f).run P w=.ok gs w
 |[],gs,_,hl=>by have:gs=[]:=List.length_eq_zero_iff.1 hl.symm;subst this;rfl
 |x::l,gs,h,hl=>by
  cases gs with
  |nil=>simp at hl
  |cons g gs=>obtain⟨g',h1,h2⟩:=h 0 x rfl;simp only[List.getElem?_cons_zero,oL] at h1;subst h1;have ih:=acC f l gs (λi y hy=>by simpa using h (i+1) y (by simpa using hy)) (by simpa using hl);rw[List.mapM_cons];simp only[Sem.run_bind,h2,Result.andThen_ok,ih];rfl
def ahw{fn:Func}{tmps:Array Value}{gs:List Value}(h:∀(i:Nat) x,fn.results.toList[i]? =some x->∃g,gs[i]? =some g/\(anx tmps x).run P w=.ok g w)(hl:fn.results.toList.length=gs.length):
  (results fn tmps).run P w=.ok (af7 gs) w:=by
 have hm:=acC (P:=P) (w:=w) (anx tmps) fn.results.toList gs h hl;have e:results fn tmps=(do
  let vs<-fn.results.mapM (anx tmps)
  pure (if h:vs.size=1 then vs[0] else .tuple vs)):=by
  unfold results
  first
   |rfl
   |(congr 1;done)
   |(congr 1;congr 1;done)
 rw[e,Array.mapM_eq_mapM_toList];simp only[map_eq_pure_bind,Sem.run_bind,hm,Result.andThen_ok,Sem.run_pure];congr 1;unfold af7;cases gs with
 |nil=>rfl
 |cons g gs=>cases gs with
  |nil=>simp
  |cons _ _=>simp
def au3{m:Mem}{G:GS}{tm:oz}{a:Act}{r:ResultVar}{t:TypeId}(hg:KW base U w m G)(ho:G.out=[])(hT:ae7 G.μ m (Gh U w G) tm a){row:Row}{m':Mem}{l l':Log}(h:(anm P tm r t).run m l=some (row,m',l')):
  ∃G' N g cs,Rk base U w m G m' G' N/\(anx a.tmps r).run P w=.ok g w/\valOf P t cs g/\mQ (fZ w) (Gh U w G') row cs N/\row.length=cs.length:=by
 cases r with
 |tmp x=>
  simp only[anm] at h;have hx:=ZU (P:=P) hT 0 (.tmp x);simp only[ev] at hx;have hgo:∀v:V,bQ G.μ m (Gh U w G) v (a.eval (.tmp x))->UA P t=false->(Y7 [v]).run m l=some (row,m',l')->
    ∃G' N g cs,Rk base U w m G m' G' N/\(anx a.tmps (.tmp x)).run P w=.ok g w/\valOf P t cs g/\mQ (fZ w) (Gh U w G') row cs N/\row.length=cs.length:=by
   intro v hv ht h;obtain⟨G',N,t1,q1,hl⟩:=XL hg (vs:=[v]) (gs:=[a.eval (.tmp x)]) (by simp only[dX];exact⟨_,_,rfl,hv,rfl⟩) ho h;exact⟨G',N,a.eval (.tmp x),[a.eval (.tmp x)],t1,rfl,by simp[valOf,ht],q1,by rw[hl];rfl⟩
  cases ht:UA P t with
  |true=>
   rw[ht] at h;cases hv:adU x tm with
   |agg cs=>rw[hv] at h hx;simp only[bQ] at hx;obtain⟨arr,e,hs⟩:=hx;obtain⟨G',N,t1,q1,hl⟩:=XL hg hs ho h;refine⟨G',N,_,arr.toList,t1,rfl, ?_,q1,by rw[hl,nG hs]⟩;simp only[valOf,ht,if_true];exact e
   |_=>rw[hv] at h;exact aQ h
  |false=>
   rw[ht] at h;cases hv:adU x tm with
   |agg cs=>rw[hv] at h;exact aQ h
   |_=>rw[hv] at h hx;exact hgo _ hx ht h
 |cell y T=>
  simp only[anm] at h;have hx:=ZU (P:=P) hT 0 (.tmp y);simp only[ev] at hx;split at h
  ·rename_i r he;rw[he] at hx;replace h:=aF h;obtain⟨c,m2,l2,h2,h⟩:=h;rw[Gs] at h2;cases h2;cases hc:get r m with
   |none=>rw[hc] at h;exact aQ h
   |some c=>
    rw[hc] at h;cases c with
    |box T' cs=>
     simp only at h;replace h:=aF h;obtain⟨_,m2,l2,h2,h⟩:=h;obtain⟨hck,rfl,rfl⟩:=jE h2;simp only[PO,Bool.or_eq_true] at hck;obtain⟨⟨hTt,hlen⟩,hok,hagg⟩:=hck;have hTt:=MB hTt;have hlen:=MB hlen;subst hTt;simp only[bQ,hc] at hx;obtain⟨_,b,hμ,hg0⟩:=hx;obtain⟨b',arr,e1,e2,e3,e4⟩:=hg.cell r _ hc (by rw[ho];simp);rw[hμ] at e1;cases e1;obtain⟨G',N,t1,q1,hl⟩:=XL hg e3 ho h;have hal:=nG e3;obtain⟨g,hvg⟩:∃g,valOf P T arr.toList g:=by
      unfold valOf;cases ha:UA P T with
      |true=>exact⟨_,rfl⟩
      |false=>
       have h1:cs.length=1:=by
        rcases hagg with h1|h1
        ·rw[ha] at h1;cases h1
        ·exact MB h1
       cases hr:arr.toList with
       |nil=>rw[hr] at hal;simp[h1] at hal
       |cons g r=>
        cases r with
        |nil=>exact⟨g,rfl⟩
        |cons _ _=>rw[hr] at hal;simp[h1] at hal
     refine⟨G',N,g,arr.toList,t1, ?_,hvg,q1,by rw[hl,hal]⟩;have hrun:=YB (P:=P) (w:=w) (t:=T) (b:=b) (off:=0) (cs:=arr.toList) (g:=g) hok (by rw[hal,hlen]) (by intro j v hj;have hH:w.heap[b]? =some (.cells arr T' (0,0)):=e2;simp only[World.cell?,hH,Nat.zero_add];simpa using hj) hvg;simp only[anx];have hg0:a.tmps.getD y undef=.pointer (some ⟨b,0,none⟩):=hg0;rw[hg0];simpa[Instr.loadAt,Instr.sureAddr,asAddr] using hrun
    |_=>exact aQ h
  ·exact aQ h
def ajv{tm:oz}{a:Act}:∀{rs:List ResultVar} {ts:List TypeId} {m:Mem} {G:GS} (_:KW base U w m G) (_:G.out=[]) (_:ae7 G.μ m (Gh U w G) tm a) {rows:List Row} {m':Mem} {l l':Log}
  (_:(abR P tm rs ts).run m l=some (rows,m',l')),∃G' N gs,Rk base U w m G m' G' N/\(∀(i:Nat) x,rs[i]? =some x->∃g,gs[i]? =some g/\(anx a.tmps x).run P w=.ok g w)/\rs.length=gs.length/\
   XP P (fZ w) (Gh U w G') ts rows gs N
 |[],[],m,G,hg,ho,hT,rows,m',l,l',h=>by simp only[abR,run_pure,oL,uI] at h;obtain⟨rfl,rfl,rfl⟩:=h;exact⟨G,[],[],Rk.same hg,λi x h=>by simp at h,rfl,rfl,rfl,rfl⟩
 |r::rs,t::ts,m,G,hg,ho,hT,rows,m',l,l',h=>by
  simp only[abR] at h;replace h:=aF h;obtain⟨row,m1,l1,h1,h⟩:=h;replace h:=aF h;obtain⟨rows',m2,l2,h2,h⟩:=h;obtain⟨rfl,rfl,rfl⟩:=rpu h;obtain⟨G1,N1,g,cs,t1,r1,v1,q1,e1⟩:=au3 hg ho hT h1;obtain⟨G2,N2,gs,t2,r2,e2,q2⟩:=ajv t1.ok (t1.out.trans ho) (λt v hv=>⟨(hT t v hv).1,t1.le.bQ (hT t v hv).2⟩) h2;refine⟨G2,N1++N2,g::gs,t1.trans t2, ?_,by simp[e2],row,rows',g,gs,cs,N1,N2,rfl,rfl,rfl,v1,Yy t2.le.view q1,e1,q2⟩;intro i x hx;cases i with
  |zero=>simp only[List.getElem?_cons_zero,oL] at hx;subst hx;exact⟨g,rfl,r1⟩
  |succ i=>simpa using r2 i x (by simpa using hx)
 |[],_::_,_,_,_,_,_,_,_,_,_,h=>aQ h
 |_::_,[],_,_,_,_,_,_,_,_,_,h=>aQ h
def au4{μ μ':Nat->Value}{r:Nat}{c c' d:Cell}(hc:sameKind c c)(h:OZ μ μ' r c c')(k:sameKind c' d):μ' r=μ r/\sameKind c d:=by
 cases c<;>cases c'<;>cases d<;>simp only[sameKind,OZ] at hc h k|-
 ·exact⟨h.2,h.1.symm.trans k⟩
 ·obtain⟨a1,a2,a3,a4⟩:=k;obtain⟨b1,b2,b3⟩:=h;obtain⟨c1,_,_,_⟩:=hc;have:=b3 (c1.trans a1.symm);exact⟨this.1,c1,a2,b2.symm.trans a3,this.2.symm.trans a4⟩
 all_goals trivial
def al8{μ μ':Nat->Value}{m0 m1:Mem}(hle:NI μ m0 μ' m1):∀{rs:List Nat} {cs ds:List Cell},kinds m0 rs cs->kinds m1 rs ds->(∀c,c∈cs->sameKind c c)->(∀(i r:Nat) c,rs[i]? =some r->cs[i]? =some c->get r m0=some c)->rs.map μ'=rs.map μ/\atn cs ds
 |[],cs,ds,h,k,_,_=>by simp only[kinds] at h k;subst h;subst k;exact⟨rfl,rfl⟩
 |r::rs,cs,ds,⟨c,c',cs',e1,h1,h2,h3⟩,⟨d,d',ds',e2,k1,k2,k3⟩,hs,hg=>by subst e1;subst e2;have hc:=hg 0 r c' rfl rfl;obtain⟨c2,q1,q2⟩:=hle r c' hc;rw[k1] at q1;cases q1;obtain⟨p1,p2⟩:=au4 (hs c' (by simp)) q2 k2;obtain⟨r1,r2⟩:=al8 hle h3 k3 (λc hc=>hs c (by simp[hc])) (λi r c hr hc=>hg (i+1) r c (by simpa using hr) (by simpa using hc));exact⟨by simp[p1,r1],d',ds',rfl,p2,r2⟩
def ahx{H:Heap}{h:View}:∀{cs:List Cell} {gs:List Value} {N:List Nat},cellsB H h cs gs N->∀c,c∈cs->sameKind c c
 |[],_,_,_,c,hc=>by simp at hc
 |c::cs,_,_,⟨g,gs',N1,N2,e,_,q1,q2⟩,d,hd=>by
  rcases List.mem_cons.1 hd with rfl|hd
  ·exact ajs q1
  ·exact ahx q2 d hd
def axf{f:Nat}{fn:Func}{args:List V}{cells outs:List Cell}{gargs mV:List Value}{N1 N2:List Nat}{w':World}(hG:Given X base U w f args cells gargs mV N1 N2){S:St}{G:GS}{a:Act}{nt:Nat}
  (R:Rel base U (N1++N2) w (impμ mV) (y7 0 cells) nt w' S G a) {rows:List Row} (h:leave X fn cells.length S=some (rows,outs)):
  ∃gs M1 M2,(results fn a.tmps).run X.P w'=.ok (af7 gs) w'/\Did X.P U w w' (N1++N2) fn.resultTypes.toList cells outs mV rows gs M1 M2:=by
 simp only[leave] at h;split at h
 ·rename_i r m' l' hr;simp only[oL] at h;subst h;replace hr:=aF hr;obtain⟨aXR,m1,l1,h1,hr⟩:=hr;replace hr:=aF hr;obtain⟨cs1,m2,l2,h2,hr⟩:=hr;simp only[run_pure,oL,uI] at hr;obtain⟨⟨rfl,rfl⟩,rfl,rfl⟩:=hr;obtain⟨G1,Nr,gs,t1,r1,e1,q1⟩:=ajv R.at_.ok R.at_.out R.tm h1;have ho1:G1.out=[]:=t1.out.trans R.at_.out;obtain⟨G2,Nc,t2,q2,kd2⟩:=afZ t1.ok (acB cells.length) (λr hr=>⟨hr,by rw[ho1];simp⟩) (λr hr=>by rw[ho1] at hr;simp at hr) h2;have hE2:G2.E=Nr++Nc:=by rw[t2.E,t1.E,R.at_.E];rfl
  have hlen:=Xo hG.cells;have hk0:kinds (y7 0 cells) (Bf cells.length) cells:=by rw[ajt];exact aga (λi=>by rw[Nat.zero_add];exact WH cells i) hG.cells
  obtain⟨b1,b2⟩:=al8 (Ad R.imp t1.le.mem) hk0 kd2 (ahx hG.cells) (by intro i r c hr hc;have hi:i<cells.length:=(UN.1 hc).1;rw[ahu hi] at hr;cases hr;rw[WH];exact hc);have hv:(Gh U w' G2).le (view w' U (· ∈Nc++Nr)):=WE (λ_ x=>x) (λb hb=> .inl (by rw[hE2];simp only[List.mem_append] at hb|-;exact hb.symm));refine⟨gs,Nc,Nr,ahw r1 e1,R.at_.fr.keep, ?_, ?_,b2, ?_, ?_⟩
  ·have:=t2.ok.ndE;rw[hE2] at this;exact(List.perm_append_comm.nodup_iff).1 this
  ·intro b hb;have hbE:b∈G2.E:=by rw[hE2];simp only[List.mem_append] at hb|-;exact hb.symm
   exact⟨R.at_.fr.fr b (t1.le.ex b (t2.le.ex b (.inl hbE))),(t2.ok.lt b (.inl hbE)).1⟩
  ·rw[b1,<-hlen,ahv] at q2;exact Uf hv q2
  ·exact VB (t2.le.view.trans' hv) (λ_ _=>rfl) q1
 ·cases h
def aBp{K:nC}(hK:Sound X K){f:FuncId}{fn:Func}{args:List V}{cells:List Cell}{rows:List Row}{outs:List Cell}(hf:X.P.funcs[f]? =some fn)(h:body X K f args cells=some (rows,outs))
  {gargs mV:List Value} {N1 N2:List Nat} (hG:Given X base U w f args cells gargs mV N1 N2):
  Calls X.P f gargs.toArray w λe w'=>∃gs M1 M2,e=.returned (af7 gs)/\Did X.P U w w' (N1++N2) fn.resultTypes.toList cells outs mV rows gs M1 M2:=by
 simp only[body,hf] at h;cases hb:fn.body with
 |none=>simp[hb] at h
 |some c=>
  simp only[hb] at h;cases hn:(Nat.ble cells.length xA && Nat.ble args.length fn.ntmps) with
  |false=>simp[hn] at h
  |true=>
   simp only[hn,Bool.not_true,aX] at h;simp only[PO] at hn;have hn1:=Nat.le_of_ble_eq_true hn.1;have hn2:=Nat.le_of_ble_eq_true hn.2;split at h
   ·rename_i tm m' l' he;obtain⟨G,R⟩:=axe hG he hn2;have hM:∀r c,get r (y7 0 cells)=some c->UC r=true:=by intro r c hr;obtain⟨i,e,hi⟩:=UE hr;have hil:i<cells.length:=(UN.1 hi).1;subst e;simp only[UC,PO];exact⟨Nat.ble_eq_true_of_le aC,by rw[Nat.blt_eq];omega⟩
    have hnt:Zu X.P f=fn.ntmps:=by simp[Zu,hf]
    have aHO:=au1 (base:=base) (U:=U) (M0:=N1++N2) (w0:=w) (ν:=impμ mV) ⟨hK,hG.gl⟩ hnt hM;have hfin:∀ex S,leave X fn cells.length S=some (rows,outs)->(ex=Ex.normal\/ex=Ex.ret)->∀w' G' a',Rel base U (N1++N2) w (impμ mV) (y7 0 cells) fn.ntmps w' S G' a'->(Gh U w G).le (Gh U w' G')->
      bodyPost X.P fn (λe w'=>∃gs M1 M2,e=.returned (af7 gs)/\Did X.P U w w' (N1++N2) fn.resultTypes.toList cells outs mV rows gs M1 M2) (aEU ex) a' w':=by
     intro ex S hl hex w' G' a' R' _;obtain⟨gs,M1,M2,hr,hd⟩:=axf hG R' hl;rcases hex with rfl|rfl<;>exact⟨R'.defers,_,hr,gs,M1,M2,rfl,hd⟩
    split at h
    ·rename_i S hd;exact calls_of_wp hf hb (axd aHO c R hd (hfin _ _ h (.inl rfl)))
    ·rename_i S hd;exact calls_of_wp hf hb (axd aHO c R hd (hfin _ _ h (.inr rfl)))
    ·cases h
   ·cases h
end
def anz(X:Ctx):Prop:=∀(f:FuncId) (p:List V->List Cell->Option (List Row×List Cell)) (fn:Func) (args:List V) (cells:List Cell) (rows:List Row) (outs:List Cell),X.adV f=some p->X.P.funcs[f]? =some fn->fn.body.isSome=true->p args cells=some (rows,outs)->
 ∀(base:Nat) (U:Nat->Prop) (w:World) (gargs mV:List Value) (N1 N2:List Nat),Given X base U w f args cells gargs mV N1 N2->
  Calls X.P f gargs.toArray w λe w'=>∃gs M1 M2,e=.returned (af7 gs)/\Did X.P U w w' (N1++N2) fn.resultTypes.toList cells outs mV rows gs M1 M2
def aoW{X:Ctx}(hp:anz X):∀n,Sound X (ZP X n)
 |0=>by intro f fn args cells rows outs hf hb h;simp[ZP] at h
 |n+1=>by
  intro f fn args cells rows outs hf hb h base U w gargs mV N1 N2 hG;simp only[ZP] at h;cases hx:X.adV f with
  |some p=>rw[hx] at h;exact hp f p fn args cells rows outs hx hf hb h base U w gargs mV N1 N2 hG
  |none=>rw[hx] at h;exact aBp (aoW hp n) hf h hG
def aBq{X:Ctx}(hp:anz X):Sound X (call X):=by intro f fn args cells rows outs hf hb h base U w gargs mV N1 N2 hG;obtain⟨n,hn⟩:=VJ h;exact aoW hp n f fn args cells rows outs hf hb hn base U w gargs mV N1 N2 hG
end Go.Vm
namespace Go.Vm
open Go
def KLe(K K':nC):Prop:=∀f args cells r,K f args cells=some r->K' f args cells=some r
def KLe.refl(K:nC):KLe K K:=λ_ _ _ _ h=>h
def KLe.trans{K1 K2 K3:nC}(h:KLe K1 K2)(k:KLe K2 K3):KLe K1 K3:=λf a c r q=>k f a c r (h f a c r q)
def Gq{α:Type}(A:nC->Acc α):Prop:=∀K K',KLe K K'->∀m l r,(A K).run m l=some r->(A K').run m l=some r
def Gq.const{α:Type}(a:Acc α):Gq λ_=>a:=λ_ _ _ _ _ _ h=>h
def Gq.bind{α β:Type}{A:nC->Acc α}{B:nC->α->Acc β}(h:Gq A)(k:∀x,Gq λK=>B K x):Gq λK=>A K>>=B K:=by intro K K' hK m l r hr;obtain⟨y,m',l'⟩:=r;obtain⟨x,m1,l1,h1,h2⟩:=aF hr;rw[run_bind,h K K' hK m l _ h1];exact k x K K' hK m1 l1 _ h2
def Gq.op{f:Nat}{args:List V}{cells:List Cell}:Gq λK=>op' (K f args cells):=by intro K K' hK m l r hr;obtain⟨x,m',l'⟩:=r;obtain⟨h1,rfl,rfl⟩:=nV hr;simp only;rw[hK f args cells x h1];rfl
def ACt{α:Type}(Kn:Nat->nC)(K:nC)(A:nC->Acc α):Prop:=∀m l r,(A K).run m l=some r->∃n,(A (Kn n)).run m l=some r
def Chain(Kn:Nat->nC):Prop:=∀n,KLe (Kn n) (Kn (n+1))
def Chain.le{Kn:Nat->nC}(h:Chain Kn){n k:Nat}(hk:n<=k):KLe (Kn n) (Kn k):=by
 induction hk with
 |refl=>exact KLe.refl _
 |step _ ih=>exact ih.trans (h _)
section
variable {Kn:Nat->nC} {K:nC} (hc:Chain Kn)
def ACt.const{α:Type}(a:Acc α):ACt Kn K λ_=>a:=λ_ _ _ h=>⟨0,h⟩
include hc in
theorem ACt.bind{α β:Type}{A:nC->Acc α}{B:nC->α->Acc β}(hu:Gq A)(ku:∀x,Gq λK=>B K x)(h:ACt Kn K A)(k:∀x,ACt Kn K λK=>B K x):ACt Kn K λK=>A K>>=B K:=by intro m l r hr;obtain⟨y,m',l'⟩:=r;obtain⟨x,m1,l1,h1,h2⟩:=aF hr;obtain⟨n1,q1⟩:=h m l _ h1;obtain⟨n2,q2⟩:=k x m1 l1 _ h2;refine⟨max n1 n2, ?_⟩;rw[run_bind,hu _ _ (hc.le (Nat.le_max_left n1 n2)) m l _ q1];exact ku x _ _ (hc.le (Nat.le_max_right n1 n2)) m1 l1 _ q2
theorem ACt.op(hK:∀f args cells r,K f args cells=some r->∃n,Kn n f args cells=some r){f:Nat}{args:List V}{cells:List Cell}:ACt Kn K λK=>op' (K f args cells):=by intro m l r hr;obtain⟨x,m',l'⟩:=r;obtain⟨h1,rfl,rfl⟩:=nV hr;obtain⟨n,hn⟩:=hK f args cells x h1;refine⟨n, ?_⟩;simp only;rw[hn];rfl
end
def axg(X:Ctx)(fn dst f:Nat)(args:List V):Gq λK=>aeX X K fn dst f args:=by unfold aeX;refine Gq.bind (Gq.const _) λg=>Gq.bind (Gq.const _) λ_=>Gq.bind (Gq.const _) λargs=>Gq.bind (Gq.const _) λcells=>Gq.bind (Gq.const _) fun⟨args,Ud⟩=>Gq.bind (Gq.const _) λ_=>Gq.bind Gq.op λout=>Gq.const _
def axh{Kn:Nat->nC}{K:nC}(hc:Chain Kn)(hK:∀f args cells r,K f args cells=some r->∃n,Kn n f args cells=some r)(X:Ctx)(fn dst f:Nat)(args:List V):ACt Kn K λK=>aeX X K fn dst f args:=by
 unfold aeX;refine ACt.bind hc (Gq.const _) ?_ (ACt.const _) λg=> ?_
 ·exact λg=>Gq.bind (Gq.const _) λ_=>Gq.bind (Gq.const _) λargs=>Gq.bind (Gq.const _) λcells=>Gq.bind (Gq.const _) fun⟨args,Ud⟩=>Gq.bind (Gq.const _) λ_=>Gq.bind Gq.op λout=>Gq.const _
 refine ACt.bind hc (Gq.const _) ?_ (ACt.const _) λ_=> ?_
 ·exact λg=>Gq.bind (Gq.const _) λargs=>Gq.bind (Gq.const _) λcells=>Gq.bind (Gq.const _) fun⟨args,Ud⟩=>Gq.bind (Gq.const _) λ_=>Gq.bind Gq.op λout=>Gq.const _
 refine ACt.bind hc (Gq.const _) ?_ (ACt.const _) λargs=> ?_
 ·exact λg=>Gq.bind (Gq.const _) λcells=>Gq.bind (Gq.const _) fun⟨args,Ud⟩=>Gq.bind (Gq.const _) λ_=>Gq.bind Gq.op λout=>Gq.const _
 refine ACt.bind hc (Gq.const _) ?_ (ACt.const _) λcells=> ?_
 ·exact λg=>Gq.bind (Gq.const _) fun⟨args,Ud⟩=>Gq.bind (Gq.const _) λ_=>Gq.bind Gq.op λout=>Gq.const _
 refine ACt.bind hc (Gq.const _) ?_ (ACt.const _) fun⟨args,Ud⟩=> ?_
 ·exact fun⟨args,Ud⟩=>Gq.bind (Gq.const _) λ_=>Gq.bind Gq.op λout=>Gq.const _
 refine ACt.bind hc (Gq.const _) ?_ (ACt.const _) λ_=> ?_
 ·exact λ_=>Gq.bind Gq.op λout=>Gq.const _
 exact ACt.bind hc Gq.op (λout=>Gq.const _) (ACt.op hK) λout=>ACt.const _
def aEW(X:Ctx)(fn:Nat)(tm:oz)(o:Oper):Gq λK=>vop X K fn tm o:=by
 obtain⟨dst,op,type,pos,after,guard⟩:=o;cases op<;>try exact Gq.const _
 case call c=>
  obtain⟨callee,args,tys⟩:=c;cases callee with
  |value f=>
   simp only[vop];split
   ·exact axg X fn _ _ _
   ·exact Gq.const _
  |invoke r m=>exact Gq.const _
  |builtin b=>cases b<;>exact Gq.const _
 case slice a b c d e=>cases e<;>exact Gq.const _
def aEX{Kn:Nat->nC}{K:nC}(hc:Chain Kn)(hK:∀f args cells r,K f args cells=some r->∃n,Kn n f args cells=some r)(X:Ctx)(fn:Nat)(tm:oz)(o:Oper):ACt Kn K λK=>vop X K fn tm o:=by
 obtain⟨dst,op,type,pos,after,guard⟩:=o;cases op<;>try exact ACt.const _
 case call c=>
  obtain⟨callee,args,tys⟩:=c;cases callee with
  |value f=>
   simp only[vop];split
   ·exact axh hc hK X fn _ _ _
   ·exact ACt.const _
  |invoke r m=>exact ACt.const _
  |builtin b=>cases b<;>exact ACt.const _
 case slice a b c d e=>cases e<;>exact ACt.const _
def Up{β:Type}(E:nC->Option β):Prop:=∀K K',KLe K K'->∀r,E K=some r->E K'=some r
def Ct{β:Type}(Kn:Nat->nC)(K:nC)(E:nC->Option β):Prop:=∀r,E K=some r->∃n,E (Kn n)=some r
def Up.const{β:Type}(e:Option β):Up λ_=>e:=λ_ _ _ _ h=>h
def Ct.const{β:Type}{Kn:Nat->nC}{K:nC}(e:Option β):Ct Kn K λ_=>e:=λ_ h=>⟨0,h⟩
def Up.bind{α β:Type}{E:nC->Option α}{F:nC->α->Option β}(h:Up E)(k:∀x,Up λK=>F K x):Up λK=>(E K).bind (F K):=by intro K K' hK r hr;simp only[Option.bind_eq_some_iff] at hr|-;obtain⟨x,h1,h2⟩:=hr;exact⟨x,h K K' hK x h1,k x K K' hK r h2⟩
def Ct.bind{α β:Type}{Kn:Nat->nC}{K:nC}(hc:Chain Kn){E:nC->Option α}{F:nC->α->Option β}(hu:Up E)(ku:∀x,Up λK=>F K x)(h:Ct Kn K E)(k:∀x,Ct Kn K λK=>F K x):Ct Kn K λK=>(E K).bind (F K):=by intro r hr;simp only[Option.bind_eq_some_iff] at hr|-;obtain⟨x,h1,h2⟩:=hr;obtain⟨n1,q1⟩:=h x h1;obtain⟨n2,q2⟩:=k x r h2;exact⟨max n1 n2,x,hu _ _ (hc.le (Nat.le_max_left n1 n2)) x q1,ku x _ _ (hc.le (Nat.le_max_right n1 n2)) r q2⟩
def aoX(X:Ctx)(fn:Nat)(ops:Array Oper)(i:Nat)(S:St):Up λK=>GI X K fn ops i S:=by
 intro K K' hK r hr;simp only[GI] at hr|-;cases ho:ops[i]? with
 |none=>simp[ho] at hr
 |some o=>
  simp only[ho] at hr|-;cases hw:IX ops S.tm o with
  |none=>simp[hw] at hr
  |some bt=>
   obtain⟨b,tm⟩:=bt;cases b with
   |false=>simpa[hw] using hr
   |true=>
    simp only[hw] at hr|-;cases hv:(vop X K fn tm o).run S.mem .none with
    |none=>simp[hv] at hr
    |some q=>rw[aEW X fn tm o K K' hK S.mem .none q hv];rw[hv] at hr;exact hr
def axi{Kn:Nat->nC}{K:nC}(hc:Chain Kn)(hK:∀f args cells r,K f args cells=some r->∃n,Kn n f args cells=some r)(X:Ctx)(fn:Nat)(ops:Array Oper)(i:Nat)(S:St):Ct Kn K λK=>GI X K fn ops i S:=by
 intro r hr;simp only[GI] at hr|-;cases ho:ops[i]? with
 |none=>simp[ho] at hr
 |some o=>
  simp only[ho] at hr|-;cases hw:IX ops S.tm o with
  |none=>simp[hw] at hr
  |some bt=>
   obtain⟨b,tm⟩:=bt;cases b with
   |false=>exact⟨0,by simpa[hw] using hr⟩
   |true=>
    simp only[hw] at hr|-;cases hv:(vop X K fn tm o).run S.mem .none with
    |none=>simp[hv] at hr
    |some q=>obtain⟨n,hn⟩:=aEX hc hK X fn tm o S.mem .none q hv;exact⟨n,by rw[hn];rw[hv] at hr;exact hr⟩
def agb(X:Ctx)(fn:Nat)(ops:Array Oper)(i:Nat)(is:List Nat)(S:St)(L:List (Nat×Log))(K:nC):
  OY X K fn ops (i::is) S L=(GI X K fn ops i S).bind λr=>OY X K fn ops is r.1 ((i,r.2)::L):=by
 simp only[OY];cases GI X K fn ops i S with
 |none=>rfl
 |some r=>rfl
def agc(X:Ctx)(fn:Nat)(ops:Array Oper):∀(is:List Nat) (S:St) (L:List (Nat×Log)),Up λK=>OY X K fn ops is S L
 |[],S,L=>Up.const _
 |i::is,S,L=>by simp only[agb];exact Up.bind (aoX X fn ops i S) λr=>agc X fn ops is r.1 _
def al9{Kn:Nat->nC}{K:nC}(hc:Chain Kn)(hK:∀f args cells r,K f args cells=some r->∃n,Kn n f args cells=some r)(X:Ctx)(fn:Nat)(ops:Array Oper):∀(is:List Nat) (S:St) (L:List (Nat×Log)),Ct Kn K λK=>OY X K fn ops is S L
 |[],S,L=>Ct.const _
 |i::is,S,L=>by simp only[agb];exact Ct.bind hc (aoX X fn ops i S) (λr=>agc X fn ops is r.1 _) (axi hc hK X fn ops i S) λr=>al9 hc hK X fn ops is r.1 _
def afg(X:Ctx)(fn id:Nat)(ops:Array Oper)(draw:Bool)(S:St):Up λK=>MF X K fn id ops draw S:=agc X fn ops _ S _
def anA{Kn:Nat->nC}{K:nC}(hc:Chain Kn)(hK:∀f args cells r,K f args cells=some r->∃n,Kn n f args cells=some r)(X:Ctx)(fn id:Nat)(ops:Array Oper)(draw:Bool)(S:St):Ct Kn K λK=>MF X K fn id ops draw S:=al9 hc hK X fn ops _ S _
def agd(X:Ctx)(fn id:Nat)(ops:Array Oper)(draw:Bool)(S:St)(K:nC):
  region X K fn id ops draw S=(MF X K fn id ops draw S).bind λr=>bif(match draw with|false=>true|true=>X.P.follows .mixedOrders &&(backOk ops && ZN ops (Region.before ops) r.2)) then prune (X.U8.keep fn id) r.1 else none:=by
 simp only[region];cases MF X K fn id ops draw S with
 |none=>rfl
 |some r=>rfl
def ama(X:Ctx)(fn id:Nat)(ops:Array Oper)(draw:Bool)(S:St):Up λK=>region X K fn id ops draw S:=by simp only[agd];exact Up.bind (afg X fn id ops draw S) λr=>Up.const _
def au5{Kn:Nat->nC}{K:nC}(hc:Chain Kn)(hK:∀f args cells r,K f args cells=some r->∃n,Kn n f args cells=some r)(X:Ctx)(fn id:Nat)(ops:Array Oper)(draw:Bool)(S:St):Ct Kn K λK=>region X K fn id ops draw S:=by simp only[agd];exact Ct.bind hc (afg X fn id ops draw S) (λr=>Up.const _) (anA hc hK X fn id ops draw S) λr=>Ct.const _
def agf{b:St->Option (Ex×St)}:∀{n k:Nat} {S:St} {r:Ex×St},iter b n S=some r->n<=k->iter b k S=some r
 |0,_,_,_,h,_=>by simp[iter] at h
 |n+1,0,_,_,_,hk=>by omega
 |n+1,k+1,S,r,h,hk=>by
  simp only[iter] at h|-;cases hb:b S with
  |none=>simp[hb] at h
  |some q=>
   obtain⟨e,S'⟩:=q;rw[hb] at h;cases e with
   |normal=>exact agf h aC
   |exit id=>exact h
   |ret=>exact h
def IY{α:Type}{f:Nat->Option α}{x:α}{n:Nat}(hn:f n=some x)(h:∀m y,f m=some y->y=x):lim f=some x:=by unfold lim;rw[dif_pos ⟨x,n,hn⟩];congr 1;obtain⟨m,hm⟩:=Classical.choose_spec (⟨x,n,hn⟩:∃a n,f n=some a);exact h m _ hm
def afh{b:St->Option (Ex×St)}{S:St}{r:Ex×St}{n:Nat}(h:iter b n S=some r):WC b S=some r:=by
 refine IY h λm y hy=> ?_
 have h1:=agf h (Nat.le_max_left n m);rw[agf hy (Nat.le_max_right n m)] at h1;exact Option.some.inj h1
def aej{b:St->Option (Ex×St)}{S:St}{r:Ex×St}(h:WC b S=some r):∃n,iter b n S=some r:=VJ h
def iter_eq{b:St->Option (Ex×St)}{n:Nat}{S:St}:iter b (n+1) S=(b S).bind λq=>match q with|(.normal,S')=>iter b n S'|(e,S')=>some (e,S'):=by
 simp only[iter];cases b S with
 |none=>rfl
 |some q=>obtain⟨e,S'⟩:=q;cases e<;>rfl
def anB{B:nC->St->Option (Ex×St)}(h:∀S,Up λK=>B K S):∀(n:Nat) (S:St),Up λK=>iter (B K) n S
 |0,S=>Up.const _
 |n+1,S=>by
  simp only[iter_eq];refine Up.bind (h S) λq=> ?_
  obtain⟨e,S'⟩:=q;cases e with
  |normal=>exact anB h n S'
  |exit id=>exact Up.const _
  |ret=>exact Up.const _
def atq{Kn:Nat->nC}{K:nC}(hc:Chain Kn){B:nC->St->Option (Ex×St)}(hu:∀S,Up λK=>B K S)(h:∀S,Ct Kn K λK=>B K S):∀(n:Nat) (S:St),Ct Kn K λK=>iter (B K) n S
 |0,S=>Ct.const _
 |n+1,S=>by
  simp only[iter_eq];refine Ct.bind hc (hu S) (λq=> ?_) (h S) λq=> ?_
  all_goals
   obtain⟨e,S'⟩:=q;cases e
  ·exact anB hu n S'
  ·exact Up.const _
  ·exact Up.const _
  ·exact atq hc hu h n S'
  ·exact Ct.const _
  ·exact Ct.const _
def axj{B:nC->St->Option (Ex×St)}(h:∀S,Up λK=>B K S)(S:St):Up λK=>WC (B K) S:=by intro K K' hK r hr;obtain⟨n,hn⟩:=aej hr;exact afh (anB h n S K K' hK r hn)
def axk{Kn:Nat->nC}{K:nC}(hc:Chain Kn){B:nC->St->Option (Ex×St)}(hu:∀S,Up λK=>B K S)(h:∀S,Ct Kn K λK=>B K S)(S:St):Ct Kn K λK=>WC (B K) S:=by intro r hr;obtain⟨n,hn⟩:=aej hr;obtain⟨k,hk⟩:=atq hc hu h n S r hn;exact⟨k,afh hk⟩
def anC(X:Ctx)(fn:Nat)(c:Code):∀S,Up λK=>den X K fn c S:=by
 induction c with
 |region id ops draw=>
  intro S K K' hK r hr;simp only[den] at hr|-;cases h:region X K fn id ops draw S with
  |none=>simp[h] at hr
  |some S'=>have he0:=ama X fn id ops draw S K K' hK S' h;dsimp only at he0;rw[he0];rw[h] at hr;exact hr
 |seq a b iha ihb=>
  intro S K K' hK r hr;simp only[den] at hr|-;cases h:den X K fn a S with
  |none=>simp[h] at hr
  |some q=>
   have he0:=iha S K K' hK q h;dsimp only at he0;rw[he0];rw[h] at hr;obtain⟨e,S'⟩:=q;cases e with
   |normal=>exact ihb S' K K' hK r hr
   |exit id=>exact hr
   |ret=>exact hr
 |cond c a b iha ihb=>
  intro S K K' hK r hr;simp only[den] at hr|-;cases h:acs X.P S.tm c with
  |none=>simp[h] at hr
  |some q=>
   rw[h] at hr;cases q with
   |true=>exact iha S K K' hK r hr
   |false=>exact ihb S K K' hK r hr
 |block id c ih=>
  intro S K K' hK r hr;simp only[den] at hr|-;cases h:den X K fn c S with
  |none=>simp[h] at hr
  |some q=>have he0:=ih S K K' hK q h;dsimp only at he0;rw[he0];rw[h] at hr;exact hr
 |loop c ih=>intro S;exact axj ih S
 |_=>intro S;exact Up.const _
def aEY{Kn:Nat->nC}{K:nC}(hc:Chain Kn)(hK:∀f args cells r,K f args cells=some r->∃n,Kn n f args cells=some r)(X:Ctx)(fn:Nat)(c:Code):∀S,Ct Kn K λK=>den X K fn c S:=by
 induction c with
 |region id ops draw=>
  intro S r hr;simp only[den] at hr|-;cases h:region X K fn id ops draw S with
  |none=>simp[h] at hr
  |some S'=>obtain⟨n,hn⟩:=au5 hc hK X fn id ops draw S S' h;dsimp only at hn;exact⟨n,by rw[hn];rw[h] at hr;exact hr⟩
 |seq a b iha ihb=>
  intro S r hr;simp only[den] at hr|-;cases h:den X K fn a S with
  |none=>simp[h] at hr
  |some q=>
   obtain⟨n,hn⟩:=iha S q h;dsimp only at hn;rw[h] at hr;obtain⟨e,S'⟩:=q;cases e with
   |normal=>obtain⟨k,hk⟩:=ihb S' r hr;dsimp only at hk;refine⟨max n k, ?_⟩;have he0:=anC X fn a S _ _ (hc.le (Nat.le_max_left n k)) _ hn;dsimp only at he0;rw[he0];exact anC X fn b S' _ _ (hc.le (Nat.le_max_right n k)) _ hk
   |exit id=>exact⟨n,by rw[hn];exact hr⟩
   |ret=>exact⟨n,by rw[hn];exact hr⟩
 |cond c a b iha ihb=>
  intro S r hr;simp only[den] at hr|-;cases h:acs X.P S.tm c with
  |none=>simp[h] at hr
  |some q=>
   rw[h] at hr;cases q with
   |true=>exact iha S r hr
   |false=>exact ihb S r hr
 |block id c ih=>
  intro S r hr;simp only[den] at hr|-;cases h:den X K fn c S with
  |none=>simp[h] at hr
  |some q=>obtain⟨n,hn⟩:=ih S q h;dsimp only at hn;exact⟨n,by rw[hn];rw[h] at hr;exact hr⟩
 |loop c ih=>intro S;exact axk hc (anC X fn c) ih S
 |_=>intro S;exact Ct.const _
def atr(X:Ctx)(f:Nat)(args:List V)(cells:List Cell):Up λK=>body X K f args cells:=by
 intro K K' hK r hr;simp only[body] at hr|-;cases hg:X.P.funcs[f]? with
 |none=>simp[hg] at hr
 |some g=>
  simp only[hg] at hr|-;cases hcd:g.body with
  |none=>simp[hcd] at hr
  |some c=>
   simp only[hcd] at hr|-;revert hr;generalize (!(Nat.ble cells.length xA && Nat.ble args.length g.ntmps))=q;cases q with
   |true=>exact id
   |false=>
    simp only[aX];intro hr;split at hr
    ·rename_i tm m l he;cases h:den X K f c ⟨tm,m⟩ with
     |none=>simp[h] at hr
     |some q=>have he0:=anC X f c ⟨tm,m⟩ K K' hK q h;dsimp only at he0;rw[he0];rw[h] at hr;exact hr
    ·cases hr
def aBr{Kn:Nat->nC}{K:nC}(hc:Chain Kn)(hK:∀f args cells r,K f args cells=some r->∃n,Kn n f args cells=some r)(X:Ctx)(f:Nat)(args:List V)(cells:List Cell):Ct Kn K λK=>body X K f args cells:=by
 intro r hr;simp only[body] at hr|-;cases hg:X.P.funcs[f]? with
 |none=>simp[hg] at hr
 |some g=>
  simp only[hg] at hr|-;cases hcd:g.body with
  |none=>simp[hcd] at hr
  |some c=>
   simp only[hcd] at hr|-;revert hr;generalize (!(Nat.ble cells.length xA && Nat.ble args.length g.ntmps))=q;cases q with
   |true=>exact λh=>⟨0,h⟩
   |false=>
    simp only[aX];intro hr;split at hr
    ·rename_i tm m l he;cases h:den X K f c ⟨tm,m⟩ with
     |none=>simp[h] at hr
     |some q=>obtain⟨n,hn⟩:=aEY hc hK X f c ⟨tm,m⟩ q h;dsimp only at hn;exact⟨n,by rw[hn];rw[h] at hr;exact hr⟩
    ·cases hr
def WM(X:Ctx):Chain (ZP X)
 |0=>λf args cells r h=>by simp[ZP] at h
 |n+1=>λf args cells r h=>by
  simp only[ZP] at h|-;cases hp:X.adV f with
  |some p=>simpa[hp] using h
  |none=>simp only[hp] at h|-;exact atr X f args cells _ _ (WM X n) r h
def amb{X:Ctx}{n:Nat}{f:Nat}{args:List V}{cells:List Cell}{r:List Row×List Cell}(h:ZP X n f args cells=some r):call X f args cells=some r:=by
 refine IY h λm y hy=> ?_
 have h1:=(WM X).le (Nat.le_max_left n m) f args cells r h;rw[(WM X).le (Nat.le_max_right n m) f args cells y hy] at h1;exact Option.some.inj h1
def aBs{X:Ctx}{K:nC}(hK:KLe K (call X)){f:Nat}{args:List V}{cells:List Cell}{r:List Row×List Cell}(hp:X.adV f=none)(h:body X K f args cells=some r):call X f args cells=some r:=by have h1:=atr X f args cells K (call X) hK r h;obtain⟨n,hn⟩:=aBr (WM X) (λf a c r hr=>VJ hr) X f args cells r h1;dsimp only at hn;refine amb (n:=n+1) ?_;simp only[ZP,hp];exact hn
def anD{X:Ctx}{f:Nat}{p:List V->List Cell->Option (List Row×List Cell)}{args:List V}{cells:List Cell}{r:List Row×List Cell}(hp:X.adV f=some p)(h:p args cells=some r):call X f args cells=some r:=
 amb (n:=1) (by simp only[ZP,hp];exact h)
end Go.Vm
namespace Go.Vm
open Go
abbrev Loops:=Nat->St->Option (Ex×St)
def lid:Code->Nat
 | .region id _ _=>id
 | .seq a b=>match lid a with
  |0=>lid b
  |n=>n
 | .block _ c=>lid c
 | .loop c=>lid c
 | .cond _ a b=>match lid a with
  |0=>lid b
  |n=>n
 |_=>0
def loops:Code->List Code
 | .seq a b=>loops a++loops b
 | .cond _ a b=>loops a++loops b
 | .block _ c=>loops c
 | .loop c=>[c]
 |_=>[]
def NM(X:Ctx)(K:nC)(L:Loops)(fn:Nat):Code->St->Option (Ex×St)
 | .skip,S=>some (.normal,S)
 | .region id ops draw,S=>match region X K fn id ops draw S with
  |some S'=>some (.normal,S')
  |none=>none
 | .seq a b,S=>match NM X K L fn a S with
  |some (.normal,S')=>NM X K L fn b S'
  |r=>r
 | .cond c a b,S=>match acs X.P S.tm c with
  |some true=>NM X K L fn a S
  |some false=>NM X K L fn b S
  |none=>none
 | .block id c,S=>match NM X K L fn c S with
  |some (.exit j,S')=>bif Nat.beq j id then some (.normal,S') else some (.exit j,S')
  |r=>r
 | .loop c,S=>L (lid c) S
 | .exit id,S=>some (.exit id,S)
 | .ret,S=>some (.ret,S)
 |_,_=>none
def codeOf(P:Program)(f:Nat):Code:=match P.funcs[f]? with
 |some g=>match g.body with
  |some c=>c
  |none=> .skip
 |none=> .skip
def ahy(X:Ctx)(K:nC)(L:Loops)(f:Nat)(args:List V)(cells:List Cell):Option (List Row×List Cell):=
 match X.P.funcs[f]? with
 |some g=>match g.body with
  |some c=>bif !(Nat.ble cells.length xA && Nat.ble args.length g.ntmps) then none else match(entry X f g args cells).run (y7 0 cells) .none with
   |some (tm,m,_)=>(match NM X K L f c ⟨tm,m⟩ with
    |some (.normal,S)=>leave X g cells.length S
    |some (.ret,S)=>leave X g cells.length S
    |_=>none)
   |none=>none
  |none=>none
 |none=>none
def LOk(X:Ctx)(K:nC)(fn:Nat)(L:Loops)(cs:List Code):Prop:=∀c,c∈cs->∀S r,L (lid c) S=some r->WC (den X K fn c) S=some r
def LOk.nil{X:Ctx}{K:nC}{fn:Nat}{L:Loops}:LOk X K fn L []:=λ_ h=>by simp at h
def LOk.cons{X:Ctx}{K:nC}{fn:Nat}{L:Loops}{c:Code}{cs:List Code}(h:∀S r,L (lid c) S=some r->WC (den X K fn c) S=some r)(k:LOk X K fn L cs):LOk X K fn L (c::cs):=by
 intro d hd;rcases List.mem_cons.1 hd with rfl|hd
 ·exact h
 ·exact k d hd
def axl{X:Ctx}{K:nC}{L:Loops}{fn:Nat}:∀{c:Code} {S:St} {r:Ex×St},LOk X K fn L (loops c)->NM X K L fn c S=some r->den X K fn c S=some r:=by
 intro c;induction c with
 |seq a b iha ihb=>
  intro S r hL h;have hLa:LOk X K fn L (loops a):=λd hd=>hL d (by simp[loops,hd])
  have hLb:LOk X K fn L (loops b):=λd hd=>hL d (by simp[loops,hd])
  simp only[NM] at h;simp only[den];cases ha:NM X K L fn a S with
  |none=>simp[ha] at h
  |some q=>
   rw[iha hLa ha];rw[ha] at h;obtain⟨e,S'⟩:=q;cases e with
   |normal=>exact ihb hLb h
   |exit id=>exact h
   |ret=>exact h
 |cond c a b iha ihb=>
  intro S r hL h;have hLa:LOk X K fn L (loops a):=λd hd=>hL d (by simp[loops,hd])
  have hLb:LOk X K fn L (loops b):=λd hd=>hL d (by simp[loops,hd])
  simp only[NM] at h;simp only[den];cases hc:acs X.P S.tm c with
  |none=>simp[hc] at h
  |some q=>
   rw[hc] at h;cases q with
   |true=>exact iha hLa h
   |false=>exact ihb hLb h
 |block id c ih=>
  intro S r hL h;simp only[NM] at h;simp only[den];cases ha:NM X K L fn c S with
  |none=>simp[ha] at h
  |some q=>rw[ih hL ha];rw[ha] at h;exact h
 |loop c ih=>intro S r hL h;exact hL c (by simp[loops]) S r h
 |region id ops draw=>intro S r hL h;exact h
 |skip=>intro S r hL h;exact h
 |exit id=>intro S r hL h;exact h
 |ret=>intro S r hL h;exact h
 |_=>intro S r hL h;simp[NM] at h
def atu(X:Ctx)(L:Loops)(fn:Nat)(c:Code):∀S,Up λK=>NM X K L fn c S:=by
 induction c with
 |region id ops draw=>
  intro S K K' hK r hr;simp only[NM] at hr|-;cases h:region X K fn id ops draw S with
  |none=>simp[h] at hr
  |some S'=>have he0:=ama X fn id ops draw S K K' hK S' h;dsimp only at he0;rw[he0];rw[h] at hr;exact hr
 |seq a b iha ihb=>
  intro S K K' hK r hr;simp only[NM] at hr|-;cases h:NM X K L fn a S with
  |none=>simp[h] at hr
  |some q=>
   have he0:=iha S K K' hK q h;dsimp only at he0;rw[he0];rw[h] at hr;obtain⟨e,S'⟩:=q;cases e with
   |normal=>exact ihb S' K K' hK r hr
   |exit id=>exact hr
   |ret=>exact hr
 |cond c a b iha ihb=>
  intro S K K' hK r hr;simp only[NM] at hr|-;cases h:acs X.P S.tm c with
  |none=>simp[h] at hr
  |some q=>
   rw[h] at hr;cases q with
   |true=>exact iha S K K' hK r hr
   |false=>exact ihb S K K' hK r hr
 |block id c ih=>
  intro S K K' hK r hr;simp only[NM] at hr|-;cases h:NM X K L fn c S with
  |none=>simp[h] at hr
  |some q=>have he0:=ih S K K' hK q h;dsimp only at he0;rw[he0];rw[h] at hr;exact hr
 |_=>intro S;exact Up.const _
def axn(X:Ctx)(L:Loops)(f:Nat)(args:List V)(cells:List Cell):Up λK=>ahy X K L f args cells:=by
 intro K K' hK r hr;simp only[ahy] at hr|-;cases hg:X.P.funcs[f]? with
 |none=>simp[hg] at hr
 |some g=>
  simp only[hg] at hr|-;cases hcd:g.body with
  |none=>simp[hcd] at hr
  |some c=>
   simp only[hcd] at hr|-;revert hr;generalize (!(Nat.ble cells.length xA && Nat.ble args.length g.ntmps))=q;cases q with
   |true=>exact id
   |false=>
    simp only[aX];intro hr;split at hr
    ·rename_i tm m l he;cases h:NM X K L f c ⟨tm,m⟩ with
     |none=>simp[h] at hr
     |some q=>have he0:=atu X L f c ⟨tm,m⟩ K K' hK q h;dsimp only at he0;rw[he0];rw[h] at hr;exact hr
    ·cases hr
def aBt{X:Ctx}{K:nC}{L:Loops}{f:Nat}{args:List V}{cells:List Cell}{r:List Row×List Cell}(hL:LOk X K f L (loops (codeOf X.P f)))(h:ahy X K L f args cells=some r):body X K f args cells=some r:=by
 simp only[ahy] at h;simp only[body];cases hg:X.P.funcs[f]? with
 |none=>simp[hg] at h
 |some g=>
  simp only[hg] at h|-;cases hcd:g.body with
  |none=>simp[hcd] at h
  |some c=>
   simp only[hcd] at h|-;have hcode:codeOf X.P f=c:=by simp[codeOf,hg,hcd]
   rw[hcode] at hL;revert h;generalize (!(Nat.ble cells.length xA && Nat.ble args.length g.ntmps))=q;cases q with
   |true=>exact id
   |false=>
    simp only[aX];intro h;split at h
    ·rename_i tm m l he;simp only[he];cases hd:NM X K L f c ⟨tm,m⟩ with
     |none=>simp[hd] at h
     |some q=>rw[axl hL hd];rw[hd] at h;exact h
    ·cases h
def axo{X:Ctx}{K:nC}{L:Loops}{f:Nat}{args:List V}{cells:List Cell}{r:List Row×List Cell}(hp:X.adV f=none)(hK:KLe K (call X))(hL:LOk X (call X) f L (loops (codeOf X.P f)))
  (h:ahy X K L f args cells=some r):call X f args cells=some r:=by
 exact aBs (KLe.refl _) hp (aBt hL (axn X L f args cells K (call X) hK r h))
def aBu{X:Ctx}{K:nC}{L:Loops}{fn:Nat}{c:Code}{S:St}{r:Ex×St}(hK:KLe K (call X))(hL:LOk X (call X) fn L (loops c))(h:NM X K L fn c S=some r):den X (call X) fn c S=some r:=
 axl hL (atu X L fn c S K (call X) hK r h)
end Go.Vm
namespace Go.Vm
open Go
structure Res(α:Type) where
 β:Type
 o:Option β
 enc:β->α
def Res.val{α:Type}(r:Res α):Option α:=r.o.map r.enc
abbrev Vb:=Nat->List V->List Cell->Res (List Row×List Cell)
inductive Alt(α:Type):Type 1 where
 |leaf (β:Type) (enc:β->α)
 |sum (a b:Alt α)
def Alt.T{α:Type}:Alt α->Type
 | .leaf β _=>β
 | .sum a b=>a.T⊕b.T
def Alt.enc{α:Type}:(a:Alt α)->a.T->α
 | .leaf _ enc,x=>enc x
 | .sum a _,.inl x=>a.enc x
 | .sum _ b,.inr x=>b.enc x
structure aek(α:Type) where
 alt:Alt α
 o:Option alt.T
def aek.val{α:Type}(r:aek α):Option α:=r.o.map r.alt.enc
def aek.none{α:Type}:aek α:=⟨.leaf Empty Empty.elim,.none⟩
abbrev WO:=Nat->St->aek (Ex×St)
def Vb.to(K:Vb):nC:=λf a c=>(K f a c).val
def WO.to(L:WO):Loops:=λn S=>(L n S).val
def Res.none{α:Type}:Res α:=⟨Empty,.none,Empty.elim⟩
section
variable {R:Type}
def jg{α β γ:Type}(r:α⊕β)(f:α->Option γ)(g:β->Option γ):Option γ:=match r with
 | .inl x=>f x
 | .inr y=>g y
def Alt.go{α:Type}:(a:Alt α)->a.T->(α->Option R)->Option R
 | .leaf _ enc=>λx k=>k (enc x)
 | .sum a b=>λx k=>jg x (λx=>a.go x k) (λy=>b.go y k)
def Alt.go_eq{α:Type}(k:α->Option R):∀(a:Alt α) (x:a.T),a.go x k=k (a.enc x)
 | .leaf _ enc,x=>rfl
 | .sum a _,.inl x=>Alt.go_eq k a x
 | .sum _ b,.inr x=>Alt.go_eq k b x
def aek.ajw{α:Type}{r:aek α}{x:α}(h:r.val=some x):∃y,r.o=some y/\r.alt.enc y=x:=by simpa[aek.val,Option.map_eq_some_iff] using h
def Res.ajw{α:Type}{r:Res α}{x:α}(h:r.val=some x):∃y,r.o=some y/\r.enc y=x:=by simpa[Res.val,Option.map_eq_some_iff] using h
def Acc.aoY{α:Type}:Acc α->Mem->Log->(α->Mem->Log->Option R)->Option R
 | .ret a,m,l,k=>k a m l
 | .fail,_,_,_=>none
 | .get i c,m,l,k=>(c (Vm.get i m)).aoY m (l.rd i) k
 | .set i x c,m,l,k=>c.aoY (put i x m) (l.wr i) k
 | .opt o c,m,l,k=>match o with|some b=>(c b).aoY m l k|none=>none
 | .guard b c,m,l,k=>match b with|true=>c.aoY m l k|false=>none
def arR(X:Ctx)(K:Vb)(fn dst f:Nat)(args:List V):Acc V:=do
 let g<-op' X.P.funcs[f]?
 ck (g.body.isSome && !(g.name == "runtime.NumGoroutine"))
 let imp:=U9 X.U8 f 0 [] args
 let args<-XH X.U8 f 0 args
 let cells<-ZJ X.U8 imp imp
 let(args,Ud)<-XI X.U8 imp f 0 args
 ck (Ud.all λr=> !(mem? r imp))
 let b<-op' (K f args cells).o
 let out:=(K f args cells).enc b
 ck (Nat.beq out.1.length g.resultTypes.size)
 let need:= !(Ud.isEmpty) &&(abQ X.P (X.U8.att fn dst) 0 g.resultTypes.toList && imp.isEmpty)
 ck (bif need then out.1.all xw else true)
 freeze (bif need then[] else Ud)
 ag3 X dst out.2 0 imp
 let vs<-adZ X (X.U8.att fn dst) dst out.1 0 g.resultTypes.toList
 match vs with
 |[v]=>pure v
 |vs=>pure (.ZH vs)
def aEZ(X:Ctx)(K:Vb)(fn:Nat)(tm:oz)(o:Oper):Acc V:=
 match o.op with
 | .call {callee:=.value f,args,argTypes}=>match ev X.P tm 0 f with
  | .clo g first caps=>arR X K fn (o.dst.getD 0) g (first++CO X.P tm args.toList argTypes.toList++caps)
  |_=> .fail
 |_=>vop X (λ_ _ _=>none) fn tm o
def axp(x:D)(k:D->Option R):Option R:=match x with
 | .int j n=>k (.int j n)
 | .bool b=>k (.bool b)
 | .str s=>k (.str s)
 | .Zt=>k .Zt
 | .sl o s rows=>match o with
  |true=>k (.sl true s rows)
  |false=>k (.sl false s rows)
mutual
def P7(v:V)(k:V->Option R):Option R:=match v with
 | .d x=>axp x λx=>k (.d x)
 | .nil s=>k (.nil s)
 | .own r v=>k (.own r v)
 | .ptr r o=>k (.ptr r o)
 | .MC r v i o=>k (.MC r v i o)
 | .IW row o=>k (.IW row o)
 | .clo f a b=>Vd a λa=>Vd b λb=>k (.clo f a b)
 | .agg cs=>Vd cs λcs=>k (.agg cs)
 | .ZH cs=>Vd cs λcs=>k (.ZH cs)
 | .undef=>k .undef
def Vd(vs:List V)(k:List V->Option R):Option R:=match vs with
 |[]=>k []
 |v::vs=>P7 v λv=>Vd vs λvs=>k (v::vs)
end
def abU(tm:oz)(k:oz->Option R):Option R:=match tm with
 |[]=>k []
 |(t,v)::tm=>P7 v λv=>abU tm λtm=>k ((t,v)::tm)
def agh(c:Cell)(k:Cell->Option R):Option R:=match c with
 | .box t cs=>Vd cs λcs=>k (.box t cs)
 | .arr fz fl ver s rows=>k (.arr fz fl ver s rows)
 | .dead=>k .dead
def VK(m:Mem)(k:Mem->Option R):Option R:=match m with
 |[]=>k []
 |(r,c)::m=>agh c λc=>VK m λm=>k ((r,c)::m)
def au6(L:List (Nat×Nat))(r:Nat)(k:Nat->Option R):Option R:=match get r L with
 |some j=>k j
 |none=>k r
mutual
def XZ(L:List (Nat×Nat))(v:V)(k:V->Option R):Option R:=match v with
 | .d x=>k (.d x)
 | .nil s=>k (.nil s)
 | .own r v=>au6 L r λr=>k (.own r v)
 | .ptr r o=>au6 L r λr=>k (.ptr r o)
 | .MC r v i o=>au6 L r λr=>k (.MC r v i o)
 | .IW row o=>k (.IW row o)
 | .clo f a b=>YJ L a λa=>YJ L b λb=>k (.clo f a b)
 | .agg cs=>YJ L cs λcs=>k (.agg cs)
 | .ZH vs=>YJ L vs λvs=>k (.ZH vs)
 | .undef=>k .undef
def YJ(L:List (Nat×Nat))(vs:List V)(k:List V->Option R):Option R:=match vs with
 |[]=>k []
 |v::vs=>XZ L v λv=>YJ L vs λvs=>k (v::vs)
end
def anE(L:List (Nat×Nat))(tm:oz)(k:oz->Option R):Option R:=match tm with
 |[]=>k []
 |(t,v)::tm=>XZ L v λv=>anE L tm λtm=>k ((t,v)::tm)
def axq(L:List (Nat×Nat))(c:Cell)(k:Cell->Option R):Option R:=match c with
 | .box t cs=>YJ L cs λcs=>k (.box t cs)
 | .arr fz fl ver s rows=>k (.arr fz fl ver s rows)
 | .dead=>k .dead
def aiy(L:List (Nat×Nat))(m:Mem)(k:Mem->Option R):Option R:=match m with
 |[]=>k []
 |(r,c)::m=>au6 L r λr=>axq L c λc=>aiy L m λm=>VK (put r c m) k
def anF(l:List Nat)(k:List Nat->Option R):Option R:=match l with
 |[]=>k []
 |x::l=>anF l λl=>k (x::l)
def aiz(l:List (Nat×Nat))(k:List (Nat×Nat)->Option R):Option R:=match l with
 |[]=>k []
 |(x,y)::l=>aiz l λl=>k ((x,y)::l)
def anG(S:St)(k:St->Option R):Option R:=anF (aA6 S.tm S.mem) λo=>match o with
 |[]=>k S
 |a::o=>aiz (aA7 names (a::o)) λL=>match aeZ L (S.mem.map (·.1)) with
  |true=>anE L S.tm λtm=>aiy L S.mem λm=>k ⟨tm,m⟩
  |false=>k S
def anH(ops:Array Oper)(tm:oz)(o:Oper)(k:Bool->oz->Option R):Option R:=
 match o.guard with
 |none=>k true tm
 |some (j,want)=>match ops[j]? with
  |some oj=>match oj.dst with
   |some d=>match adU d tm with
    | .d (.bool b)=>match b with
     |true=>k want (put d (.d (.bool true)) tm)
     |false=>k (!want) (put d (.d (.bool false)) tm)
    | .ZH vs=>match vs with
     |[]=>k false (put d (.ZH []) tm)
     |_::_=>none
    |_=>none
   |none=>none
  |none=>none
def arS(X:Ctx)(K:Vb)(fn:Nat)(ops:Array Oper)(i:Nat)(S:St)(k:St->Log->Option R):Option R:=
 match ops[i]? with
 |none=>none
 |some o=>anH ops S.tm o λb tm=>match b with
  |false=>k ⟨ag4 (Zu X.P fn) o.dst tm,S.mem⟩ .none
  |true=>(aEZ X K fn tm o).aoY S.mem .none λv m l=>bif ZM (Zu X.P fn) o.dst then P7 v λv=>k ⟨ak4 o.dst v tm,m⟩ l else none
def aiA(X:Ctx)(K:Vb)(fn:Nat)(ops:Array Oper):List Nat->St->List (Nat×Log)->(St->List (Nat×Log)->Option R)->Option R
 |[],S,L,k=>k S L
 |i::is,S,L,k=>arS X K fn ops i S λS' l=>aiA X K fn ops is S' ((i,l)::L) k
def aDR(X:Ctx)(ops:Array Oper)(L:List (Nat×Log)):Bool->Bool
 |false=>true
 |true=>X.P.follows .mixedOrders &&(backOk ops && ZN ops (Region.before ops) L)
def ael(X:Ctx)(K:Vb)(fn id:Nat)(ops:Array Oper)(draw:Bool)(S:St)(k:St->List (Nat×Log)->Option R):Option R:=aiA X K fn ops (List.range ops.size) S [] k
def anI(X:Ctx)(K:Vb)(fn id:Nat)(ops:Array Oper)(draw:Bool)(S:St)(k:St->Option R):Option R:=
 ael X K fn id ops draw S λS' L=>
  bif aDR X ops L draw then(match ad4 (X.U8.keep fn id) S' with
   |some S''=>abU S''.tm λtm=>VK S''.mem λm=>anG ⟨tm,m⟩ k
   |none=>none) else none
def rep(k:Nat)(x:V):oz->oz
 |[]=>[]
 |(j,y)::l=>match Nat.beq k j with
  |true=>(j,x)::l
  |false=>(j,y)::rep k x l
def aBv(c:Operand)(b:Bool)(S:St):St:=match c with
 | .tmp i=>⟨rep i (.d (.bool b)) S.tm,S.mem⟩
 |_=>S
def atv{k:Nat}{x:V}:∀{l:oz},get k l=some x->rep k x l=l
 |[],h=>rfl
 |(j,y)::l,h=>by
  simp only[get] at h;rw[rep];cases hb:Nat.beq k j with
  |true=>rw[hb] at h;simp only[aJ,oL] at h;rw[h]
  |false=>rw[hb] at h;simp only;rw[atv h]
def atw{P:Program}{c:Operand}{b:Bool}{S:St}(h:ev P S.tm 0 c=.d (.bool b)):aBv c b S=S:=by
 cases c with
 |tmp i=>
  simp only[ev,adU] at h;cases hg:get i S.tm with
  |none=>rw[hg] at h;cases h
  |some v=>rw[hg] at h;simp only at h;subst h;rw[aBv,atv hg]
 |_=>rfl
def aem(X:Ctx)(K:Vb)(L:WO)(fn:Nat):Code->St->(Ex->St->Option R)->Option R
 | .skip,S,k=>k .normal S
 | .region id ops draw,S,k=>anI X K fn id ops draw S λS'=>k .normal S'
 | .seq a b,S,k=>aem X K L fn a S λe S'=>match e with
  | .normal=>aem X K L fn b S' k
  |e=>k e S'
 | .cond c a b,S,k=>match ev X.P S.tm 0 c with
  | .d (.bool t)=>(match t with
   |true=>aem X K L fn a (aBv c true S) k
   |false=>aem X K L fn b (aBv c false S) k)
  |_=>none
 | .block id c,S,k=>aem X K L fn c S λe S'=>match e with
  | .exit j=>bif Nat.beq j id then k .normal S' else k (.exit j) S'
  |e=>k e S'
 | .loop c,S,k=>match(L (lid c) S).o with
  |some b=>(L (lid c) S).alt.go b λr=>k r.1 r.2
  |none=>none
 | .exit id,S,k=>k (.exit id) S
 | .ret,S,k=>k .ret S
 |_,_,_=>none
def anJ(X:Ctx)(g:Func)(n:Nat)(S:St)(k:List Row->List Cell->Option R):Option R:=
 (do
  let rows<-abR X.P S.tm g.results.toList g.resultTypes.toList
  let cells<-ZJ X.U8 (Bf n) (Bf n)
  pure (rows,cells):Acc (List Row×List Cell)).aoY S.mem .none λr _ _=>k r.1 r.2
def bodyC(X:Ctx)(K:Vb)(L:WO)(f:Nat)(args:List V)(cells:List Cell)(k:List Row->List Cell->Option R):Option R:=
 match X.P.funcs[f]? with
 |some g=>match g.body with
  |some c=>bif !(Nat.ble cells.length xA && Nat.ble args.length g.ntmps) then none else(entry X f g args cells).aoY (y7 0 cells) .none λtm m _=>
   abU tm λtm=>VK m λm=>aem X K L f c ⟨tm,m⟩ λe S=>match e with
    | .normal=>anJ X g cells.length S k
    | .ret=>anJ X g cells.length S k
    | .exit _=>none
  |none=>none
 |none=>none
def anK{α:Type}(A:Acc α):∀(m:Mem) (l:Log) (k:α->Mem->Log->Option R),A.aoY m l k=(A.run m l).bind λr=>k r.1 r.2.1 r.2.2:=by
 induction A with
 |ret a=>intro m l k;rfl
 |fail=>intro m l k;rfl
 |get i c ih=>intro m l k;exact ih _ _ _ _
 |set i x c ih=>intro m l k;exact ih _ _ _
 |opt o c ih=>intro m l k;cases o with
  |none=>rfl
  |some b=>exact ih b _ _ _
 |guard b c ih=>intro m l k;cases b with
  |false=>rfl
  |true=>exact ih _ _ _
def au7(x:D)(k:D->Option R):axp x k=k x:=by
 cases x with
 |sl o s rows=>cases o<;>rfl
 |_=>rfl
mutual
def agi:∀(v:V) (k:V->Option R),P7 v k=k v
 | .d x,k=>by simp only[P7,au7]
 | .nil s,k=>by simp only[P7]
 | .own r v,k=>by simp only[P7]
 | .ptr r o,k=>by simp only[P7]
 | .MC r v i o,k=>by simp only[P7]
 | .IW row o,k=>by simp only[P7]
 | .clo f a b,k=>by simp only[P7];rw[RV a,RV b]
 | .agg cs,k=>by simp only[P7];rw[RV cs]
 | .ZH cs,k=>by simp only[P7];rw[RV cs]
 | .undef,k=>by simp only[P7]
def RV:∀(vs:List V) (k:List V->Option R),Vd vs k=k vs
 |[],k=>by simp only[Vd]
 |v::vs,k=>by simp only[Vd];rw[agi v,RV vs]
end
def aen:∀(tm:oz) (k:oz->Option R),abU tm k=k tm
 |[],k=>rfl
 |(t,v)::tm,k=>by simp only[abU];rw[agi v,aen tm]
def anL(c:Cell)(k:Cell->Option R):agh c k=k c:=by
 cases c with
 |box t cs=>simp only[agh,RV]
 |_=>rfl
def WQ:∀(m:Mem) (k:Mem->Option R),VK m k=k m
 |[],k=>rfl
 |(t,v)::m,k=>by simp only[VK];rw[anL v,WQ m]
def aiB(L:List (Nat×Nat))(r:Nat)(k:Nat->Option R):au6 L r k=k (ren L r):=by unfold au6 ren;cases get r L<;>rfl
mutual
def aoZ(L:List (Nat×Nat)):∀(v:V) (k:V->Option R),XZ L v k=k (Xk L v)
 | .d x,k=>by simp only[XZ,Xk]
 | .nil s,k=>by simp only[XZ,Xk]
 | .own r v,k=>by simp only[XZ,Xk,aiB]
 | .ptr r o,k=>by simp only[XZ,Xk,aiB]
 | .MC r v i o,k=>by simp only[XZ,Xk,aiB]
 | .IW row o,k=>by simp only[XZ,Xk]
 | .clo f a b,k=>by simp only[XZ,Xk];rw[Vt L a,Vt L b]
 | .agg cs,k=>by simp only[XZ,Xk];rw[Vt L cs]
 | .ZH vs,k=>by simp only[XZ,Xk];rw[Vt L vs]
 | .undef,k=>by simp only[XZ,Xk]
def Vt(L:List (Nat×Nat)):∀(vs:List V) (k:List V->Option R),YJ L vs k=k (ZL L vs)
 |[],k=>by simp only[YJ,ZL]
 |v::vs,k=>by simp only[YJ,ZL];rw[aoZ L v,Vt L vs]
end
def amc(L:List (Nat×Nat)):∀(tm:oz) (k:oz->Option R),anE L tm k=k (aiS L tm)
 |[],k=>rfl
 |(t,v)::tm,k=>by simp only[anE,aiS];rw[aoZ L v,amc L tm]
def axr(L:List (Nat×Nat))(c:Cell)(k:Cell->Option R):axq L c k=k (ak5 L c):=by
 cases c with
 |box t cs=>simp only[axq,ak5,Vt]
 |_=>rfl
def ajx(L:List (Nat×Nat)):∀(m:Mem) (k:Mem->Option R),aiy L m k=k (Vw L m)
 |[],k=>rfl
 |(r,c)::m,k=>by simp only[aiy,Vw,aiB,axr];rw[ajx L m,WQ]
def amd:∀(l:List Nat) (k:List Nat->Option R),anF l k=k l
 |[],k=>rfl
 |x::l,k=>by simp only[anF];rw[amd l]
def ajy:∀(l:List (Nat×Nat)) (k:List (Nat×Nat)->Option R),aiz l k=k l
 |[],k=>rfl
 |(x,y)::l,k=>by simp only[aiz];rw[ajy l]
def au8(S:St)(k:St->Option R):anG S k=k (canon S):=by
 unfold anG canon;rw[amd];cases aA6 S.tm S.mem with
 |nil=>rfl
 |cons a o=>
  simp only[ajy,anl];cases aeZ (aA7 names (a::o)) (S.mem.map (·.1)) with
  |true=>simp only[amc,ajx]
  |false=>rfl
def aeo{α:Type}(a b:Acc α):Prop:=∀m l,a.run m l=b.run m l
def aeo.refl{α:Type}(a:Acc α):aeo a a:=λ_ _=>rfl
def aeo.bind{α β:Type}{a:Acc α}{f g:α->Acc β}(h:∀x,aeo (f x) (g x)):aeo (a>>=f) (a>>=g):=by
 intro m l;rw[run_bind,run_bind];cases a.run m l with
 |none=>rfl
 |some r=>obtain⟨x,m,l⟩:=r;exact h x m l
def aeo.enc{α β γ:Type}{o:Option β}{enc:β->α}{f:α->Acc γ}:aeo (op' o>>=λb=>f (enc b)) (op' (o.map enc)>>=f):=by intro m l;rw[run_bind,run_bind];cases o<;>rfl
def arU{X:Ctx}{K:Vb}{fn dst f:Nat}{args:List V}{m:Mem}{l:Log}:(arR X K fn dst f args).run m l=(aeX X K.to fn dst f args).run m l:=by
 revert m l;show aeo _ _;unfold arR aeX;refine aeo.bind λg=>aeo.bind λ_=>aeo.bind λargs=>aeo.bind λcells=>aeo.bind fun⟨args,Ud⟩=>aeo.bind λ_=> ?_
 exact aeo.enc (o:=(K f args cells).o) (enc:=(K f args cells).enc) (f:=λout=>do
  ck (Nat.beq out.1.length g.resultTypes.size)
  ck (bif(!(Ud.isEmpty) &&(abQ X.P (X.U8.att fn dst) 0 g.resultTypes.toList &&(U9 X.U8 _ 0 [] _).isEmpty)) then out.1.all xw else true)
  freeze (bif(!(Ud.isEmpty) &&(abQ X.P (X.U8.att fn dst) 0 g.resultTypes.toList &&(U9 X.U8 _ 0 [] _).isEmpty)) then[] else Ud)
  ag3 X dst out.2 0 (U9 X.U8 _ 0 [] _)
  let vs<-adZ X (X.U8.att fn dst) dst out.1 0 g.resultTypes.toList
  match vs with
  |[v]=>pure v
  |vs=>pure (.ZH vs))
def axt{X:Ctx}{K:Vb}{fn:Nat}{tm:oz}{o:Oper}{m:Mem}{l:Log}:(aEZ X K fn tm o).run m l=(vop X K.to fn tm o).run m l:=by
 obtain⟨dst,op,type,pos,after,guard⟩:=o;cases op<;>try rfl
 case call c=>
  obtain⟨callee,args,tys⟩:=c;cases callee with
  |value f=>
   simp only[aEZ,vop];cases ev X.P tm 0 f with
   |clo g a b=>exact arU
   |_=>rfl
  |invoke r m=>rfl
  |builtin b=>cases b<;>rfl
 case slice a b c d e=>cases e<;>rfl
def arV(ops:Array Oper)(tm:oz)(o:Oper)(k:Bool->oz->Option R):anH ops tm o k=(IX ops tm o).bind λr=>k r.1 r.2:=by
 unfold anH IX;cases o.guard with
 |none=>rfl
 |some jw=>
  obtain⟨j,want⟩:=jw;simp only;cases ops[j]? with
  |none=>rfl
  |some oj=>
   simp only;cases oj.dst with
   |none=>rfl
   |some d=>
    simp only;cases adU d tm with
    |d x=>cases x with
     |bool b=>cases b<;>rfl
     |_=>rfl
    |ZH vs=>cases vs<;>rfl
    |_=>rfl
def au9(X:Ctx)(K:Vb)(fn:Nat)(ops:Array Oper)(i:Nat)(S:St)(k:St->Log->Option R):arS X K fn ops i S k=(GI X K.to fn ops i S).bind λr=>k r.1 r.2:=by
 unfold arS GI;cases ops[i]? with
 |none=>rfl
 |some o=>
  simp only[arV];cases IX ops S.tm o with
  |none=>rfl
  |some r=>
   obtain⟨b,tm⟩:=r;cases b with
   |false=>rfl
   |true=>
    simp only[Option.bind_some,anK,axt];cases(vop X K.to fn tm o).run S.mem .none with
    |none=>rfl
    |some r=>
     obtain⟨v,m,l⟩:=r;simp only[Option.bind_some];cases ZM (Zu X.P fn) o.dst with
     |false=>rfl
     |true=>simp only[aJ,agi];rfl
def ajz(X:Ctx)(K:Vb)(fn:Nat)(ops:Array Oper):∀(is:List Nat) (S:St) (L:List (Nat×Log)) (k:St->List (Nat×Log)->Option R),aiA X K fn ops is S L k=(OY X K.to fn ops is S L).bind λr=>k r.1 r.2
 |[],S,L,k=>rfl
 |i::is,S,L,k=>by
  simp only[aiA,agb,au9];cases GI X K.to fn ops i S with
  |none=>rfl
  |some r=>simp only[Option.bind_some];exact ajz X K fn ops is _ _ k
def ale(X:Ctx)(K:Vb)(fn id:Nat)(ops:Array Oper)(draw:Bool)(S:St)(k:St->List (Nat×Log)->Option R):ael X K fn id ops draw S k=(MF X K.to fn id ops draw S).bind λr=>k r.1 r.2:=by rw[ael,ajz];rfl
def arW(X:Ctx)(K:Vb)(fn id:Nat)(ops:Array Oper)(draw:Bool)(S:St)(k:St->Option R):anI X K fn id ops draw S k=(region X K.to fn id ops draw S).bind k:=by
 simp only[anI,agd,ale];cases MF X K.to fn id ops draw S with
 |none=>rfl
 |some r=>
  simp only[Option.bind_some];have hp:(match ad4 (X.U8.keep fn id) r.1 with
   |some S''=>abU S''.tm λtm=>VK S''.mem λm=>anG ⟨tm,m⟩ k
   |none=>none)=(prune (X.U8.keep fn id) r.1).bind k:=by
   unfold prune;cases ad4 (X.U8.keep fn id) r.1 with
   |none=>rfl
   |some S''=>simp only[aen,WQ,au8];rfl
  rw[hp];cases draw with
  |false=>rfl
  |true=>simp only[aDR];cases(X.P.follows .mixedOrders &&(backOk ops && ZN ops (Region.before ops) r.2))<;>rfl
def atx(X:Ctx)(K:Vb)(L:WO)(fn:Nat)(c:Code):∀(S:St) (k:Ex->St->Option R),aem X K L fn c S k=(NM X K.to L.to fn c S).bind λr=>k r.1 r.2:=by
 induction c with
 |skip=>intro S k;rfl
 |region id ops draw=>intro S k;simp only[aem,NM,arW];cases region X K.to fn id ops draw S<;>rfl
 |seq a b iha ihb=>
  intro S k;simp only[aem,NM,iha];cases NM X K.to L.to fn a S with
  |none=>rfl
  |some r=>
   obtain⟨e,S'⟩:=r;cases e with
   |normal=>exact ihb S' k
   |exit id=>rfl
   |ret=>rfl
 |cond c a b iha ihb=>
  intro S k;simp only[aem,NM,acs];cases hev:ev X.P S.tm 0 c with
  |d x=>cases x with
   |bool t=>cases t with
    |true=>simp only[atw hev];exact iha S k
    |false=>simp only[atw hev];exact ihb S k
   |_=>rfl
  |_=>rfl
 |block id c ih=>
  intro S k;simp only[aem,NM,ih];cases NM X K.to L.to fn c S with
  |none=>rfl
  |some r=>
   obtain⟨e,S'⟩:=r;cases e with
   |normal=>rfl
   |ret=>rfl
   |exit j=>simp only[Option.bind_some];cases Nat.beq j id<;>rfl
 |loop c ih=>intro S k;simp only[aem,NM,WO.to,aek.val,Alt.go_eq];cases(L (lid c) S).o<;>rfl
 |exit id=>intro S k;rfl
 |ret=>intro S k;rfl
 |_=>intro S k;rfl
def ame(X:Ctx)(g:Func)(n:Nat)(S:St)(k:List Row->List Cell->Option R):anJ X g n S k=(leave X g n S).bind λr=>k r.1 r.2:=by
 simp only[anJ,leave,anK];split
 ·rename_i r m l he;simp only[he];rfl
 ·rename_i he;simp only[he];rfl
def axu(X:Ctx)(K:Vb)(L:WO)(f:Nat)(args:List V)(cells:List Cell)(k:List Row->List Cell->Option R):bodyC X K L f args cells k=(ahy X K.to L.to f args cells).bind λr=>k r.1 r.2:=by
 simp only[bodyC,ahy];cases X.P.funcs[f]? with
 |none=>rfl
 |some g=>
  simp only;cases g.body with
  |none=>rfl
  |some c=>
   simp only;generalize (!(Nat.ble cells.length xA && Nat.ble args.length g.ntmps))=q;cases q with
   |true=>rfl
   |false=>
    simp only[aX,anK];cases(entry X f g args cells).run (y7 0 cells) .none with
    |none=>rfl
    |some r=>
     obtain⟨tm,m,l⟩:=r;simp only[Option.bind_some,aen,WQ,atx];cases NM X K.to L.to f c ⟨tm,m⟩ with
     |none=>rfl
     |some r=>
      obtain⟨e,S⟩:=r;cases e with
      |normal=>simp only[Option.bind_some,ame]
      |ret=>simp only[Option.bind_some,ame]
      |exit j=>rfl
end
def axv{X:Ctx}{K:Vb}{L:WO}{f:Nat}{args:List V}{cells:List Cell}{r:List Row×List Cell}(hp:X.adV f=none)(hK:KLe K.to (call X))(hL:LOk X (call X) f L.to (loops (codeOf X.P f)))
  (h:bodyC X K L f args cells (λa b=>some (a,b))=some r):call X f args cells=some r:=by
 refine axo hp hK hL ?_;rw[axu] at h;cases hb:ahy X K.to L.to f args cells with
 |none=>rw[hb] at h;cases h
 |some q=>rw[hb] at h;exact h
def aBw{X:Ctx}{K:Vb}{L:WO}{fn:Nat}{c:Code}{S:St}{r:Ex×St}(hK:KLe K.to (call X))(hL:LOk X (call X) fn L.to (loops c))(h:aem X K L fn c S (λa b=>some (a,b))=some r):den X (call X) fn c S=some r:=by
 refine aBu hK hL ?_;rw[atx] at h;cases hb:NM X K.to L.to fn c S with
 |none=>rw[hb] at h;cases h
 |some q=>rw[hb] at h;exact h
end Go.Vm
namespace Go.Vm
open Go
def iterM{σ τ:Type}(b:σ->Option (σ⊕τ)):Nat->σ->Option τ
 |0,_=>none
 |n+1,s=>match b s with
  |some (.inl s')=>iterM b n s'
  |some (.inr t)=>some t
  |none=>none
def aep{σ τ:Type}{b:σ->Option (σ⊕τ)}:∀{n k:Nat} {s:σ} {t:τ},iterM b n s=some t->n<=k->iterM b k s=some t
 |0,_,_,_,h,_=>by simp[iterM] at h
 |n+1,0,_,_,_,hk=>by omega
 |n+1,k+1,s,t,h,hk=>by
  simp only[iterM] at h|-;cases hb:b s with
  |none=>simp[hb] at h
  |some q=>
   rw[hb] at h;cases q with
   |inl s'=>exact aep h aC
   |inr t'=>exact h
noncomputable def gU{σ τ:Type}(b:σ->Option (σ⊕τ))(s:σ):Option τ:=lim λn=>iterM b n s
def afi{σ τ:Type}{b:σ->Option (σ⊕τ)}{s:σ}{t:τ}{n:Nat}(h:iterM b n s=some t):gU b s=some t:=by
 refine IY h λm y hy=> ?_
 have h1:=aep h (Nat.le_max_left n m);rw[aep hy (Nat.le_max_right n m)] at h1;exact Option.some.inj h1
def aer{σ τ:Type}{b:σ->Option (σ⊕τ)}{s:σ}{t:τ}(h:gU b s=some t):∃n,iterM b n s=some t:=VJ h
def aZ{σ τ:Type}{b:σ->Option (σ⊕τ)}{s s':σ}(h:b s=some (.inl s')):gU b s=gU b s':=by
 cases hl:gU b s' with
 |some t=>obtain⟨n,hn⟩:=aer hl;exact afi (n:=n+1) (by simp only[iterM,h];exact hn)
 |none=>
  cases hs:gU b s with
  |none=>rfl
  |some t=>
   obtain⟨n,hn⟩:=aer hs;cases n with
   |zero=>simp[iterM] at hn
   |succ n=>simp only[iterM,h] at hn;rw[afi hn] at hl;cases hl
def aO{σ τ:Type}{b:σ->Option (σ⊕τ)}{s:σ}{t:τ}(h:b s=some (.inr t)):gU b s=some t:=
 afi (n:=1) (by simp only[iterM,h])
def wC{σ τ:Type}{b:σ->Option (σ⊕τ)}{t:τ}(st:Nat->σ)(n:Nat)(h:∀i,i<n->b (st i)=some (.inl (st (i+1))))(he:b (st n)=some (.inr t)):∀i,i<=n->gU b (st i)=some t:=by
 intro i hi;obtain⟨d,rfl⟩:∃d,n=i+d:=⟨n - i,aC⟩
 induction d generalizing i with
 |zero=>exact aO he
 |succ d ih=>rw[aZ (h i aC),ih (i+1) (λj hj=>h j aC) (by rw[show i+1+d=i+(d+1) by omega];exact he) aC]
def arX{σ τ:Type}{b:σ->Option (σ⊕τ)}{D:St->Option (Ex×St)}{tm:σ->St}{tx:τ->Ex×St}
  (h:∀s r,b s=some r->D (tm s)=some (match r with| .inl s'=>(.normal,tm s')| .inr t=>tx t)) (hx:∀t,(tx t).1≠.normal) {s:σ} {t:τ} (hl:gU b s=some t):WC D (tm s)=some (tx t):=by
 obtain⟨n,hn⟩:=aer hl;induction n generalizing s with
 |zero=>simp[iterM] at hn
 |succ n ih=>
  simp only[iterM] at hn;cases hb:b s with
  |none=>simp[hb] at hn
  |some q=>
   rw[hb] at hn;have hd:=h s q hb;cases q with
   |inl s'=>have hl':=ih (afi hn) hn;obtain⟨k,hk⟩:=aej hl';refine afh (n:=k+1) ?_;simp only[iter,hd];exact hk
   |inr t'=>
    simp only[oL] at hn;subst hn;refine afh (n:=1) ?_;simp only[iter,hd];have:=hx t';cases ht:tx t' with
    |mk e S=>cases e with
     |normal=>rw[ht] at this;exact absurd rfl this
     |exit id=>rfl
     |ret=>rfl
def aHP(X:Ctx)(f n:Nat)(c:Code)(P:St->aek (Ex×St)):Prop:=lid c=n/\∀S r,(P S).val=some r->WC (den X (call X) f c) S=some r
def findLoop(n:Nat):Code->Option Code
 | .seq a b=>match findLoop n a with
  |some c=>some c
  |none=>findLoop n b
 | .cond _ a b=>match findLoop n a with
  |some c=>some c
  |none=>findLoop n b
 | .block _ c=>findLoop n c
 | .loop c=>bif Nat.beq (lid c) n then some c else findLoop n c
 |_=>none
def Z7(P:Program)(f n:Nat):Code:=match findLoop n (codeOf P f) with
 |some c=>c
 |none=> .skip
def axw{X:Ctx}{K:Vb}{L:WO}{f:Nat}{args:List V}{cells:List Cell}{ρ:Type}{o:Option ρ}{enc:ρ->List Row×List Cell}(hp:X.adV f=none)(hK:KLe K.to (call X))(hL:LOk X (call X) f L.to (loops (codeOf X.P f)))
  (h:bodyC X K L f args cells (λa b=>some (a,b))=o.bind λr=>some (enc r)) {r:ρ} (hr:o=some r):call X f args cells=some (enc r):=by
 refine axv hp hK hL ?_;rw[h,hr];rfl
def axx{X:Ctx}{K:Vb}{L:WO}{f:Nat}{c:Code}{σ τ:Type}{b:σ->Option (σ⊕τ)}{tm:σ->St}{tx:τ->Ex×St}(hK:KLe K.to (call X))(hL:LOk X (call X) f L.to (loops c))
  (h:∀s,aem X K L f c (tm s) (λa b=>some (a,b))=(b s).bind λr=>some (match r with| .inl s'=>(.normal,tm s')| .inr t=>tx t)) (hx:∀t,(tx t).1≠.normal) {s:σ} {t:τ} (hl:gU b s=some t):
  WC (den X (call X) f c) (tm s)=some (tx t):=by
 refine arX (λs r hr=> ?_) hx hl;refine aBw hK hL ?_;rw[h s,hr];rfl
def axy{α β:Type}(c:Bool)(a b:Option α)(f:α->Option β):(bif c then a else b).bind f=bif c then a.bind f else b.bind f:=by cases c<;>rfl
def ava{α β γ:Type}(o:Option α)(g:α->Option β)(f:β->Option γ):(o.bind g).bind f=o.bind λx=>(g x).bind f:=by cases o<;>rfl
def aj{α β:Type}(a:α)(f:α->Option β):(some a).bind f=f a:=rfl
def avb{α β:Type}(f:α->Option β):(none:Option α).bind f=none:=rfl
def avc{α β:Type}(o:Option α)(n:Option β)(f:α->Option β):Option β:=match o with
 |none=>n
 |some x=>f x
def letE{α β:Type}(x:α)(f:α->Option β):Option β:=f x
def amf{α β γ:Type}(o:Option α)(n:Option β)(f:α->Option β)(g:β->Option γ):(avc o n f).bind g=avc o (n.bind g) λx=>(f x).bind g:=by cases o<;>rfl
def amg{α β γ δ:Type}(r:α⊕β)(f:α->Option γ)(g:β->Option γ)(k:γ->Option δ):(jg r f g).bind k=jg r (λx=>(f x).bind k) (λy=>(g y).bind k):=by cases r<;>rfl
def amh{α β γ:Type}(x:α)(f:α->Option β)(g:β->Option γ):(letE x f).bind g=letE x λy=>(f y).bind g:=rfl
def aHP.at{X:Ctx}{f n:Nat}{c:Code}{P:St->aek (Ex×St)}{L:WO}(h:aHP X f n c P)(hL:∀S,L n S=P S):∀S r,L.to (lid c) S=some r->WC (den X (call X) f c) S=some r:=by intro S r hr;rw[h.1,WO.to,hL] at hr;exact h.2 S r hr
end Go.Vm
