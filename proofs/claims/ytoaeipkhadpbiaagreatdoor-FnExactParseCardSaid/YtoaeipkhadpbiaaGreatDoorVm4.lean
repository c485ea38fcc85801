import Derived.Test.YtoaeipkhadpbiaaGreatDoorVm3
import Derived.IntWalk
import Derived.ChangeShapes
import Derived.ChangeOld
import Derived.Carry
import Derived.WideShapes
import Derived.ProofKit
import Derived.Handed
import Derived.LaidLaws
import Derived.LaidHandle
import Derived.Shelf.Vars
import Derived.OpenShut
import Derived.ChangeArms
import Derived.LaidMore
set_option linter.defProp false
set_option linter.unusedVariables false
set_option linter.unusedSimpArgs false
namespace Go.Vm
open Go
open Go.IntKind (i64)
section
variable {base:Nat} {U:Nat->Prop} {w:World} {X:Ctx} {P:Program}
def apP(tmps:Array Value):ResultVar->Sem Value
 | .tmp t=>pure (tmps.getD t undef)
 | .cell a t=>do loadVar t (<-asAddr (tmps.getD a undef))
def aa0{α:Type}(f:α->Sem Value):∀(l:List α) (gs:List Value),(∀(i:Nat) x,l[i]? =some x->∃g,gs[i]? =some g/\(f x).run P w=.ok g w)->l.length=gs.length->(l.mapM f).run P w=.ok gs w
 |[],gs,_,hl=>by have:gs=[]:=List.length_eq_zero_iff.1 hl.symm;subst this;rfl
 |x::l,gs,h,hl=>by
  cases gs with
  |nil=>simp at hl
  |cons g gs=>obtain⟨g',h1,h2⟩:=h 0 x rfl;simp only[List.getElem?_cons_zero,iF] at h1;subst h1;have ih:=aa0 f l gs (λi y hy=>by simpa using h (i+1) y (by simpa using hy)) (by simpa using hl);rw[List.mapM_cons];simp only[Sem.run_bind,h2,Result.andThen_ok,ih];rfl
def anc{fn:Func}{tmps:Array Value}{gs:List Value}(h:∀(i:Nat) x,fn.results.toList[i]? =some x->∃g,gs[i]? =some g/\(apP tmps x).run P w=.ok g w)(hl:fn.results.toList.length=gs.length):
  (results fn tmps).run P w=.ok (agj gs) w:=by
 have hm:=aa0 (P:=P) (w:=w) (apP tmps) fn.results.toList gs h hl;have e:results fn tmps=(do
  let vs<-fn.results.mapM (apP tmps)
  pure (if h:vs.size=1 then vs[0] else .tuple vs)):=by
  unfold results
  first
   |rfl
   |(congr 1;done)
   |(congr 1;congr 1;done)
 rw[e,Array.mapM_eq_mapM_toList];simp only[map_eq_pure_bind,Sem.run_bind,hm,Result.andThen_ok,Sem.run_pure];congr 1;unfold agj;cases gs with
 |nil=>rfl
 |cons g gs=>cases gs with
  |nil=>simp
  |cons _ _=>simp
def as5{m:Mem}{G:GS}{tm:kY}{a:Act}{r:ResultVar}{t:TypeId}(hg:IJ base U w m G)(ho:G.out=[])(hT:adJ G.μ m (Gh U w G) tm a){row:Row}{m':Mem}{l l':Log}(h:(alx P tm r t).run m l=some (row,m',l')):
  ∃G' N g cs,PV base U w m G m' G' N/\(apP a.tmps r).run P w=.ok g w/\valOf P t cs g/\jq (dO w) (Gh U w G') row cs N/\row.length=cs.length:=by
 cases r with
 |tmp x=>
  simp only[alx] at h;have hx:=VP (P:=P) hT 0 (.tmp x);simp only[ev] at hx;have hgo:∀v:V,bn G.μ m (Gh U w G) v (a.eval (.tmp x))->Qb P t=false->(PY [v]).run m l=some (row,m',l')->
    ∃G' N g cs,PV base U w m G m' G' N/\(apP a.tmps (.tmp x)).run P w=.ok g w/\valOf P t cs g/\jq (dO w) (Gh U w G') row cs N/\row.length=cs.length:=by
   intro v hv ht h;obtain⟨G',N,t1,q1,hl⟩:=VL hg (vs:=[v]) (gs:=[a.eval (.tmp x)]) (by simp only[dL];exact⟨_,_,rfl,hv,rfl⟩) ho h;exact⟨G',N,a.eval (.tmp x),[a.eval (.tmp x)],t1,rfl,by simp[valOf,ht],q1,by rw[hl];rfl⟩
  cases ht:Qb P t with
  |true=>
   rw[ht] at h;cases hv:WO x tm with
   |agg cs=>rw[hv] at h hx;simp only[bn] at hx;obtain⟨arr,e,hs⟩:=hx;obtain⟨G',N,t1,q1,hl⟩:=VL hg hs ho h;refine⟨G',N,_,arr.toList,t1,rfl, ?_,q1,by rw[hl,kZ hs]⟩;simp only[valOf,ht,if_true];exact e
   |_=>rw[hv] at h;exact(aC h).elim
  |false=>
   rw[ht] at h;cases hv:WO x tm with
   |agg cs=>rw[hv] at h;exact(aC h).elim
   |_=>rw[hv] at h hx;exact hgo _ hx ht h
 |cell y T=>
  simp only[alx] at h;have hx:=VP (P:=P) hT 0 (.tmp y);simp only[ev] at hx;split at h
  ·rename_i r he;rw[he] at hx;replace h:=aA h;obtain⟨c,m2,l2,h2,h⟩:=h;rw[zl] at h2;cases h2;cases hc:get r m with
   |none=>rw[hc] at h;exact(aC h).elim
   |some c=>
    rw[hc] at h;cases c with
    |arr _ _ _ _ _=>exact(aC h).elim
    |dead=>exact(aC h).elim
    |JX _ _ _=>exact(aC h).elim
    |rF _ _=>exact(aC h).elim
    |box T' cs=>
     simp only at h;replace h:=aA h;obtain⟨_,m2,l2,h2,h⟩:=h;obtain⟨hck,rfl,rfl⟩:=eF h2;simp only[Ji,Bool.or_eq_true] at hck;obtain⟨⟨hTt,hlen⟩,hok,hagg⟩:=hck;have hTt:=Dl hTt;have hlen:=Dl hlen;subst hTt;simp only[bn,hc] at hx;obtain⟨_,b,hμ,hg0⟩:=hx;obtain⟨b',arr,e1,e2,e3,e4⟩:=hg.cell r _ hc (by rw[ho];simp);rw[hμ] at e1;cases e1;obtain⟨G',N,t1,q1,hl⟩:=VL hg e3 ho h;have hal:=kZ e3;obtain⟨g,hvg⟩:∃g,valOf P T arr.toList g:=by
      unfold valOf;cases ha:Qb P T with
      |true=>exact⟨_,rfl⟩
      |false=>
       have h1:cs.length=1:=by
        rcases hagg with h1|h1
        ·rw[ha] at h1;cases h1
        ·exact Dl h1
       cases hr:arr.toList with
       |nil=>rw[hr] at hal;simp[h1] at hal
       |cons g r=>
        cases r with
        |nil=>exact⟨g,rfl⟩
        |cons _ _=>rw[hr] at hal;simp[h1] at hal
     refine⟨G',N,g,arr.toList,t1, ?_,hvg,q1,by rw[hl,hal]⟩;have hrun:=Nz (P:=P) (w:=w) (t:=T) (b:=b) (off:=0) (cs:=arr.toList) (g:=g) hok (by rw[hal,hlen]) (by intro j v hj;have hH:w.heap[b]? =some (.cells arr T' (0,0)):=e2;simp only[World.cell?,hH,Nat.zero_add];simpa using hj) hvg;simp only[apP];have hg0:a.tmps.getD y undef=.pointer (some ⟨b,0,none⟩):=hg0;rw[hg0];simpa[Instr.loadAt,Instr.sureAddr,asAddr] using hrun
  ·exact(aC h).elim
def ahN{tm:kY}{a:Act}:∀{rs:List ResultVar} {ts:List TypeId} {m:Mem} {G:GS} (_:IJ base U w m G) (_:G.out=[]) (_:adJ G.μ m (Gh U w G) tm a) {rows:List Row} {m':Mem} {l l':Log}
  (_:(aag P tm rs ts).run m l=some (rows,m',l')),∃G' N gs,PV base U w m G m' G' N/\(∀(i:Nat) x,rs[i]? =some x->∃g,gs[i]? =some g/\(apP a.tmps x).run P w=.ok g w)/\rs.length=gs.length/\
   XC P (dO w) (Gh U w G') ts rows gs N
 |[],[],m,G,hg,ho,hT,rows,m',l,l',h=>by simp only[aag,run_pure,iF,jQ] at h;obtain⟨rfl,rfl,rfl⟩:=h;exact⟨G,[],[],PV.same hg,λi x h=>by simp at h,rfl,rfl,rfl,rfl⟩
 |r::rs,t::ts,m,G,hg,ho,hT,rows,m',l,l',h=>by
  simp only[aag] at h;replace h:=aA h;obtain⟨row,m1,l1,h1,h⟩:=h;replace h:=aA h;obtain⟨rows',m2,l2,h2,h⟩:=h;simp only[run_pure,iF,jQ] at h;obtain⟨rfl,rfl,rfl⟩:=h;obtain⟨G1,N1,g,cs,t1,r1,v1,q1,e1⟩:=as5 hg ho hT h1;obtain⟨G2,N2,gs,t2,r2,e2,q2⟩:=ahN t1.ok (t1.out.trans ho) (λt v hv=>⟨(hT t v hv).1,t1.le.bn (hT t v hv).2⟩) h2;refine⟨G2,N1++N2,g::gs,t1.trans t2, ?_,by simp[e2],row,rows',g,gs,cs,N1,N2,rfl,rfl,rfl,v1,WT t2.le.view q1,e1,q2⟩;intro i x hx;cases i with
  |zero=>simp only[List.getElem?_cons_zero,iF] at hx;subst hx;exact⟨g,rfl,r1⟩
  |succ i=>simpa using r2 i x (by simpa using hx)
 |[],_::_,_,_,_,_,_,_,_,_,_,h=>(aC h).elim
 |_::_,[],_,_,_,_,_,_,_,_,_,h=>(aC h).elim
def as7{μ μ':Nat->Value}{r:Nat}{c c' d:Cell}(hc:sameKind c c)(h:Ld μ μ' r c c')(k:sameKind c' d):μ' r=μ r/\sameKind c d:=by
 cases c<;>cases c'<;>cases d<;>simp only[sameKind,Ld] at hc h k|-
 ·exact⟨h.2,h.1.symm.trans k⟩
 ·obtain⟨a1,a2,a3,a4⟩:=k;obtain⟨b1,b2,b3⟩:=h;obtain⟨c1,_,_,_⟩:=hc;have:=b3 (c1.trans a1.symm);exact⟨this.1,c1,a2,b2.symm.trans a3,this.2.symm.trans a4⟩
 all_goals trivial
def akj{μ μ':Nat->Value}{m0 m1:Mem}(hle:Jl μ m0 μ' m1):∀{rs:List Nat} {cs ds:List Cell},kinds m0 rs cs->kinds m1 rs ds->(∀c,c∈cs->sameKind c c)->(∀(i r:Nat) c,rs[i]? =some r->cs[i]? =some c->get r m0=some c)->rs.map μ'=rs.map μ/\aru cs ds
 |[],cs,ds,h,k,_,_=>by simp only[kinds] at h k;subst h;subst k;exact⟨rfl,rfl⟩
 |r::rs,cs,ds,⟨c,c',cs',e1,h1,h2,h3⟩,⟨d,d',ds',e2,k1,k2,k3⟩,hs,hg=>by subst e1;subst e2;have hc:=hg 0 r c' rfl rfl;obtain⟨c2,q1,q2⟩:=hle r c' hc;rw[k1] at q1;cases q1;obtain⟨p1,p2⟩:=as7 (hs c' (by simp)) q2 k2;obtain⟨r1,r2⟩:=akj hle h3 k3 (λc hc=>hs c (by simp[hc])) (λi r c hr hc=>hg (i+1) r c (by simpa using hr) (by simpa using hc));exact⟨by simp[p1,r1],d',ds',rfl,p2,r2⟩
def afV{H:Heap}{h:View}:∀{cs:List Cell} {gs:List Value} {N:List Nat},cellsB H h cs gs N->∀c,c∈cs->sameKind c c
 |[],_,_,_,c,hc=>by simp at hc
 |c::cs,_,_,⟨g,gs',N1,N2,e,_,q1,q2⟩,d,hd=>by
  rcases List.mem_cons.1 hd with rfl|hd
  ·exact ahK q1
  ·exact afV q2 d hd
def avw{f:Nat}{fn:Func}{args:List V}{cells outs:List Cell}{gargs mD:List Value}{N1 N2:List Nat}{w':World}(hG:Given X base U w f args cells gargs mD N1 N2){S:St}{G:GS}{a:Act}{nt:Nat}
  (R:Rel base U (N1++N2) w (impμ mD) (uJ 0 cells) nt w' S G a) {rows:List Row} (h:leave X fn cells.length S=some (rows,outs)):
  ∃gs M1 M2,(results fn a.tmps).run X.P w'=.ok (agj gs) w'/\Did X.P U w w' (N1++N2) fn.resultTypes.toList cells outs mD rows gs M1 M2:=by
 simp only[leave] at h;split at h
 ·rename_i r m' l' hr;simp only[iF] at h;subst h;replace hr:=aA hr;obtain⟨aRY,m1,l1,h1,hr⟩:=hr;replace hr:=aA hr;obtain⟨cs1,m2,l2,h2,hr⟩:=hr;simp only[run_pure,iF,jQ] at hr;obtain⟨⟨rfl,rfl⟩,rfl,rfl⟩:=hr;obtain⟨G1,Nr,gs,t1,r1,e1,q1⟩:=ahN R.at_.ok R.at_.out R.tm h1;have ho1:G1.out=[]:=t1.out.trans R.at_.out;obtain⟨G2,Nc,t2,q2,kd2⟩:=aeE t1.ok (aaZ cells.length) (λr hr=>⟨hr,by rw[ho1];simp⟩) (λr hr=>by rw[ho1] at hr;simp at hr) h2;have hE2:G2.E=Nr++Nc:=by rw[t2.E,t1.E,R.at_.E];rfl
  have hlen:=Vq hG.cells;have hk0:kinds (uJ 0 cells) (yV cells.length) cells:=by rw[ahL];exact aeL (λi=>by rw[Nat.zero_add];exact Q9 cells i) hG.cells
  obtain⟨b1,b2⟩:=akj (yA R.imp t1.le.mem) hk0 kd2 (afV hG.cells) (by intro i r c hr hc;have hi:i<cells.length:=(VG.1 hc).1;rw[afT hi] at hr;cases hr;rw[Q9];exact hc);have hv:(Gh U w' G2).le (view w' U (· ∈Nc++Nr)):=SL (λ_ x=>x) (λb hb=> .inl (by rw[hE2];simp only[List.mem_append] at hb|-;exact hb.symm));refine⟨gs,Nc,Nr,anc r1 e1,R.at_.fr.keep, ?_, ?_,b2, ?_, ?_⟩
  ·have:=t2.ok.ndE;rw[hE2] at this;exact(List.perm_append_comm.nodup_iff).1 this
  ·intro b hb;have hbE:b∈G2.E:=by rw[hE2];simp only[List.mem_append] at hb|-;exact hb.symm
   exact⟨R.at_.fr.fr b (t1.le.ex b (t2.le.ex b (.inl hbE))),(t2.ok.lt b (.inl hbE)).1⟩
  ·rw[b1,<-hlen,afU] at q2;exact NU hv q2
  ·exact TK (t2.le.view.trans' hv) (λ_ _=>rfl) q1
 ·cases h
def azo{K:jO}(hK:Sound X K){f:FuncId}{fn:Func}{args:List V}{cells:List Cell}{rows:List Row}{outs:List Cell}(hf:X.P.funcs[f]? =some fn)(h:body X K f args cells=some (rows,outs))
  {gargs mD:List Value} {N1 N2:List Nat} (hG:Given X base U w f args cells gargs mD N1 N2):
  Calls X.P f gargs.toArray w λe w'=>∃gs M1 M2,e=.returned (agj gs)/\Did X.P U w w' (N1++N2) fn.resultTypes.toList cells outs mD rows gs M1 M2:=by
 simp only[body,hf] at h;cases hb:fn.body with
 |none=>simp[hb] at h
 |some c=>
  simp only[hb] at h;cases hn:(Nat.ble cells.length oq && Nat.ble args.length fn.ntmps) with
  |false=>simp[hn] at h
  |true=>
   simp only[hn,Bool.not_true,aX] at h;simp only[Ji] at hn;have hn1:=Nat.le_of_ble_eq_true hn.1;have hn2:=Nat.le_of_ble_eq_true hn.2;split at h
   ·rename_i tm m' l' he;obtain⟨G,R⟩:=avv hG he hn2;have hM:∀r c,get r (uJ 0 cells)=some c->Qc r=true:=by intro r c hr;obtain⟨i,e,hi⟩:=RU hr;have hil:i<cells.length:=(VG.1 hi).1;subst e;simp only[Qc,Ji];exact⟨Nat.ble_eq_true_of_le aB,by rw[Nat.blt_eq];omega⟩
    have hnt:J3 X.P f=fn.ntmps:=by simp[J3,hf]
    have aEP:=as3 (base:=base) (U:=U) (M0:=N1++N2) (w0:=w) (ν:=impμ mD) ⟨hK,hG.gl,hG.tab⟩ hnt hM;have hfin:∀ex S,leave X fn cells.length S=some (rows,outs)->(ex=Ex.normal\/ex=Ex.ret)->∀w' G' a',Rel base U (N1++N2) w (impμ mD) (uJ 0 cells) fn.ntmps w' S G' a'->(Gh U w G).le (Gh U w' G')->
      bodyPost X.P fn (λe w'=>∃gs M1 M2,e=.returned (agj gs)/\Did X.P U w w' (N1++N2) fn.resultTypes.toList cells outs mD rows gs M1 M2) (aCj ex) a' w':=by
     intro ex S hl hex w' G' a' R' _;obtain⟨gs,M1,M2,hr,hd⟩:=avw hG R' hl;rcases hex with rfl|rfl<;>exact⟨R'.defers,_,hr,gs,M1,M2,rfl,hd⟩
    split at h
    ·rename_i S hd;exact calls_of_wp hf hb (avs aEP c R hd (hfin _ _ h (.inl rfl)))
    ·rename_i S hd;exact calls_of_wp hf hb (avs aEP c R hd (hfin _ _ h (.inr rfl)))
    ·cases h
   ·cases h
end
def alH(X:Ctx):Prop:=∀(f:FuncId) (p:List V->List Cell->Option (List Row×List Cell)) (fn:Func) (args:List V) (cells:List Cell) (rows:List Row) (outs:List Cell),X.adr f=some p->X.P.funcs[f]? =some fn->fn.body.isSome=true->p args cells=some (rows,outs)->
 ∀(base:Nat) (U:Nat->Prop) (w:World) (gargs mD:List Value) (N1 N2:List Nat),Given X base U w f args cells gargs mD N1 N2->
  Calls X.P f gargs.toArray w λe w'=>∃gs M1 M2,e=.returned (agj gs)/\Did X.P U w w' (N1++N2) fn.resultTypes.toList cells outs mD rows gs M1 M2
def ane{X:Ctx}(hp:alH X):∀n,Sound X (Yi X n)
 |0=>by intro f fn args cells rows outs hf hb h;simp[Yi] at h
 |n+1=>by
  intro f fn args cells rows outs hf hb h base U w gargs mD N1 N2 hG;simp only[Yi] at h;cases hx:X.adr f with
  |some p=>rw[hx] at h;exact hp f p fn args cells rows outs hx hf hb h base U w gargs mD N1 N2 hG
  |none=>rw[hx] at h;exact azo (ane hp n) hf h hG
def azp{X:Ctx}(hp:alH X):Sound X (call X):=by intro f fn args cells rows outs hf hb h base U w gargs mD N1 N2 hG;obtain⟨n,hn⟩:=TU h;exact ane hp n f fn args cells rows outs hf hb hn base U w gargs mD N1 N2 hG
end Go.Vm
namespace Go.Vm
open Go
open Go.IntKind (i64)
def KLe(K K':jO):Prop:=∀f args cells r,K f args cells=some r->K' f args cells=some r
def KLe.refl(K:jO):KLe K K:=λ_ _ _ _ h=>h
def KLe.trans{K1 K2 K3:jO}(h:KLe K1 K2)(k:KLe K2 K3):KLe K1 K3:=λf a c r q=>k f a c r (h f a c r q)
def kJ{α:Type}(A:jO->Acc α):Prop:=∀K K',KLe K K'->∀m l r,(A K).run m l=some r->(A K').run m l=some r
def kJ.const{α:Type}(a:Acc α):kJ λ_=>a:=λ_ _ _ _ _ _ h=>h
def kJ.bind{α β:Type}{A:jO->Acc α}{B:jO->α->Acc β}(h:kJ A)(k:∀x,kJ λK=>B K x):kJ λK=>A K>>=B K:=by intro K K' hK m l r hr;obtain⟨y,m',l'⟩:=r;obtain⟨x,m1,l1,h1,h2⟩:=aA hr;rw[run_bind,h K K' hK m l _ h1];exact k x K K' hK m1 l1 _ h2
def kJ.op{f:Nat}{args:List V}{cells:List Cell}:kJ λK=>op' (K f args cells):=by intro K K' hK m l r hr;obtain⟨x,m',l'⟩:=r;obtain⟨h1,rfl,rfl⟩:=iE hr;simp only;rw[hK f args cells x h1];rfl
def RF{α:Type}(Kn:Nat->jO)(K:jO)(A:jO->Acc α):Prop:=∀m l r,(A K).run m l=some r->∃n,(A (Kn n)).run m l=some r
def Chain(Kn:Nat->jO):Prop:=∀n,KLe (Kn n) (Kn (n+1))
def Chain.le{Kn:Nat->jO}(h:Chain Kn){n k:Nat}(hk:n<=k):KLe (Kn n) (Kn k):=by
 induction hk with
 |refl=>exact KLe.refl _
 |step _ ih=>exact ih.trans (h _)
section
variable {Kn:Nat->jO} {K:jO} (hc:Chain Kn)
def RF.const{α:Type}(a:Acc α):RF Kn K λ_=>a:=λ_ _ _ h=>⟨0,h⟩
include hc in
theorem RF.bind{α β:Type}{A:jO->Acc α}{B:jO->α->Acc β}(hu:kJ A)(ku:∀x,kJ λK=>B K x)(h:RF Kn K A)(k:∀x,RF Kn K λK=>B K x):RF Kn K λK=>A K>>=B K:=by intro m l r hr;obtain⟨y,m',l'⟩:=r;obtain⟨x,m1,l1,h1,h2⟩:=aA hr;obtain⟨n1,q1⟩:=h m l _ h1;obtain⟨n2,q2⟩:=k x m1 l1 _ h2;refine⟨max n1 n2, ?_⟩;rw[run_bind,hu _ _ (hc.le (Nat.le_max_left n1 n2)) m l _ q1];exact ku x _ _ (hc.le (Nat.le_max_right n1 n2)) m1 l1 _ q2
theorem RF.op(hK:∀f args cells r,K f args cells=some r->∃n,Kn n f args cells=some r){f:Nat}{args:List V}{cells:List Cell}:RF Kn K λK=>op' (K f args cells):=by intro m l r hr;obtain⟨x,m',l'⟩:=r;obtain⟨h1,rfl,rfl⟩:=iE hr;obtain⟨n,hn⟩:=hK f args cells x h1;refine⟨n, ?_⟩;simp only;rw[hn];rfl
end
def avx(X:Ctx)(fn dst f:Nat)(args:List V):kJ λK=>adw X K fn dst f args:=by unfold adw;refine kJ.bind (kJ.const _) λg=>kJ.bind (kJ.const _) λ_=>kJ.bind (kJ.const _) λargs=>kJ.bind (kJ.const _) λcells=>kJ.bind (kJ.const _) fun⟨args,Q8⟩=>kJ.bind (kJ.const _) λ_=>kJ.bind kJ.op λout=>kJ.const _
def avy{Kn:Nat->jO}{K:jO}(hc:Chain Kn)(hK:∀f args cells r,K f args cells=some r->∃n,Kn n f args cells=some r)(X:Ctx)(fn dst f:Nat)(args:List V):RF Kn K λK=>adw X K fn dst f args:=by
 unfold adw;refine RF.bind hc (kJ.const _) ?_ (RF.const _) λg=> ?_
 ·exact λg=>kJ.bind (kJ.const _) λ_=>kJ.bind (kJ.const _) λargs=>kJ.bind (kJ.const _) λcells=>kJ.bind (kJ.const _) fun⟨args,Q8⟩=>kJ.bind (kJ.const _) λ_=>kJ.bind kJ.op λout=>kJ.const _
 refine RF.bind hc (kJ.const _) ?_ (RF.const _) λ_=> ?_
 ·exact λg=>kJ.bind (kJ.const _) λargs=>kJ.bind (kJ.const _) λcells=>kJ.bind (kJ.const _) fun⟨args,Q8⟩=>kJ.bind (kJ.const _) λ_=>kJ.bind kJ.op λout=>kJ.const _
 refine RF.bind hc (kJ.const _) ?_ (RF.const _) λargs=> ?_
 ·exact λg=>kJ.bind (kJ.const _) λcells=>kJ.bind (kJ.const _) fun⟨args,Q8⟩=>kJ.bind (kJ.const _) λ_=>kJ.bind kJ.op λout=>kJ.const _
 refine RF.bind hc (kJ.const _) ?_ (RF.const _) λcells=> ?_
 ·exact λg=>kJ.bind (kJ.const _) fun⟨args,Q8⟩=>kJ.bind (kJ.const _) λ_=>kJ.bind kJ.op λout=>kJ.const _
 refine RF.bind hc (kJ.const _) ?_ (RF.const _) fun⟨args,Q8⟩=> ?_
 ·exact fun⟨args,Q8⟩=>kJ.bind (kJ.const _) λ_=>kJ.bind kJ.op λout=>kJ.const _
 refine RF.bind hc (kJ.const _) ?_ (RF.const _) λ_=> ?_
 ·exact λ_=>kJ.bind kJ.op λout=>kJ.const _
 exact RF.bind hc kJ.op (λout=>kJ.const _) (RF.op hK) λout=>RF.const _
def aCq(X:Ctx)(fn:Nat)(tm:kY)(o:Oper):kJ λK=>vop X K fn tm o:=by
 obtain⟨dst,op,type,pos,after,guard⟩:=o;cases op<;>try exact kJ.const _
 case call c=>
  obtain⟨callee,args,tys⟩:=c;cases callee with
  |value f=>
   simp only[vop];split
   ·exact avx X fn _ _ _
   ·exact kJ.const _
  |invoke r m=>exact kJ.const _
  |builtin b=>cases b<;>exact kJ.const _
 case makeFunc f a b=>cases f<;>exact kJ.const _
 case slice a b c d e=>cases e<;>exact kJ.const _
def aCr{Kn:Nat->jO}{K:jO}(hc:Chain Kn)(hK:∀f args cells r,K f args cells=some r->∃n,Kn n f args cells=some r)(X:Ctx)(fn:Nat)(tm:kY)(o:Oper):RF Kn K λK=>vop X K fn tm o:=by
 obtain⟨dst,op,type,pos,after,guard⟩:=o;cases op<;>try exact RF.const _
 case call c=>
  obtain⟨callee,args,tys⟩:=c;cases callee with
  |value f=>
   simp only[vop];split
   ·exact avy hc hK X fn _ _ _
   ·exact RF.const _
  |invoke r m=>exact RF.const _
  |builtin b=>cases b<;>exact RF.const _
 case makeFunc f a b=>cases f<;>exact RF.const _
 case slice a b c d e=>cases e<;>exact RF.const _
def Up{β:Type}(E:jO->Option β):Prop:=∀K K',KLe K K'->∀r,E K=some r->E K'=some r
def Ct{β:Type}(Kn:Nat->jO)(K:jO)(E:jO->Option β):Prop:=∀r,E K=some r->∃n,E (Kn n)=some r
def Up.const{β:Type}(e:Option β):Up λ_=>e:=λ_ _ _ _ h=>h
def Ct.const{β:Type}{Kn:Nat->jO}{K:jO}(e:Option β):Ct Kn K λ_=>e:=λ_ h=>⟨0,h⟩
def Up.bind{α β:Type}{E:jO->Option α}{F:jO->α->Option β}(h:Up E)(k:∀x,Up λK=>F K x):Up λK=>(E K).bind (F K):=by intro K K' hK r hr;simp only[Option.bind_eq_some_iff] at hr|-;obtain⟨x,h1,h2⟩:=hr;exact⟨x,h K K' hK x h1,k x K K' hK r h2⟩
def Ct.bind{α β:Type}{Kn:Nat->jO}{K:jO}(hc:Chain Kn){E:jO->Option α}{F:jO->α->Option β}(hu:Up E)(ku:∀x,Up λK=>F K x)(h:Ct Kn K E)(k:∀x,Ct Kn K λK=>F K x):Ct Kn K λK=>(E K).bind (F K):=by intro r hr;simp only[Option.bind_eq_some_iff] at hr|-;obtain⟨x,h1,h2⟩:=hr;obtain⟨n1,q1⟩:=h x h1;obtain⟨n2,q2⟩:=k x r h2;exact⟨max n1 n2,x,hu _ _ (hc.le (Nat.le_max_left n1 n2)) x q1,ku x _ _ (hc.le (Nat.le_max_right n1 n2)) r q2⟩
def anf(X:Ctx)(fn:Nat)(ops:Array Oper)(i:Nat)(S:St):Up λK=>ET X K fn ops i S:=by
 intro K K' hK r hr;simp only[ET] at hr|-;cases ho:ops[i]? with
 |none=>simp[ho] at hr
 |some o=>
  simp only[ho] at hr|-;cases hw:GH ops S.tm o with
  |none=>simp[hw] at hr
  |some bt=>
   obtain⟨b,tm⟩:=bt;cases b with
   |false=>simpa[hw] using hr
   |true=>
    simp only[hw] at hr|-;cases hv:(vop X K fn tm o).run S.mem .none with
    |none=>simp[hv] at hr
    |some q=>rw[aCq X fn tm o K K' hK S.mem .none q hv];rw[hv] at hr;exact hr
def avz{Kn:Nat->jO}{K:jO}(hc:Chain Kn)(hK:∀f args cells r,K f args cells=some r->∃n,Kn n f args cells=some r)(X:Ctx)(fn:Nat)(ops:Array Oper)(i:Nat)(S:St):Ct Kn K λK=>ET X K fn ops i S:=by
 intro r hr;simp only[ET] at hr|-;cases ho:ops[i]? with
 |none=>simp[ho] at hr
 |some o=>
  simp only[ho] at hr|-;cases hw:GH ops S.tm o with
  |none=>simp[hw] at hr
  |some bt=>
   obtain⟨b,tm⟩:=bt;cases b with
   |false=>exact⟨0,by simpa[hw] using hr⟩
   |true=>
    simp only[hw] at hr|-;cases hv:(vop X K fn tm o).run S.mem .none with
    |none=>simp[hv] at hr
    |some q=>obtain⟨n,hn⟩:=aCr hc hK X fn tm o S.mem .none q hv;exact⟨n,by rw[hn];rw[hv] at hr;exact hr⟩
def aeM(X:Ctx)(fn:Nat)(ops:Array Oper)(i:Nat)(is:List Nat)(S:St)(L:List (Nat×Log))(K:jO):
  BG X K fn ops (i::is) S L=(ET X K fn ops i S).bind λr=>BG X K fn ops is r.1 ((i,r.2)::L):=by
 simp only[BG];cases ET X K fn ops i S with
 |none=>rfl
 |some r=>rfl
def NV(X:Ctx)(fn:Nat)(ops:Array Oper):∀(is:List Nat) (S:St) (L:List (Nat×Log)),Up λK=>BG X K fn ops is S L
 |[],S,L=>Up.const _
 |i::is,S,L=>by simp only[aeM];exact Up.bind (anf X fn ops i S) λr=>NV X fn ops is r.1 _
def aan{Kn:Nat->jO}{K:jO}(hc:Chain Kn)(hK:∀f args cells r,K f args cells=some r->∃n,Kn n f args cells=some r)(X:Ctx)(fn:Nat)(ops:Array Oper):∀(is:List Nat) (S:St) (L:List (Nat×Log)),Ct Kn K λK=>BG X K fn ops is S L
 |[],S,L=>Ct.const _
 |i::is,S,L=>by simp only[aeM];exact Ct.bind hc (anf X fn ops i S) (λr=>NV X fn ops is r.1 _) (avz hc hK X fn ops i S) λr=>aan hc hK X fn ops is r.1 _
def akk(X:Ctx)(tm:kY)(o1 o2 o3:Oper):kJ λK=>RJ X K tm o1 o2 o3:=by
 unfold RJ;split
 ·refine kJ.bind (kJ.const _) λ_=>kJ.bind (kJ.const _) λe=> ?_
  split
  ·refine kJ.bind (kJ.const _) λc=> ?_
   split
   ·exact kJ.bind (kJ.const _) λ_=>kJ.bind (kJ.const _) λrow=>kJ.bind (kJ.const _) λrs=>kJ.bind (kJ.const _) λ_=>kJ.bind kJ.op λout=>kJ.const _
   ·exact kJ.const _
  ·exact kJ.const _
 ·exact kJ.const _
def as8{Kn:Nat->jO}{K:jO}(hc:Chain Kn)(hK:∀f args cells r,K f args cells=some r->∃n,Kn n f args cells=some r)(X:Ctx)(tm:kY)(o1 o2 o3:Oper):RF Kn K λK=>RJ X K tm o1 o2 o3:=by
 unfold RJ;split
 ·refine RF.bind hc (kJ.const _) ?_ (RF.const _) λ_=>RF.bind hc (kJ.const _) ?_ (RF.const _) λe=> ?_
  ·intro _;refine kJ.bind (kJ.const _) λe=> ?_
   split
   ·refine kJ.bind (kJ.const _) λc=> ?_
    split
    ·exact kJ.bind (kJ.const _) λ_=>kJ.bind (kJ.const _) λrow=>kJ.bind (kJ.const _) λrs=>kJ.bind (kJ.const _) λ_=>kJ.bind kJ.op λout=>kJ.const _
    ·exact kJ.const _
   ·exact kJ.const _
  ·intro e;split
   ·refine kJ.bind (kJ.const _) λc=> ?_
    split
    ·exact kJ.bind (kJ.const _) λ_=>kJ.bind (kJ.const _) λrow=>kJ.bind (kJ.const _) λrs=>kJ.bind (kJ.const _) λ_=>kJ.bind kJ.op λout=>kJ.const _
    ·exact kJ.const _
   ·exact kJ.const _
  ·split
   ·refine RF.bind hc (kJ.const _) ?_ (RF.const _) λc=> ?_
    ·intro c;split
     ·exact kJ.bind (kJ.const _) λ_=>kJ.bind (kJ.const _) λrow=>kJ.bind (kJ.const _) λrs=>kJ.bind (kJ.const _) λ_=>kJ.bind kJ.op λout=>kJ.const _
     ·exact kJ.const _
    ·split
     ·refine RF.bind hc (kJ.const _) ?_ (RF.const _) λ_=>RF.bind hc (kJ.const _) ?_ (RF.const _) λrow=>RF.bind hc (kJ.const _) ?_ (RF.const _) λrs=>RF.bind hc (kJ.const _) ?_ (RF.const _) λ_=>RF.bind hc kJ.op (λout=>kJ.const _) (RF.op hK) λout=>RF.const _
      ·exact λ_=>kJ.bind (kJ.const _) λrow=>kJ.bind (kJ.const _) λrs=>kJ.bind (kJ.const _) λ_=>kJ.bind kJ.op λout=>kJ.const _
      ·exact λrow=>kJ.bind (kJ.const _) λrs=>kJ.bind (kJ.const _) λ_=>kJ.bind kJ.op λout=>kJ.const _
      ·exact λrs=>kJ.bind (kJ.const _) λ_=>kJ.bind kJ.op λout=>kJ.const _
      ·exact λ_=>kJ.bind kJ.op λout=>kJ.const _
     ·exact RF.const _
   ·exact RF.const _
 ·exact RF.const _
def acS(X:Ctx)(fn:Nat)(ops:Array Oper)(p:Nat)(S:St)(K:jO):J4 X K fn ops p S=
  match ops[p]?,ops[p+1]?,ops[p+2]? with
  |some o1,some o2,some o3=>((RJ X K S.tm o1 o2 o3).run S.mem .none).bind λr=>bif Nat.blt r.1.1 (J3 X.P fn) &&(Nat.blt r.1.2.1 (J3 X.P fn) && PZ (J3 X.P fn) o3.dst) then some ⟨acu o3.dst r.1.2.2.2 (put r.1.2.1 r.1.2.2.1 (put r.1.1 .undef S.tm)),r.2.1⟩ else none
  |_,_,_=>none:=by
 simp only[J4];cases ops[p]? with
 |none=>rfl
 |some o1=>cases ops[p+1]? with
  |none=>rfl
  |some o2=>cases ops[p+2]? with
   |none=>rfl
   |some o3=>
    simp only;cases(RJ X K S.tm o1 o2 o3).run S.mem .none with
    |none=>rfl
    |some r=>rfl
def acT(X:Ctx)(fn:Nat)(ops:Array Oper)(p:Nat)(S:St):Up λK=>J4 X K fn ops p S:=by
 simp only[acS];cases ops[p]? with
 |none=>exact Up.const _
 |some o1=>cases ops[p+1]? with
  |none=>exact Up.const _
  |some o2=>cases ops[p+2]? with
   |none=>exact Up.const _
   |some o3=>exact Up.bind (λK K' hK r hr=>akk X S.tm o1 o2 o3 K K' hK S.mem .none r hr) λr=>Up.const _
def apQ{Kn:Nat->jO}{K:jO}(hc:Chain Kn)(hK:∀f args cells r,K f args cells=some r->∃n,Kn n f args cells=some r)(X:Ctx)(fn:Nat)(ops:Array Oper)(p:Nat)(S:St):Ct Kn K λK=>J4 X K fn ops p S:=by
 simp only[acS];cases ops[p]? with
 |none=>exact Ct.const _
 |some o1=>cases ops[p+1]? with
  |none=>exact Ct.const _
  |some o2=>cases ops[p+2]? with
   |none=>exact Ct.const _
   |some o3=>exact Ct.bind hc (λK K' hK r hr=>akk X S.tm o1 o2 o3 K K' hK S.mem .none r hr) (λr=>Up.const _) (λr hr=>as8 hc hK X S.tm o1 o2 o3 S.mem .none r hr) λr=>Ct.const _
def Xd(X:Ctx)(fn id:Nat)(ops:Array Oper)(draw:Bool)(S:St)(K:jO):Fq X K fn id ops draw S=
  match X.PS.fuse fn id with
  |0=>BG X K fn ops (List.range ops.size) S []
  |p+1=>match draw with
   |true=>none
   |false=>(BG X K fn ops (List.range p) S []).bind λr=>(J4 X K fn ops p r.1).bind λS2=>BG X K fn ops ((List.range ops.size).drop (p+3)) S2 []:=by
 simp only[Fq];cases X.PS.fuse fn id with
 |zero=>rfl
 |succ p=>
  cases draw with
  |true=>rfl
  |false=>
   simp only;cases BG X K fn ops (List.range p) S [] with
   |none=>rfl
   |some r=>simp only[Option.bind_some];cases J4 X K fn ops p r.1<;>rfl
def adR(X:Ctx)(fn id:Nat)(ops:Array Oper)(draw:Bool)(S:St):Up λK=>Fq X K fn id ops draw S:=by
 simp only[Xd];cases X.PS.fuse fn id with
 |zero=>exact NV X fn ops _ S _
 |succ p=>
  cases draw with
  |true=>exact Up.const _
  |false=>exact Up.bind (NV X fn ops _ S _) λr=>Up.bind (acT X fn ops p r.1) λS2=>NV X fn ops _ S2 _
def alI{Kn:Nat->jO}{K:jO}(hc:Chain Kn)(hK:∀f args cells r,K f args cells=some r->∃n,Kn n f args cells=some r)(X:Ctx)(fn id:Nat)(ops:Array Oper)(draw:Bool)(S:St):Ct Kn K λK=>Fq X K fn id ops draw S:=by
 simp only[Xd];cases X.PS.fuse fn id with
 |zero=>exact aan hc hK X fn ops _ S _
 |succ p=>
  cases draw with
  |true=>exact Ct.const _
  |false=>exact Ct.bind hc (NV X fn ops _ S _) (λr=>Up.bind (acT X fn ops p r.1) λS2=>NV X fn ops _ S2 _) (aan hc hK X fn ops _ S _) λr=>Ct.bind hc (acT X fn ops p r.1) (λS2=>NV X fn ops _ S2 _) (apQ hc hK X fn ops p r.1) λS2=>aan hc hK X fn ops _ S2 _
def aeN(X:Ctx)(fn id:Nat)(ops:Array Oper)(draw:Bool)(S:St)(K:jO):
  region X K fn id ops draw S=(Fq X K fn id ops draw S).bind λr=>bif(match draw with|false=>true|true=>X.P.follows .mixedOrders &&(backOk ops && Yg ops (Region.before ops) r.2)) then prune (X.PS.keep fn id) r.1 else none:=by
 simp only[region];cases Fq X K fn id ops draw S with
 |none=>rfl
 |some r=>rfl
def akl(X:Ctx)(fn id:Nat)(ops:Array Oper)(draw:Bool)(S:St):Up λK=>region X K fn id ops draw S:=by simp only[aeN];exact Up.bind (adR X fn id ops draw S) λr=>Up.const _
def as9{Kn:Nat->jO}{K:jO}(hc:Chain Kn)(hK:∀f args cells r,K f args cells=some r->∃n,Kn n f args cells=some r)(X:Ctx)(fn id:Nat)(ops:Array Oper)(draw:Bool)(S:St):Ct Kn K λK=>region X K fn id ops draw S:=by simp only[aeN];exact Ct.bind hc (adR X fn id ops draw S) (λr=>Up.const _) (alI hc hK X fn id ops draw S) λr=>Ct.const _
def aeO{b:St->Option (Ex×St)}:∀{n k:Nat} {S:St} {r:Ex×St},iter b n S=some r->n<=k->iter b k S=some r
 |0,_,_,_,h,_=>by simp[iter] at h
 |n+1,0,_,_,_,hk=>by omega
 |n+1,k+1,S,r,h,hk=>by
  simp only[iter] at h|-;cases hb:b S with
  |none=>simp[hb] at h
  |some q=>
   obtain⟨e,S'⟩:=q;rw[hb] at h;cases e with
   |normal=>exact aeO h aB
   |exit id=>exact h
   |ret=>exact h
def Lh{α:Type}{f:Nat->Option α}{x:α}{n:Nat}(hn:f n=some x)(h:∀m y,f m=some y->y=x):lim f=some x:=by unfold lim;rw[dif_pos ⟨x,n,hn⟩];congr 1;obtain⟨m,hm⟩:=Classical.choose_spec (⟨x,n,hn⟩:∃a n,f n=some a);exact h m _ hm
def adS{b:St->Option (Ex×St)}{S:St}{r:Ex×St}{n:Nat}(h:iter b n S=some r):UH b S=some r:=by
 refine Lh h λm y hy=> ?_
 have h1:=aeO h (Nat.le_max_left n m);rw[aeO hy (Nat.le_max_right n m)] at h1;exact Option.some.inj h1
def acU{b:St->Option (Ex×St)}{S:St}{r:Ex×St}(h:UH b S=some r):∃n,iter b n S=some r:=TU h
def iter_eq{b:St->Option (Ex×St)}{n:Nat}{S:St}:iter b (n+1) S=(b S).bind λq=>match q with|(.normal,S')=>iter b n S'|(e,S')=>some (e,S'):=by
 simp only[iter];cases b S with
 |none=>rfl
 |some q=>obtain⟨e,S'⟩:=q;cases e<;>rfl
def alJ{B:jO->St->Option (Ex×St)}(h:∀S,Up λK=>B K S):∀(n:Nat) (S:St),Up λK=>iter (B K) n S
 |0,S=>Up.const _
 |n+1,S=>by
  simp only[iter_eq];refine Up.bind (h S) λq=> ?_
  obtain⟨e,S'⟩:=q;cases e with
  |normal=>exact alJ h n S'
  |exit id=>exact Up.const _
  |ret=>exact Up.const _
def arz{Kn:Nat->jO}{K:jO}(hc:Chain Kn){B:jO->St->Option (Ex×St)}(hu:∀S,Up λK=>B K S)(h:∀S,Ct Kn K λK=>B K S):∀(n:Nat) (S:St),Ct Kn K λK=>iter (B K) n S
 |0,S=>Ct.const _
 |n+1,S=>by
  simp only[iter_eq];refine Ct.bind hc (hu S) (λq=> ?_) (h S) λq=> ?_
  all_goals
   obtain⟨e,S'⟩:=q;cases e
  ·exact alJ hu n S'
  ·exact Up.const _
  ·exact Up.const _
  ·exact arz hc hu h n S'
  ·exact Ct.const _
  ·exact Ct.const _
def avA{B:jO->St->Option (Ex×St)}(h:∀S,Up λK=>B K S)(S:St):Up λK=>UH (B K) S:=by intro K K' hK r hr;obtain⟨n,hn⟩:=acU hr;exact adS (alJ h n S K K' hK r hn)
def avC{Kn:Nat->jO}{K:jO}(hc:Chain Kn){B:jO->St->Option (Ex×St)}(hu:∀S,Up λK=>B K S)(h:∀S,Ct Kn K λK=>B K S)(S:St):Ct Kn K λK=>UH (B K) S:=by intro r hr;obtain⟨n,hn⟩:=acU hr;obtain⟨k,hk⟩:=arz hc hu h n S r hn;exact⟨k,adS hk⟩
def alK(X:Ctx)(fn:Nat)(c:Code):∀S,Up λK=>den X K fn c S:=by
 induction c with
 |region id ops draw=>
  intro S K K' hK r hr;simp only[den] at hr|-;cases h:region X K fn id ops draw S with
  |none=>simp[h] at hr
  |some S'=>have he0:=akl X fn id ops draw S K K' hK S' h;dsimp only at he0;rw[he0];rw[h] at hr;exact hr
 |seq a b iha ihb=>
  intro S K K' hK r hr;simp only[den] at hr|-;cases h:den X K fn a S with
  |none=>simp[h] at hr
  |some q=>
   have he0:=iha S K K' hK q h;dsimp only at he0;rw[he0];rw[h] at hr;obtain⟨e,S'⟩:=q;cases e with
   |normal=>exact ihb S' K K' hK r hr
   |exit id=>exact hr
   |ret=>exact hr
 |cond c a b iha ihb=>
  intro S K K' hK r hr;simp only[den] at hr|-;cases h:aaR X.P S.tm c with
  |none=>simp[h] at hr
  |some q=>
   rw[h] at hr;cases q with
   |true=>exact iha S K K' hK r hr
   |false=>exact ihb S K K' hK r hr
 |block id c ih=>
  intro S K K' hK r hr;simp only[den] at hr|-;cases h:den X K fn c S with
  |none=>simp[h] at hr
  |some q=>have he0:=ih S K K' hK q h;dsimp only at he0;rw[he0];rw[h] at hr;exact hr
 |loop c ih=>intro S;exact avA ih S
 |_=>intro S;exact Up.const _
def aCs{Kn:Nat->jO}{K:jO}(hc:Chain Kn)(hK:∀f args cells r,K f args cells=some r->∃n,Kn n f args cells=some r)(X:Ctx)(fn:Nat)(c:Code):∀S,Ct Kn K λK=>den X K fn c S:=by
 induction c with
 |region id ops draw=>
  intro S r hr;simp only[den] at hr|-;cases h:region X K fn id ops draw S with
  |none=>simp[h] at hr
  |some S'=>obtain⟨n,hn⟩:=as9 hc hK X fn id ops draw S S' h;dsimp only at hn;exact⟨n,by rw[hn];rw[h] at hr;exact hr⟩
 |seq a b iha ihb=>
  intro S r hr;simp only[den] at hr|-;cases h:den X K fn a S with
  |none=>simp[h] at hr
  |some q=>
   obtain⟨n,hn⟩:=iha S q h;dsimp only at hn;rw[h] at hr;obtain⟨e,S'⟩:=q;cases e with
   |normal=>obtain⟨k,hk⟩:=ihb S' r hr;dsimp only at hk;refine⟨max n k, ?_⟩;have he0:=alK X fn a S _ _ (hc.le (Nat.le_max_left n k)) _ hn;dsimp only at he0;rw[he0];exact alK X fn b S' _ _ (hc.le (Nat.le_max_right n k)) _ hk
   |exit id=>exact⟨n,by rw[hn];exact hr⟩
   |ret=>exact⟨n,by rw[hn];exact hr⟩
 |cond c a b iha ihb=>
  intro S r hr;simp only[den] at hr|-;cases h:aaR X.P S.tm c with
  |none=>simp[h] at hr
  |some q=>
   rw[h] at hr;cases q with
   |true=>exact iha S r hr
   |false=>exact ihb S r hr
 |block id c ih=>
  intro S r hr;simp only[den] at hr|-;cases h:den X K fn c S with
  |none=>simp[h] at hr
  |some q=>obtain⟨n,hn⟩:=ih S q h;dsimp only at hn;exact⟨n,by rw[hn];rw[h] at hr;exact hr⟩
 |loop c ih=>intro S;exact avC hc (alK X fn c) ih S
 |_=>intro S;exact Ct.const _
def arA(X:Ctx)(f:Nat)(args:List V)(cells:List Cell):Up λK=>body X K f args cells:=by
 intro K K' hK r hr;simp only[body] at hr|-;cases hg:X.P.funcs[f]? with
 |none=>simp[hg] at hr
 |some g=>
  simp only[hg] at hr|-;cases hcd:g.body with
  |none=>simp[hcd] at hr
  |some c=>
   simp only[hcd] at hr|-;revert hr;generalize (!(Nat.ble cells.length oq && Nat.ble args.length g.ntmps))=q;cases q with
   |true=>exact id
   |false=>
    simp only[aX];intro hr;split at hr
    ·rename_i tm m l he;cases h:den X K f c ⟨tm,m⟩ with
     |none=>simp[h] at hr
     |some q=>have he0:=alK X f c ⟨tm,m⟩ K K' hK q h;dsimp only at he0;rw[he0];rw[h] at hr;exact hr
    ·cases hr
def azq{Kn:Nat->jO}{K:jO}(hc:Chain Kn)(hK:∀f args cells r,K f args cells=some r->∃n,Kn n f args cells=some r)(X:Ctx)(f:Nat)(args:List V)(cells:List Cell):Ct Kn K λK=>body X K f args cells:=by
 intro r hr;simp only[body] at hr|-;cases hg:X.P.funcs[f]? with
 |none=>simp[hg] at hr
 |some g=>
  simp only[hg] at hr|-;cases hcd:g.body with
  |none=>simp[hcd] at hr
  |some c=>
   simp only[hcd] at hr|-;revert hr;generalize (!(Nat.ble cells.length oq && Nat.ble args.length g.ntmps))=q;cases q with
   |true=>exact λh=>⟨0,h⟩
   |false=>
    simp only[aX];intro hr;split at hr
    ·rename_i tm m l he;cases h:den X K f c ⟨tm,m⟩ with
     |none=>simp[h] at hr
     |some q=>obtain⟨n,hn⟩:=aCs hc hK X f c ⟨tm,m⟩ q h;dsimp only at hn;exact⟨n,by rw[hn];rw[h] at hr;exact hr⟩
    ·cases hr
def UN(X:Ctx):Chain (Yi X)
 |0=>λf args cells r h=>by simp[Yi] at h
 |n+1=>λf args cells r h=>by
  simp only[Yi] at h|-;cases hp:X.adr f with
  |some p=>simpa[hp] using h
  |none=>simp only[hp] at h|-;exact arA X f args cells _ _ (UN X n) r h
def akm{X:Ctx}{n:Nat}{f:Nat}{args:List V}{cells:List Cell}{r:List Row×List Cell}(h:Yi X n f args cells=some r):call X f args cells=some r:=by
 refine Lh h λm y hy=> ?_
 have h1:=(UN X).le (Nat.le_max_left n m) f args cells r h;rw[(UN X).le (Nat.le_max_right n m) f args cells y hy] at h1;exact Option.some.inj h1
def azr{X:Ctx}{K:jO}(hK:KLe K (call X)){f:Nat}{args:List V}{cells:List Cell}{r:List Row×List Cell}(hp:X.adr f=none)(h:body X K f args cells=some r):call X f args cells=some r:=by have h1:=arA X f args cells K (call X) hK r h;obtain⟨n,hn⟩:=azq (UN X) (λf a c r hr=>TU hr) X f args cells r h1;dsimp only at hn;refine akm (n:=n+1) ?_;simp only[Yi,hp];exact hn
def alL{X:Ctx}{f:Nat}{p:List V->List Cell->Option (List Row×List Cell)}{args:List V}{cells:List Cell}{r:List Row×List Cell}(hp:X.adr f=some p)(h:p args cells=some r):call X f args cells=some r:=
 akm (n:=1) (by simp only[Yi,hp];exact h)
end Go.Vm
namespace Go.Vm
open Go
open Go.IntKind (i64)
abbrev Loops:=Nat->St->Option (Ex×St)
def lid:Code->Nat
 | .region id _ _=>id
 | .seq a b=>match lid a with
  |0=>lid b
  |n=>n
 | .block _ c=>lid c
 | .loop c=>lid c
 | .cond _ a b=>match lid a with
  |0=>lid b
  |n=>n
 |_=>0
def loops:Code->List Code
 | .seq a b=>loops a++loops b
 | .cond _ a b=>loops a++loops b
 | .block _ c=>loops c
 | .loop c=>[c]
 |_=>[]
def Lj(X:Ctx)(K:jO)(L:Loops)(fn:Nat):Code->St->Option (Ex×St)
 | .skip,S=>some (.normal,S)
 | .region id ops draw,S=>match region X K fn id ops draw S with
  |some S'=>some (.normal,S')
  |none=>none
 | .seq a b,S=>match Lj X K L fn a S with
  |some (.normal,S')=>Lj X K L fn b S'
  |r=>r
 | .cond c a b,S=>match aaR X.P S.tm c with
  |some true=>Lj X K L fn a S
  |some false=>Lj X K L fn b S
  |none=>none
 | .block id c,S=>match Lj X K L fn c S with
  |some (.exit j,S')=>bif Nat.beq j id then some (.normal,S') else some (.exit j,S')
  |r=>r
 | .loop c,S=>L (lid c) S
 | .exit id,S=>some (.exit id,S)
 | .ret,S=>some (.ret,S)
 |_,_=>none
def codeOf(P:Program)(f:Nat):Code:=match P.funcs[f]? with
 |some g=>match g.body with
  |some c=>c
  |none=> .skip
 |none=> .skip
def afW(X:Ctx)(K:jO)(L:Loops)(f:Nat)(args:List V)(cells:List Cell):Option (List Row×List Cell):=
 match X.P.funcs[f]? with
 |some g=>match g.body with
  |some c=>bif !(Nat.ble cells.length oq && Nat.ble args.length g.ntmps) then none else match(entry X f g args cells).run (uJ 0 cells) .none with
   |some (tm,m,_)=>(match Lj X K L f c ⟨tm,m⟩ with
    |some (.normal,S)=>leave X g cells.length S
    |some (.ret,S)=>leave X g cells.length S
    |_=>none)
   |none=>none
  |none=>none
 |none=>none
def LOk(X:Ctx)(K:jO)(fn:Nat)(L:Loops)(cs:List Code):Prop:=∀c,c∈cs->∀S r,L (lid c) S=some r->UH (den X K fn c) S=some r
def LOk.nil{X:Ctx}{K:jO}{fn:Nat}{L:Loops}:LOk X K fn L []:=λ_ h=>by simp at h
def LOk.cons{X:Ctx}{K:jO}{fn:Nat}{L:Loops}{c:Code}{cs:List Code}(h:∀S r,L (lid c) S=some r->UH (den X K fn c) S=some r)(k:LOk X K fn L cs):LOk X K fn L (c::cs):=by
 intro d hd;rcases List.mem_cons.1 hd with rfl|hd
 ·exact h
 ·exact k d hd
def avD{X:Ctx}{K:jO}{L:Loops}{fn:Nat}:∀{c:Code} {S:St} {r:Ex×St},LOk X K fn L (loops c)->Lj X K L fn c S=some r->den X K fn c S=some r:=by
 intro c;induction c with
 |seq a b iha ihb=>
  intro S r hL h;have hLa:LOk X K fn L (loops a):=λd hd=>hL d (by simp[loops,hd])
  have hLb:LOk X K fn L (loops b):=λd hd=>hL d (by simp[loops,hd])
  simp only[Lj] at h;simp only[den];cases ha:Lj X K L fn a S with
  |none=>simp[ha] at h
  |some q=>
   rw[iha hLa ha];rw[ha] at h;obtain⟨e,S'⟩:=q;cases e with
   |normal=>exact ihb hLb h
   |exit id=>exact h
   |ret=>exact h
 |cond c a b iha ihb=>
  intro S r hL h;have hLa:LOk X K fn L (loops a):=λd hd=>hL d (by simp[loops,hd])
  have hLb:LOk X K fn L (loops b):=λd hd=>hL d (by simp[loops,hd])
  simp only[Lj] at h;simp only[den];cases hc:aaR X.P S.tm c with
  |none=>simp[hc] at h
  |some q=>
   rw[hc] at h;cases q with
   |true=>exact iha hLa h
   |false=>exact ihb hLb h
 |block id c ih=>
  intro S r hL h;simp only[Lj] at h;simp only[den];cases ha:Lj X K L fn c S with
  |none=>simp[ha] at h
  |some q=>rw[ih hL ha];rw[ha] at h;exact h
 |loop c ih=>intro S r hL h;exact hL c (by simp[loops]) S r h
 |region id ops draw=>intro S r hL h;exact h
 |skip=>intro S r hL h;exact h
 |exit id=>intro S r hL h;exact h
 |ret=>intro S r hL h;exact h
 |_=>intro S r hL h;simp[Lj] at h
def arB(X:Ctx)(L:Loops)(fn:Nat)(c:Code):∀S,Up λK=>Lj X K L fn c S:=by
 induction c with
 |region id ops draw=>
  intro S K K' hK r hr;simp only[Lj] at hr|-;cases h:region X K fn id ops draw S with
  |none=>simp[h] at hr
  |some S'=>have he0:=akl X fn id ops draw S K K' hK S' h;dsimp only at he0;rw[he0];rw[h] at hr;exact hr
 |seq a b iha ihb=>
  intro S K K' hK r hr;simp only[Lj] at hr|-;cases h:Lj X K L fn a S with
  |none=>simp[h] at hr
  |some q=>
   have he0:=iha S K K' hK q h;dsimp only at he0;rw[he0];rw[h] at hr;obtain⟨e,S'⟩:=q;cases e with
   |normal=>exact ihb S' K K' hK r hr
   |exit id=>exact hr
   |ret=>exact hr
 |cond c a b iha ihb=>
  intro S K K' hK r hr;simp only[Lj] at hr|-;cases h:aaR X.P S.tm c with
  |none=>simp[h] at hr
  |some q=>
   rw[h] at hr;cases q with
   |true=>exact iha S K K' hK r hr
   |false=>exact ihb S K K' hK r hr
 |block id c ih=>
  intro S K K' hK r hr;simp only[Lj] at hr|-;cases h:Lj X K L fn c S with
  |none=>simp[h] at hr
  |some q=>have he0:=ih S K K' hK q h;dsimp only at he0;rw[he0];rw[h] at hr;exact hr
 |_=>intro S;exact Up.const _
def avE(X:Ctx)(L:Loops)(f:Nat)(args:List V)(cells:List Cell):Up λK=>afW X K L f args cells:=by
 intro K K' hK r hr;simp only[afW] at hr|-;cases hg:X.P.funcs[f]? with
 |none=>simp[hg] at hr
 |some g=>
  simp only[hg] at hr|-;cases hcd:g.body with
  |none=>simp[hcd] at hr
  |some c=>
   simp only[hcd] at hr|-;revert hr;generalize (!(Nat.ble cells.length oq && Nat.ble args.length g.ntmps))=q;cases q with
   |true=>exact id
   |false=>
    simp only[aX];intro hr;split at hr
    ·rename_i tm m l he;cases h:Lj X K L f c ⟨tm,m⟩ with
     |none=>simp[h] at hr
     |some q=>have he0:=arB X L f c ⟨tm,m⟩ K K' hK q h;dsimp only at he0;rw[he0];rw[h] at hr;exact hr
    ·cases hr
def azs{X:Ctx}{K:jO}{L:Loops}{f:Nat}{args:List V}{cells:List Cell}{r:List Row×List Cell}(hL:LOk X K f L (loops (codeOf X.P f)))(h:afW X K L f args cells=some r):body X K f args cells=some r:=by
 simp only[afW] at h;simp only[body];cases hg:X.P.funcs[f]? with
 |none=>simp[hg] at h
 |some g=>
  simp only[hg] at h|-;cases hcd:g.body with
  |none=>simp[hcd] at h
  |some c=>
   simp only[hcd] at h|-;have hcode:codeOf X.P f=c:=by simp[codeOf,hg,hcd]
   rw[hcode] at hL;revert h;generalize (!(Nat.ble cells.length oq && Nat.ble args.length g.ntmps))=q;cases q with
   |true=>exact id
   |false=>
    simp only[aX];intro h;split at h
    ·rename_i tm m l he;simp only[he];cases hd:Lj X K L f c ⟨tm,m⟩ with
     |none=>simp[hd] at h
     |some q=>rw[avD hL hd];rw[hd] at h;exact h
    ·cases h
def avF{X:Ctx}{K:jO}{L:Loops}{f:Nat}{args:List V}{cells:List Cell}{r:List Row×List Cell}(hp:X.adr f=none)(hK:KLe K (call X))(hL:LOk X (call X) f L (loops (codeOf X.P f)))
  (h:afW X K L f args cells=some r):call X f args cells=some r:=by
 exact azr (KLe.refl _) hp (azs hL (avE X L f args cells K (call X) hK r h))
def azt{X:Ctx}{K:jO}{L:Loops}{fn:Nat}{c:Code}{S:St}{r:Ex×St}(hK:KLe K (call X))(hL:LOk X (call X) fn L (loops c))(h:Lj X K L fn c S=some r):den X (call X) fn c S=some r:=
 avD hL (arB X L fn c S K (call X) hK r h)
end Go.Vm
namespace Go.Vm
open Go
open Go.IntKind (i64)
structure Res(α:Type) where
 β:Type
 o:Option β
 enc:β->α
def Res.val{α:Type}(r:Res α):Option α:=r.o.map r.enc
abbrev PW:=Nat->List V->List Cell->Res (List Row×List Cell)
inductive Alt(α:Type):Type 1 where
 |leaf (β:Type) (enc:β->α)
 |sum (a b:Alt α)
def Alt.T{α:Type}:Alt α->Type
 | .leaf β _=>β
 | .sum a b=>a.T⊕b.T
def Alt.enc{α:Type}:(a:Alt α)->a.T->α
 | .leaf _ enc,x=>enc x
 | .sum a _,.inl x=>a.enc x
 | .sum _ b,.inr x=>b.enc x
structure acV(α:Type) where
 alt:Alt α
 o:Option alt.T
def acV.val{α:Type}(r:acV α):Option α:=r.o.map r.alt.enc
def acV.none{α:Type}:acV α:=⟨.leaf Empty Empty.elim,.none⟩
abbrev UO:=Nat->St->acV (Ex×St)
def PW.to(K:PW):jO:=λf a c=>(K f a c).val
def UO.to(L:UO):Loops:=λn S=>(L n S).val
def Res.none{α:Type}:Res α:=⟨Empty,.none,Empty.elim⟩
section
variable {R:Type}
def iO{α β γ:Type}(r:α⊕β)(f:α->Option γ)(g:β->Option γ):Option γ:=match r with
 | .inl x=>f x
 | .inr y=>g y
def Alt.go{α:Type}:(a:Alt α)->a.T->(α->Option R)->Option R
 | .leaf _ enc=>λx k=>k (enc x)
 | .sum a b=>λx k=>iO x (λx=>a.go x k) (λy=>b.go y k)
def Alt.go_eq{α:Type}(k:α->Option R):∀(a:Alt α) (x:a.T),a.go x k=k (a.enc x)
 | .leaf _ enc,x=>rfl
 | .sum a _,.inl x=>Alt.go_eq k a x
 | .sum _ b,.inr x=>Alt.go_eq k b x
def acV.ahO{α:Type}{r:acV α}{x:α}(h:r.val=some x):∃y,r.o=some y/\r.alt.enc y=x:=by simpa[acV.val,Option.map_eq_some_iff] using h
def Res.ahO{α:Type}{r:Res α}{x:α}(h:r.val=some x):∃y,r.o=some y/\r.enc y=x:=by simpa[Res.val,Option.map_eq_some_iff] using h
def Acc.alM{α:Type}:Acc α->Mem->Log->(α->Mem->Log->Option R)->Option R
 | .ret a,m,l,k=>k a m l
 | .fail,_,_,_=>none
 | .get i c,m,l,k=>(c (Vm.get i m)).alM m (l.rd i) k
 | .set i x c,m,l,k=>c.alM (put i x m) (l.wr i) k
 | .opt o c,m,l,k=>match o with|some b=>(c b).alM m l k|none=>none
 | .guard b c,m,l,k=>match b with|true=>c.alM m l k|false=>none
def apR(X:Ctx)(K:PW)(fn dst f:Nat)(args:List V):Acc V:=do
 let g<-op' X.P.funcs[f]?
 ck (g.body.isSome && !(g.name == "runtime.NumGoroutine"))
 let imp:=SK X.PS f 0 [] args
 let args<-VH X.PS f 0 args
 let cells<-Yd X.PS imp imp
 let(args,Q8)<-VJ X.PS imp f 0 args
 ck (Q8.all λr=> !(mem? r imp))
 let b<-op' (K f args cells).o
 let out:=(K f args cells).enc b
 ck (Nat.beq out.1.length g.resultTypes.size)
 let need:= !(Q8.isEmpty) &&(aaf X.P (X.PS.att fn dst) 0 g.resultTypes.toList && imp.isEmpty)
 ck (bif need then out.1.all yU else true)
 freeze (bif need then[] else Q8)
 afr X dst out.2 0 imp
 let vs<-acA X (X.PS.att fn dst) dst out.1 0 g.resultTypes.toList
 match vs with
 |[v]=>pure v
 |vs=>pure (.SI vs)
def aCt(X:Ctx)(K:PW)(fn:Nat)(tm:kY)(o:Oper):Acc V:=
 match o.op with
 | .call {callee:=.value f,args,argTypes}=>match ev X.P tm 0 f with
  | .clo g first caps=>apR X K fn (o.dst.getD 0) g (first++yx X.P tm args.toList argTypes.toList++caps)
  |_=> .fail
 |_=>vop X (λ_ _ _=>none) fn tm o
def avG(x:D)(k:D->Option R):Option R:=match x with
 | .int j n=>k (.int j n)
 | .bool b=>k (.bool b)
 | .str s=>k (.str s)
 | .TF=>k .TF
 | .sl o s rows=>match o with
  |true=>k (.sl true s rows)
  |false=>k (.sl false s rows)
mutual
def Jp(v:V)(k:V->Option R):Option R:=match v with
 | .d x=>avG x λx=>k (.d x)
 | .nil s=>k (.nil s)
 | .own r v=>k (.own r v)
 | .ptr r o=>k (.ptr r o)
 | .zF r v i o=>k (.zF r v i o)
 | .wW row o=>k (.wW row o)
 | .EW v=>Jp v λv=>k (.EW v)
 | .clo f a b=>SV a λa=>SV b λb=>k (.clo f a b)
 | .agg cs=>SV cs λcs=>k (.agg cs)
 | .SI cs=>SV cs λcs=>k (.SI cs)
 | .undef=>k .undef
def SV(vs:List V)(k:List V->Option R):Option R:=match vs with
 |[]=>k []
 |v::vs=>Jp v λv=>SV vs λvs=>k (v::vs)
end
def aao(tm:kY)(k:kY->Option R):Option R:=match tm with
 |[]=>k []
 |(t,v)::tm=>Jp v λv=>aao tm λtm=>k ((t,v)::tm)
def aap(c:Cell)(k:Cell->Option R):Option R:=match c with
 | .box t cs=>SV cs λcs=>k (.box t cs)
 | .arr fz fl ver s rows=>k (.arr fz fl ver s rows)
 | .dead=>k .dead
 | .JX ver s rows=>k (.JX ver s rows)
 | .rF t v=>Jp v λv=>k (.rF t v)
def TV(m:Mem)(k:Mem->Option R):Option R:=match m with
 |[]=>k []
 |(r,c)::m=>aap c λc=>TV m λm=>k ((r,c)::m)
def ata(L:List (Nat×Nat))(r:Nat)(k:Nat->Option R):Option R:=match get r L with
 |some j=>k j
 |none=>k r
mutual
def Sl(L:List (Nat×Nat))(v:V)(k:V->Option R):Option R:=match v with
 | .d x=>k (.d x)
 | .nil s=>k (.nil s)
 | .own r v=>ata L r λr=>k (.own r v)
 | .ptr r o=>ata L r λr=>k (.ptr r o)
 | .zF r v i o=>ata L r λr=>k (.zF r v i o)
 | .wW row o=>k (.wW row o)
 | .EW v=>Sl L v λv=>k (.EW v)
 | .clo f a b=>Xe L a λa=>Xe L b λb=>k (.clo f a b)
 | .agg cs=>Xe L cs λcs=>k (.agg cs)
 | .SI vs=>Xe L vs λvs=>k (.SI vs)
 | .undef=>k .undef
def Xe(L:List (Nat×Nat))(vs:List V)(k:List V->Option R):Option R:=match vs with
 |[]=>k []
 |v::vs=>Sl L v λv=>Xe L vs λvs=>k (v::vs)
end
def alN(L:List (Nat×Nat))(tm:kY)(k:kY->Option R):Option R:=match tm with
 |[]=>k []
 |(t,v)::tm=>Sl L v λv=>alN L tm λtm=>k ((t,v)::tm)
def arC(L:List (Nat×Nat))(c:Cell)(k:Cell->Option R):Option R:=match c with
 | .box t cs=>Xe L cs λcs=>k (.box t cs)
 | .arr fz fl ver s rows=>k (.arr fz fl ver s rows)
 | .dead=>k .dead
 | .JX ver s rows=>k (.JX ver s rows)
 | .rF t v=>Sl L v λv=>k (.rF t v)
def agW(L:List (Nat×Nat))(m:Mem)(k:Mem->Option R):Option R:=match m with
 |[]=>k []
 |(r,c)::m=>ata L r λr=>arC L c λc=>agW L m λm=>TV (put r c m) k
def alO(l:List Nat)(k:List Nat->Option R):Option R:=match l with
 |[]=>k []
 |x::l=>alO l λl=>k (x::l)
def agX(l:List (Nat×Nat))(k:List (Nat×Nat)->Option R):Option R:=match l with
 |[]=>k []
 |(x,y)::l=>agX l λl=>k ((x,y)::l)
def alP(S:St)(k:St->Option R):Option R:=alO (ay5 S.tm S.mem) λo=>match o with
 |[]=>k S
 |a::o=>agX (ay6 names (a::o)) λL=>match ady L (S.mem.map (·.1)) with
  |true=>alN L S.tm λtm=>agW L S.mem λm=>k ⟨tm,m⟩
  |false=>k S
def alQ(ops:Array Oper)(tm:kY)(o:Oper)(k:Bool->kY->Option R):Option R:=
 match o.guard with
 |none=>k true tm
 |some (j,want)=>match ops[j]? with
  |some oj=>match oj.dst with
   |some d=>match WO d tm with
    | .d (.bool b)=>match b with
     |true=>k want (put d (.d (.bool true)) tm)
     |false=>k (!want) (put d (.d (.bool false)) tm)
    | .SI vs=>match vs with
     |[]=>k false (put d (.SI []) tm)
     |_::_=>none
    |_=>none
   |none=>none
  |none=>none
def apS(X:Ctx)(K:PW)(fn:Nat)(ops:Array Oper)(i:Nat)(S:St)(k:St->Log->Option R):Option R:=
 match ops[i]? with
 |none=>none
 |some o=>alQ ops S.tm o λb tm=>match b with
  |false=>k ⟨afs (J3 X.P fn) o.dst tm,S.mem⟩ .none
  |true=>(aCt X K fn tm o).alM S.mem .none λv m l=>bif PZ (J3 X.P fn) o.dst then Jp v λv=>k ⟨acu o.dst v tm,m⟩ l else none
def aaq(X:Ctx)(K:PW)(fn:Nat)(ops:Array Oper):List Nat->St->List (Nat×Log)->(St->List (Nat×Log)->Option R)->Option R
 |[],S,L,k=>k S L
 |i::is,S,L,k=>apS X K fn ops i S λS' l=>aaq X K fn ops is S' ((i,l)::L) k
def aBk(X:Ctx)(ops:Array Oper)(L:List (Nat×Log)):Bool->Bool
 |false=>true
 |true=>X.P.follows .mixedOrders &&(backOk ops && Yg ops (Region.before ops) L)
def alR(X:Ctx)(K:PW)(tm:kY)(o1 o2 o3:Oper):Acc (Nat×Nat×V×V):=
 match o1,o2,o3 with
 |⟨some d1,.load t (.tmp ta),_,_,_,none⟩,⟨some d2,.move x,ty2,_,_,none⟩,⟨_,.call ⟨.value (.func f),args,_⟩,_,_,_,none⟩=>do
  ck (!(Nat.beq d1 d2) &&(ari args d1 d2 &&(aB9 d1 x &&(okT X.P t &&(Nat.beq (nN X.P t) 1 &&(!(Qb X.P t) && au6 X f))))))
  let e<-op' (elT X.P t)
  match WO ta tm,ev X.P tm ty2 x with
  | .zF r ver i off,.d (.int k n)=>do
   match<-rd r with
   |some (.arr false false jl s rows)=>do
    ck (Nat.beq ver jl && Nat.ble (off+1) s)
    let row<-op' rows[i]?
    let rs<-op' (aeA (nN X.P e) row off)
    ck (aaP (wJ X.P e) rs)
    let b<-op' (K f [.own oq 0,.d (.int k n)] [.arr false (wJ X.P e) 0 (nN X.P e) rs]).o
    let out:=(K f [.own oq 0,.d (.int k n)] [.arr false (wJ X.P e) 0 (nN X.P e) rs]).enc b
    let q<-op' (adz out)
    ck (ahf (nN X.P e) (wJ X.P e) q)
    wr r (.arr false false jl s (rows.set i (splice row off [.sl true (nN X.P e) q.2.2.2.2])))
    pure (d1,d2,.d (.int k n),.d (.int q.1 q.2.1))
   |_=> .fail
  |_,_=> .fail
 |_,_,_=> .fail
def ahP(X:Ctx)(K:PW)(fn:Nat)(ops:Array Oper)(p:Nat)(S:St)(k:St->Option R):Option R:=
 match ops[p]?,ops[p+1]?,ops[p+2]? with
 |some o1,some o2,some o3=>(alR X K S.tm o1 o2 o3).alM S.mem .none λr m _=>bif Nat.blt r.1 (J3 X.P fn) &&(Nat.blt r.2.1 (J3 X.P fn) && PZ (J3 X.P fn) o3.dst) then k ⟨acu o3.dst r.2.2.2 (put r.2.1 r.2.2.1 (put r.1 .undef S.tm)),m⟩ else none
 |_,_,_=>none
def acW(X:Ctx)(K:PW)(fn id:Nat)(ops:Array Oper)(draw:Bool)(S:St)(k:St->List (Nat×Log)->Option R):Option R:=
 match X.PS.fuse fn id with
 |0=>aaq X K fn ops (List.range ops.size) S [] k
 |p+1=>match draw with
  |true=>none
  |false=>aaq X K fn ops (List.range p) S [] λS1 _=>ahP X K fn ops p S1 λS2=>aaq X K fn ops ((List.range ops.size).drop (p+3)) S2 [] k
def alS(X:Ctx)(K:PW)(fn id:Nat)(ops:Array Oper)(draw:Bool)(S:St)(k:St->Option R):Option R:=
 acW X K fn id ops draw S λS' L=>
  bif aBk X ops L draw then(match acD (X.PS.keep fn id) S' with
   |some S''=>aao S''.tm λtm=>TV S''.mem λm=>alP ⟨tm,m⟩ k
   |none=>none) else none
def rep(k:Nat)(x:V):kY->kY
 |[]=>[]
 |(j,y)::l=>match Nat.beq k j with
  |true=>(j,x)::l
  |false=>(j,y)::rep k x l
def azu(c:Operand)(b:Bool)(S:St):St:=match c with
 | .tmp i=>⟨rep i (.d (.bool b)) S.tm,S.mem⟩
 |_=>S
def arD{k:Nat}{x:V}:∀{l:kY},get k l=some x->rep k x l=l
 |[],h=>rfl
 |(j,y)::l,h=>by
  simp only[get] at h;rw[rep];cases hb:Nat.beq k j with
  |true=>rw[hb] at h;simp only[aI,iF] at h;rw[h]
  |false=>rw[hb] at h;simp only;rw[arD h]
def arE{P:Program}{c:Operand}{b:Bool}{S:St}(h:ev P S.tm 0 c=.d (.bool b)):azu c b S=S:=by
 cases c with
 |tmp i=>
  simp only[ev,WO] at h;cases hg:get i S.tm with
  |none=>rw[hg] at h;cases h
  |some v=>rw[hg] at h;simp only at h;subst h;rw[azu,arD hg]
 |_=>rfl
def acX(X:Ctx)(K:PW)(L:UO)(fn:Nat):Code->St->(Ex->St->Option R)->Option R
 | .skip,S,k=>k .normal S
 | .region id ops draw,S,k=>alS X K fn id ops draw S λS'=>k .normal S'
 | .seq a b,S,k=>acX X K L fn a S λe S'=>match e with
  | .normal=>acX X K L fn b S' k
  |e=>k e S'
 | .cond c a b,S,k=>match ev X.P S.tm 0 c with
  | .d (.bool t)=>(match t with
   |true=>acX X K L fn a (azu c true S) k
   |false=>acX X K L fn b (azu c false S) k)
  |_=>none
 | .block id c,S,k=>acX X K L fn c S λe S'=>match e with
  | .exit j=>bif Nat.beq j id then k .normal S' else k (.exit j) S'
  |e=>k e S'
 | .loop c,S,k=>match(L (lid c) S).o with
  |some b=>(L (lid c) S).alt.go b λr=>k r.1 r.2
  |none=>none
 | .exit id,S,k=>k (.exit id) S
 | .ret,S,k=>k .ret S
 |_,_,_=>none
def alT(X:Ctx)(g:Func)(n:Nat)(S:St)(k:List Row->List Cell->Option R):Option R:=
 (do
  let rows<-aag X.P S.tm g.results.toList g.resultTypes.toList
  let cells<-Yd X.PS (yV n) (yV n)
  pure (rows,cells):Acc (List Row×List Cell)).alM S.mem .none λr _ _=>k r.1 r.2
def bodyC(X:Ctx)(K:PW)(L:UO)(f:Nat)(args:List V)(cells:List Cell)(k:List Row->List Cell->Option R):Option R:=
 match X.P.funcs[f]? with
 |some g=>match g.body with
  |some c=>bif !(Nat.ble cells.length oq && Nat.ble args.length g.ntmps) then none else(entry X f g args cells).alM (uJ 0 cells) .none λtm m _=>
   aao tm λtm=>TV m λm=>acX X K L f c ⟨tm,m⟩ λe S=>match e with
    | .normal=>alT X g cells.length S k
    | .ret=>alT X g cells.length S k
    | .exit _=>none
  |none=>none
 |none=>none
def agY{α:Type}(A:Acc α):∀(m:Mem) (l:Log) (k:α->Mem->Log->Option R),A.alM m l k=(A.run m l).bind λr=>k r.1 r.2.1 r.2.2:=by
 induction A with
 |ret a=>intro m l k;rfl
 |fail=>intro m l k;rfl
 |get i c ih=>intro m l k;exact ih _ _ _ _
 |set i x c ih=>intro m l k;exact ih _ _ _
 |opt o c ih=>intro m l k;cases o with
  |none=>rfl
  |some b=>exact ih b _ _ _
 |guard b c ih=>intro m l k;cases b with
  |false=>rfl
  |true=>exact ih _ _ _
def atb(x:D)(k:D->Option R):avG x k=k x:=by
 cases x with
 |sl o s rows=>cases o<;>rfl
 |_=>rfl
mutual
def V4:∀(v:V) (k:V->Option R),Jp v k=k v
 | .d x,k=>by simp only[Jp,atb]
 | .nil s,k=>by simp only[Jp]
 | .own r v,k=>by simp only[Jp]
 | .ptr r o,k=>by simp only[Jp]
 | .zF r v i o,k=>by simp only[Jp]
 | .wW row o,k=>by simp only[Jp]
 | .EW v,k=>by simp only[Jp];rw[V4 v]
 | .clo f a b,k=>by simp only[Jp];rw[Qi a,Qi b]
 | .agg cs,k=>by simp only[Jp];rw[Qi cs]
 | .SI cs,k=>by simp only[Jp];rw[Qi cs]
 | .undef,k=>by simp only[Jp]
def Qi:∀(vs:List V) (k:List V->Option R),SV vs k=k vs
 |[],k=>by simp only[SV]
 |v::vs,k=>by simp only[SV];rw[V4 v,Qi vs]
end
def acY:∀(tm:kY) (k:kY->Option R),aao tm k=k tm
 |[],k=>rfl
 |(t,v)::tm,k=>by simp only[aao];rw[V4 v,acY tm]
def alU(c:Cell)(k:Cell->Option R):aap c k=k c:=by
 cases c with
 |box t cs=>simp only[aap,Qi]
 |rF t v=>simp only[aap,V4]
 |_=>rfl
def UQ:∀(m:Mem) (k:Mem->Option R),TV m k=k m
 |[],k=>rfl
 |(t,v)::m,k=>by simp only[TV];rw[alU v,UQ m]
def agZ(L:List (Nat×Nat))(r:Nat)(k:Nat->Option R):ata L r k=k (ren L r):=by unfold ata ren;cases get r L<;>rfl
mutual
def adT(L:List (Nat×Nat)):∀(v:V) (k:V->Option R),Sl L v k=k (RH L v)
 | .d x,k=>by simp only[Sl,RH]
 | .nil s,k=>by simp only[Sl,RH]
 | .own r v,k=>by simp only[Sl,RH,agZ]
 | .ptr r o,k=>by simp only[Sl,RH,agZ]
 | .zF r v i o,k=>by simp only[Sl,RH,agZ]
 | .wW row o,k=>by simp only[Sl,RH]
 | .EW v,k=>by simp only[Sl,RH];rw[adT L v]
 | .clo f a b,k=>by simp only[Sl,RH];rw[TB L a,TB L b]
 | .agg cs,k=>by simp only[Sl,RH];rw[TB L cs]
 | .SI vs,k=>by simp only[Sl,RH];rw[TB L vs]
 | .undef,k=>by simp only[Sl,RH]
def TB(L:List (Nat×Nat)):∀(vs:List V) (k:List V->Option R),Xe L vs k=k (Yf L vs)
 |[],k=>by simp only[Xe,Yf]
 |v::vs,k=>by simp only[Xe,Yf];rw[adT L v,TB L vs]
end
def akn(L:List (Nat×Nat)):∀(tm:kY) (k:kY->Option R),alN L tm k=k (ahe L tm)
 |[],k=>rfl
 |(t,v)::tm,k=>by simp only[alN,ahe];rw[adT L v,akn L tm]
def avH(L:List (Nat×Nat))(c:Cell)(k:Cell->Option R):arC L c k=k (ahd L c):=by
 cases c with
 |box t cs=>simp only[arC,ahd,TB]
 |rF t v=>simp only[arC,ahd,adT]
 |_=>rfl
def ahQ(L:List (Nat×Nat)):∀(m:Mem) (k:Mem->Option R),agW L m k=k (TG L m)
 |[],k=>rfl
 |(r,c)::m,k=>by simp only[agW,TG,agZ,avH];rw[ahQ L m,UQ]
def ako:∀(l:List Nat) (k:List Nat->Option R),alO l k=k l
 |[],k=>rfl
 |x::l,k=>by simp only[alO];rw[ako l]
def ahR:∀(l:List (Nat×Nat)) (k:List (Nat×Nat)->Option R),agX l k=k l
 |[],k=>rfl
 |(x,y)::l,k=>by simp only[agX];rw[ahR l]
def atc(S:St)(k:St->Option R):alP S k=k (canon S):=by
 unfold alP canon;rw[ako];cases ay5 S.tm S.mem with
 |nil=>rfl
 |cons a o=>
  simp only[ahR,alv];cases ady (ay6 names (a::o)) (S.mem.map (·.1)) with
  |true=>simp only[akn,ahQ]
  |false=>rfl
def LP{α:Type}(a b:Acc α):Prop:=∀m l,a.run m l=b.run m l
def LP.refl{α:Type}(a:Acc α):LP a a:=λ_ _=>rfl
def LP.bind{α β:Type}{a:Acc α}{f g:α->Acc β}(h:∀x,LP (f x) (g x)):LP (a>>=f) (a>>=g):=by
 intro m l;rw[run_bind,run_bind];cases a.run m l with
 |none=>rfl
 |some r=>obtain⟨x,m,l⟩:=r;exact h x m l
def LP.enc{α β γ:Type}{o:Option β}{enc:β->α}{f:α->Acc γ}:LP (op' o>>=λb=>f (enc b)) (op' (o.map enc)>>=f):=by intro m l;rw[run_bind,run_bind];cases o<;>rfl
def apT{X:Ctx}{K:PW}{fn dst f:Nat}{args:List V}{m:Mem}{l:Log}:(apR X K fn dst f args).run m l=(adw X K.to fn dst f args).run m l:=by
 revert m l;show LP _ _;unfold apR adw;refine LP.bind λg=>LP.bind λ_=>LP.bind λargs=>LP.bind λcells=>LP.bind fun⟨args,Q8⟩=>LP.bind λ_=> ?_
 exact LP.enc (o:=(K f args cells).o) (enc:=(K f args cells).enc) (f:=λout=>do
  ck (Nat.beq out.1.length g.resultTypes.size)
  ck (bif(!(Q8.isEmpty) &&(aaf X.P (X.PS.att fn dst) 0 g.resultTypes.toList &&(SK X.PS _ 0 [] _).isEmpty)) then out.1.all yU else true)
  freeze (bif(!(Q8.isEmpty) &&(aaf X.P (X.PS.att fn dst) 0 g.resultTypes.toList &&(SK X.PS _ 0 [] _).isEmpty)) then[] else Q8)
  afr X dst out.2 0 (SK X.PS _ 0 [] _)
  let vs<-acA X (X.PS.att fn dst) dst out.1 0 g.resultTypes.toList
  match vs with
  |[v]=>pure v
  |vs=>pure (.SI vs))
def avI{X:Ctx}{K:PW}{fn:Nat}{tm:kY}{o:Oper}{m:Mem}{l:Log}:(aCt X K fn tm o).run m l=(vop X K.to fn tm o).run m l:=by
 obtain⟨dst,op,type,pos,after,guard⟩:=o;cases op<;>try rfl
 case call c=>
  obtain⟨callee,args,tys⟩:=c;cases callee with
  |value f=>
   simp only[aCt,vop];cases ev X.P tm 0 f with
   |clo g a b=>exact apT
   |_=>rfl
  |invoke r m=>rfl
  |builtin b=>cases b<;>rfl
 case makeFunc f a b=>cases f<;>rfl
 case slice a b c d e=>cases e<;>rfl
def apU(ops:Array Oper)(tm:kY)(o:Oper)(k:Bool->kY->Option R):alQ ops tm o k=(GH ops tm o).bind λr=>k r.1 r.2:=by
 unfold alQ GH;cases o.guard with
 |none=>rfl
 |some jw=>
  obtain⟨j,want⟩:=jw;simp only;cases ops[j]? with
  |none=>rfl
  |some oj=>
   simp only;cases oj.dst with
   |none=>rfl
   |some d=>
    simp only;cases WO d tm with
    |d x=>cases x with
     |bool b=>cases b<;>rfl
     |_=>rfl
    |SI vs=>cases vs<;>rfl
    |_=>rfl
def atd(X:Ctx)(K:PW)(fn:Nat)(ops:Array Oper)(i:Nat)(S:St)(k:St->Log->Option R):apS X K fn ops i S k=(ET X K.to fn ops i S).bind λr=>k r.1 r.2:=by
 unfold apS ET;cases ops[i]? with
 |none=>rfl
 |some o=>
  simp only[apU];cases GH ops S.tm o with
  |none=>rfl
  |some r=>
   obtain⟨b,tm⟩:=r;cases b with
   |false=>rfl
   |true=>
    simp only[Option.bind_some,agY,avI];cases(vop X K.to fn tm o).run S.mem .none with
    |none=>rfl
    |some r=>
     obtain⟨v,m,l⟩:=r;simp only[Option.bind_some];cases PZ (J3 X.P fn) o.dst with
     |false=>rfl
     |true=>simp only[aI,V4];rfl
def acZ(X:Ctx)(K:PW)(fn:Nat)(ops:Array Oper):∀(is:List Nat) (S:St) (L:List (Nat×Log)) (k:St->List (Nat×Log)->Option R),aaq X K fn ops is S L k=(BG X K.to fn ops is S L).bind λr=>k r.1 r.2
 |[],S,L,k=>rfl
 |i::is,S,L,k=>by
  simp only[aaq,aeM,atd];cases ET X K.to fn ops i S with
  |none=>rfl
  |some r=>simp only[Option.bind_some];exact acZ X K fn ops is _ _ k
def ang{X:Ctx}{K:PW}{tm:kY}{o1 o2 o3:Oper}{m:Mem}{l:Log}:(alR X K tm o1 o2 o3).run m l=(RJ X K.to tm o1 o2 o3).run m l:=by
 revert m l;show LP _ _;unfold alR RJ;split
 ·rename_i d1 t ta _ _ _ d2 x ty2 _ _ _ f args _ _ _ _;refine LP.bind λ_=>LP.bind λe=> ?_
  generalize WO ta tm=ga;generalize ev X.P tm ty2 x=kv;cases ga with
  |zF r ver i off=>
   cases kv with
   |d y=>
    cases y with
    |int k n=>
     refine LP.bind λc=> ?_
     cases c with
     |none=>exact LP.refl _
     |some c=>cases c with
      |arr fz fl jl s rows=>cases fz with
       |true=>exact LP.refl _
       |false=>cases fl with
        |true=>exact LP.refl _
        |false=>
         refine LP.bind λ_=>LP.bind λrow=>LP.bind λrs=>LP.bind λ_=> ?_
         exact LP.enc (o:=(K f [.own oq 0,.d (.int k n)] [.arr false (wJ X.P e) 0 (nN X.P e) rs]).o) (enc:=(K f [.own oq 0,.d (.int k n)] [.arr false (wJ X.P e) 0 (nN X.P e) rs]).enc) (f:=λout=>do
          let q<-op' (adz out)
          ck (ahf (nN X.P e) (wJ X.P e) q)
          wr r (.arr false false jl s (rows.set i (splice row off [.sl true (nN X.P e) q.2.2.2.2])))
          pure (d1,d2,V.d (.int k n),V.d (.int q.1 q.2.1)))
      |_=>exact LP.refl _
    |_=>exact LP.refl _
   |_=>exact LP.refl _
  |_=>exact LP.refl _
 ·rename_i hno;split
  ·exfalso;apply hno<;>rfl
  ·exact LP.refl _
def anh(X:Ctx)(K:PW)(fn:Nat)(ops:Array Oper)(p:Nat)(S:St)(k:St->Option R):ahP X K fn ops p S k=(J4 X K.to fn ops p S).bind k:=by
 simp only[ahP,acS];cases ops[p]? with
 |none=>rfl
 |some o1=>cases ops[p+1]? with
  |none=>rfl
  |some o2=>cases ops[p+2]? with
   |none=>rfl
   |some o3=>
    simp only[agY,ang];cases(RJ X K.to S.tm o1 o2 o3).run S.mem .none with
    |none=>rfl
    |some r=>simp only[Option.bind_some];cases(Nat.blt r.1.1 (J3 X.P fn) &&(Nat.blt r.1.2.1 (J3 X.P fn) && PZ (J3 X.P fn) o3.dst))<;>rfl
def ajo(X:Ctx)(K:PW)(fn id:Nat)(ops:Array Oper)(draw:Bool)(S:St)(k:St->List (Nat×Log)->Option R):acW X K fn id ops draw S k=(Fq X K.to fn id ops draw S).bind λr=>k r.1 r.2:=by
 simp only[acW,Xd];cases X.PS.fuse fn id with
 |zero=>simp only[acZ]
 |succ p=>
  cases draw with
  |true=>rfl
  |false=>
   simp only[acZ,anh];cases BG X K.to fn ops (List.range p) S [] with
   |none=>rfl
   |some r=>simp only[Option.bind_some];cases J4 X K.to fn ops p r.1<;>rfl
def apV(X:Ctx)(K:PW)(fn id:Nat)(ops:Array Oper)(draw:Bool)(S:St)(k:St->Option R):alS X K fn id ops draw S k=(region X K.to fn id ops draw S).bind k:=by
 simp only[alS,aeN,ajo];cases Fq X K.to fn id ops draw S with
 |none=>rfl
 |some r=>
  simp only[Option.bind_some];have hp:(match acD (X.PS.keep fn id) r.1 with
   |some S''=>aao S''.tm λtm=>TV S''.mem λm=>alP ⟨tm,m⟩ k
   |none=>none)=(prune (X.PS.keep fn id) r.1).bind k:=by
   unfold prune;cases acD (X.PS.keep fn id) r.1 with
   |none=>rfl
   |some S''=>simp only[acY,UQ,atc];rfl
  rw[hp];cases draw with
  |false=>rfl
  |true=>simp only[aBk];cases(X.P.follows .mixedOrders &&(backOk ops && Yg ops (Region.before ops) r.2))<;>rfl
def arF(X:Ctx)(K:PW)(L:UO)(fn:Nat)(c:Code):∀(S:St) (k:Ex->St->Option R),acX X K L fn c S k=(Lj X K.to L.to fn c S).bind λr=>k r.1 r.2:=by
 induction c with
 |skip=>intro S k;rfl
 |region id ops draw=>intro S k;simp only[acX,Lj,apV];cases region X K.to fn id ops draw S<;>rfl
 |seq a b iha ihb=>
  intro S k;simp only[acX,Lj,iha];cases Lj X K.to L.to fn a S with
  |none=>rfl
  |some r=>
   obtain⟨e,S'⟩:=r;cases e with
   |normal=>exact ihb S' k
   |exit id=>rfl
   |ret=>rfl
 |cond c a b iha ihb=>
  intro S k;simp only[acX,Lj,aaR];cases hev:ev X.P S.tm 0 c with
  |d x=>cases x with
   |bool t=>cases t with
    |true=>simp only[arE hev];exact iha S k
    |false=>simp only[arE hev];exact ihb S k
   |_=>rfl
  |_=>rfl
 |block id c ih=>
  intro S k;simp only[acX,Lj,ih];cases Lj X K.to L.to fn c S with
  |none=>rfl
  |some r=>
   obtain⟨e,S'⟩:=r;cases e with
   |normal=>rfl
   |ret=>rfl
   |exit j=>simp only[Option.bind_some];cases Nat.beq j id<;>rfl
 |loop c ih=>intro S k;simp only[acX,Lj,UO.to,acV.val,Alt.go_eq];cases(L (lid c) S).o<;>rfl
 |exit id=>intro S k;rfl
 |ret=>intro S k;rfl
 |_=>intro S k;rfl
def akp(X:Ctx)(g:Func)(n:Nat)(S:St)(k:List Row->List Cell->Option R):alT X g n S k=(leave X g n S).bind λr=>k r.1 r.2:=by
 simp only[alT,leave,agY];split
 ·rename_i r m l he;simp only[he];rfl
 ·rename_i he;simp only[he];rfl
def avJ(X:Ctx)(K:PW)(L:UO)(f:Nat)(args:List V)(cells:List Cell)(k:List Row->List Cell->Option R):bodyC X K L f args cells k=(afW X K.to L.to f args cells).bind λr=>k r.1 r.2:=by
 simp only[bodyC,afW];cases X.P.funcs[f]? with
 |none=>rfl
 |some g=>
  simp only;cases g.body with
  |none=>rfl
  |some c=>
   simp only;generalize (!(Nat.ble cells.length oq && Nat.ble args.length g.ntmps))=q;cases q with
   |true=>rfl
   |false=>
    simp only[aX,agY];cases(entry X f g args cells).run (uJ 0 cells) .none with
    |none=>rfl
    |some r=>
     obtain⟨tm,m,l⟩:=r;simp only[Option.bind_some,acY,UQ,arF];cases Lj X K.to L.to f c ⟨tm,m⟩ with
     |none=>rfl
     |some r=>
      obtain⟨e,S⟩:=r;cases e with
      |normal=>simp only[Option.bind_some,akp]
      |ret=>simp only[Option.bind_some,akp]
      |exit j=>rfl
end
def avK{X:Ctx}{K:PW}{L:UO}{f:Nat}{args:List V}{cells:List Cell}{r:List Row×List Cell}(hp:X.adr f=none)(hK:KLe K.to (call X))(hL:LOk X (call X) f L.to (loops (codeOf X.P f)))
  (h:bodyC X K L f args cells (λa b=>some (a,b))=some r):call X f args cells=some r:=by
 refine avF hp hK hL ?_;rw[avJ] at h;cases hb:afW X K.to L.to f args cells with
 |none=>rw[hb] at h;cases h
 |some q=>rw[hb] at h;exact h
def azv{X:Ctx}{K:PW}{L:UO}{fn:Nat}{c:Code}{S:St}{r:Ex×St}(hK:KLe K.to (call X))(hL:LOk X (call X) fn L.to (loops c))(h:acX X K L fn c S (λa b=>some (a,b))=some r):den X (call X) fn c S=some r:=by
 refine azt hK hL ?_;rw[arF] at h;cases hb:Lj X K.to L.to fn c S with
 |none=>rw[hb] at h;cases h
 |some q=>rw[hb] at h;exact h
end Go.Vm
namespace Go.Vm
open Go
open Go.IntKind (i64)
def iterM{σ τ:Type}(b:σ->Option (σ⊕τ)):Nat->σ->Option τ
 |0,_=>none
 |n+1,s=>match b s with
  |some (.inl s')=>iterM b n s'
  |some (.inr t)=>some t
  |none=>none
def ac0{σ τ:Type}{b:σ->Option (σ⊕τ)}:∀{n k:Nat} {s:σ} {t:τ},iterM b n s=some t->n<=k->iterM b k s=some t
 |0,_,_,_,h,_=>by simp[iterM] at h
 |n+1,0,_,_,_,hk=>by omega
 |n+1,k+1,s,t,h,hk=>by
  simp only[iterM] at h|-;cases hb:b s with
  |none=>simp[hb] at h
  |some q=>
   rw[hb] at h;cases q with
   |inl s'=>exact ac0 h aB
   |inr t'=>exact h
noncomputable def fQ{σ τ:Type}(b:σ->Option (σ⊕τ))(s:σ):Option τ:=lim λn=>iterM b n s
def adU{σ τ:Type}{b:σ->Option (σ⊕τ)}{s:σ}{t:τ}{n:Nat}(h:iterM b n s=some t):fQ b s=some t:=by
 refine Lh h λm y hy=> ?_
 have h1:=ac0 h (Nat.le_max_left n m);rw[ac0 hy (Nat.le_max_right n m)] at h1;exact Option.some.inj h1
def ac1{σ τ:Type}{b:σ->Option (σ⊕τ)}{s:σ}{t:τ}(h:fQ b s=some t):∃n,iterM b n s=some t:=TU h
def aY{σ τ:Type}{b:σ->Option (σ⊕τ)}{s s':σ}(h:b s=some (.inl s')):fQ b s=fQ b s':=by
 cases hl:fQ b s' with
 |some t=>obtain⟨n,hn⟩:=ac1 hl;exact adU (n:=n+1) (by simp only[iterM,h];exact hn)
 |none=>
  cases hs:fQ b s with
  |none=>rfl
  |some t=>
   obtain⟨n,hn⟩:=ac1 hs;cases n with
   |zero=>simp[iterM] at hn
   |succ n=>simp only[iterM,h] at hn;rw[adU hn] at hl;cases hl
def aN{σ τ:Type}{b:σ->Option (σ⊕τ)}{s:σ}{t:τ}(h:b s=some (.inr t)):fQ b s=some t:=
 adU (n:=1) (by simp only[iterM,h])
def qX{σ τ:Type}{b:σ->Option (σ⊕τ)}{t:τ}(st:Nat->σ)(n:Nat)(h:∀i,i<n->b (st i)=some (.inl (st (i+1))))(he:b (st n)=some (.inr t)):∀i,i<=n->fQ b (st i)=some t:=by
 intro i hi;obtain⟨d,rfl⟩:∃d,n=i+d:=⟨n - i,aB⟩
 induction d generalizing i with
 |zero=>exact aN he
 |succ d ih=>rw[aY (h i aB),ih (i+1) (λj hj=>h j aB) (by rw[show i+1+d=i+(d+1) by omega];exact he) aB]
def apW{σ τ:Type}{b:σ->Option (σ⊕τ)}{D:St->Option (Ex×St)}{tm:σ->St}{tx:τ->Ex×St}
  (h:∀s r,b s=some r->D (tm s)=some (match r with| .inl s'=>(.normal,tm s')| .inr t=>tx t)) (hx:∀t,(tx t).1≠.normal) {s:σ} {t:τ} (hl:fQ b s=some t):UH D (tm s)=some (tx t):=by
 obtain⟨n,hn⟩:=ac1 hl;induction n generalizing s with
 |zero=>simp[iterM] at hn
 |succ n ih=>
  simp only[iterM] at hn;cases hb:b s with
  |none=>simp[hb] at hn
  |some q=>
   rw[hb] at hn;have hd:=h s q hb;cases q with
   |inl s'=>have hl':=ih (adU hn) hn;obtain⟨k,hk⟩:=acU hl';refine adS (n:=k+1) ?_;simp only[iter,hd];exact hk
   |inr t'=>
    simp only[iF] at hn;subst hn;refine adS (n:=1) ?_;simp only[iter,hd];have:=hx t';cases ht:tx t' with
    |mk e S=>cases e with
     |normal=>rw[ht] at this;exact absurd rfl this
     |exit id=>rfl
     |ret=>rfl
def aEQ(X:Ctx)(f n:Nat)(c:Code)(P:St->acV (Ex×St)):Prop:=lid c=n/\∀S r,(P S).val=some r->UH (den X (call X) f c) S=some r
def findLoop(n:Nat):Code->Option Code
 | .seq a b=>match findLoop n a with
  |some c=>some c
  |none=>findLoop n b
 | .cond _ a b=>match findLoop n a with
  |some c=>some c
  |none=>findLoop n b
 | .block _ c=>findLoop n c
 | .loop c=>bif Nat.beq (lid c) n then some c else findLoop n c
 |_=>none
def Yv(P:Program)(f n:Nat):Code:=match findLoop n (codeOf P f) with
 |some c=>c
 |none=> .skip
def avL{X:Ctx}{K:PW}{L:UO}{f:Nat}{args:List V}{cells:List Cell}{ρ:Type}{o:Option ρ}{enc:ρ->List Row×List Cell}(hp:X.adr f=none)(hK:KLe K.to (call X))(hL:LOk X (call X) f L.to (loops (codeOf X.P f)))
  (h:bodyC X K L f args cells (λa b=>some (a,b))=o.bind λr=>some (enc r)) {r:ρ} (hr:o=some r):call X f args cells=some (enc r):=by
 refine avK hp hK hL ?_;rw[h,hr];rfl
def avM{X:Ctx}{K:PW}{L:UO}{f:Nat}{c:Code}{σ τ:Type}{b:σ->Option (σ⊕τ)}{tm:σ->St}{tx:τ->Ex×St}(hK:KLe K.to (call X))(hL:LOk X (call X) f L.to (loops c))
  (h:∀s,acX X K L f c (tm s) (λa b=>some (a,b))=(b s).bind λr=>some (match r with| .inl s'=>(.normal,tm s')| .inr t=>tx t)) (hx:∀t,(tx t).1≠.normal) {s:σ} {t:τ} (hl:fQ b s=some t):
  UH (den X (call X) f c) (tm s)=some (tx t):=by
 refine apW (λs r hr=> ?_) hx hl;refine azv hK hL ?_;rw[h s,hr];rfl
def avN{α β:Type}(c:Bool)(a b:Option α)(f:α->Option β):(bif c then a else b).bind f=bif c then a.bind f else b.bind f:=by cases c<;>rfl
def ate{α β γ:Type}(o:Option α)(g:α->Option β)(f:β->Option γ):(o.bind g).bind f=o.bind λx=>(g x).bind f:=by cases o<;>rfl
def aj{α β:Type}(a:α)(f:α->Option β):(some a).bind f=f a:=rfl
def atf{α β:Type}(f:α->Option β):(none:Option α).bind f=none:=rfl
def atg{α β:Type}(o:Option α)(n:Option β)(f:α->Option β):Option β:=match o with
 |none=>n
 |some x=>f x
def letE{α β:Type}(x:α)(f:α->Option β):Option β:=f x
def akq{α β γ:Type}(o:Option α)(n:Option β)(f:α->Option β)(g:β->Option γ):(atg o n f).bind g=atg o (n.bind g) λx=>(f x).bind g:=by cases o<;>rfl
def akr{α β γ δ:Type}(r:α⊕β)(f:α->Option γ)(g:β->Option γ)(k:γ->Option δ):(iO r f g).bind k=iO r (λx=>(f x).bind k) (λy=>(g y).bind k):=by cases r<;>rfl
def aks{α β γ:Type}(x:α)(f:α->Option β)(g:β->Option γ):(letE x f).bind g=letE x λy=>(f y).bind g:=rfl
def aEQ.at{X:Ctx}{f n:Nat}{c:Code}{P:St->acV (Ex×St)}{L:UO}(h:aEQ X f n c P)(hL:∀S,L n S=P S):∀S r,L.to (lid c) S=some r->UH (den X (call X) f c) S=some r:=by intro S r hr;rw[h.1,UO.to,hL] at hr;exact h.2 S r hr
end Go.Vm
namespace Go.Vm
open Go
open Go.IntKind (i64)
set_option linter.unusedVariables false
structure Pt(β:Type) where
 α:Type
 enc:α->β
 dec:β->Option α
 ok:∀b x,dec b=some x->b=enc x
noncomputable section
def pS:Pt V:=⟨List UInt8,λs=> .d (.str s),λv=>match v with| .d (.str s)=>some s|_=>none,by intro b x h;split at h<;>simp_all⟩
def pK(k:IntKind):Pt V:=⟨Int,λn=> .d (.int k n),λv=>match v with| .d (.int k' n)=>(match decEq k' k with| .isTrue _=>some n| .isFalse _=>none)|_=>none,by
 intro b x h;split at h
 ·split at h<;>simp_all
 ·cases h⟩
def pI:Pt V:=pK .i64
def pB:Pt V:=⟨Bool,λs=> .d (.bool s),λv=>match v with| .d (.bool s)=>some s|_=>none,by intro b x h;split at h<;>simp_all⟩
def pL(o:Bool)(s:Nat):Pt V:=⟨List Row,λr=> .d (.sl o s r),λv=>match v with| .d (.sl o' s' r)=>bif(o==o') && Nat.beq s s' then some r else none|_=>none,by
 intro b x h;split at h
 ·rename_i o' s' r;cases ho:(o==o')<;>cases hs:Nat.beq s s'<;>simp only[ho,hs,Bool.and_true,Bool.and_false,Bool.false_and,aI,aX,iF] at h
  all_goals first|cases h;done|skip
  cases h;rw[beq_iff_eq] at ho;rw[Dl hs,ho]
 ·cases h⟩
def pZ{β:Type}(v:β)(t:β->Bool)(h:∀b,t b=true->b=v):Pt β:=⟨Unit,λ_=>v,λb=>bif t b then some () else none,by
 intro b x e;cases ht:t b with
 |true=>exact h b ht
 |false=>rw[ht] at e;cases e⟩
def TW(s:Nat):Pt V:=pZ (.nil s) (λv=>match v with| .nil t=>Nat.beq s t|_=>false) (by
 intro b h;split at h
 ·rw[Dl h]
 ·cases h)
def avO{a b:Bool}(h:(a && b)=true):a=true/\b=true:=by simpa using h
def pO(r n:Nat):Pt V:=pZ (.own r n) (λv=>match v with| .own a b=>Nat.beq r a && Nat.beq n b|_=>false) (by
 intro b h;split at h
 ·obtain⟨h1,h2⟩:=avO h;rw[Dl h1,Dl h2]
 ·cases h)
def pP(r n:Nat):Pt V:=pZ (.ptr r n) (λv=>match v with| .ptr a b=>Nat.beq r a && Nat.beq n b|_=>false) (by
 intro b h;split at h
 ·obtain⟨h1,h2⟩:=avO h;rw[Dl h1,Dl h2]
 ·cases h)
def aER{β:Type}(p:Pt β)(q:Pt (List β)):Pt (List β):=⟨p.α×q.α,λx=>p.enc x.1::q.enc x.2,λl=>match l with|a::b=>(match p.dec a with|some x=>(match q.dec b with|some y=>some (x,y)|none=>none)|none=>none)|[]=>none,by
 intro b x h;split at h
 ·split at h
  ·rename_i hp;split at h
   ·rename_i hq;cases h;rw[p.ok _ _ hp,q.ok _ _ hq]
   ·cases h
  ·cases h
 ·cases h⟩
def aMR{β:Type}:Pt (List β):=pZ [] (λl=>match l with|[]=>true|_=>false) (by intro b h;split at h<;>simp_all)
def pl{β:Type}(l:List (Pt β)):Pt (List β):=List.rec aMR (λp _ q=>aER p q) l
def BH(a:List (Pt V)):Pt V:=⟨(pl a).α,λx=> .agg ((pl a).enc x),λv=>match v with| .agg x=>(pl a).dec x|_=>none,by
 intro v x h;split at h
 ·rw[(pl a).ok _ _ h]
 ·cases h⟩
def cB(t:TypeId)(a:List (Pt V)):Pt Cell:=⟨(pl a).α,λx=> .box t ((pl a).enc x),λv=>match v with| .box u x=>bif Nat.beq t u then(pl a).dec x else none|_=>none,by
 intro v x h;split at h
 ·rename_i u y;cases ht:Nat.beq t u with
  |false=>rw[ht] at h;cases h
  |true=>rw[ht,aI] at h;rw[(pl a).ok _ _ h,Dl ht]
 ·cases h⟩
def cA(z l:Bool)(n s:Nat):Pt Cell:=⟨List Row,λr=> .arr z l n s r,λv=>match v with| .arr z' l' n' s' r=>bif(z==z') &&((l==l') &&(Nat.beq n n' && Nat.beq s s')) then some r else none|_=>none,by
 intro b x h;split at h
 ·rename_i z' l' n' s' r;cases ht:((z==z') &&((l==l') &&(Nat.beq n n' && Nat.beq s s'))) with
  |false=>rw[ht] at h;cases h
  |true=>rw[ht] at h;obtain⟨h1,h2⟩:=avO ht;obtain⟨h2,h3⟩:=avO h2;obtain⟨h3,h4⟩:=avO h3;cases h;rw[beq_iff_eq] at h1 h2;rw[h1,h2,Dl h3,Dl h4]
 ·cases h⟩
def dH{β:Type}(n:Nat)(p:Pt β):Pt (Nat×β):=⟨p.α,λx=>(n,p.enc x),λy=>bif Nat.beq n y.1 then p.dec y.2 else none,by
 intro y x h;cases ht:Nat.beq n y.1 with
 |false=>rw[ht] at h;cases h
 |true=>rw[ht,aI] at h;rw[<-p.ok _ _ h,Dl ht]⟩
def Iw(t:List (Pt (Nat×V)))(m:List (Pt (Nat×Cell))):Pt St:=⟨(pl t).α×(pl m).α,λx=>⟨(pl t).enc x.1,(pl m).enc x.2⟩,λS=>match(pl t).dec S.tm with|some x=>(match(pl m).dec S.mem with|some y=>some (x,y)|none=>none)|none=>none,by
 intro S x h;split at h
 ·rename_i hp;split at h
  ·rename_i hq;cases h;cases S;have e1:=(pl t).ok _ _ hp;have e2:=(pl m).ok _ _ hq;simp only at e1 e2;rw[e1,e2]
  ·cases h
 ·cases h⟩
def pOr{β:Type}(p q:Pt β):Pt β:=⟨p.α⊕q.α,λx=>match x with| .inl x=>p.enc x| .inr y=>q.enc y,λb=>match p.dec b with|some x=>some (.inl x)|none=>(match q.dec b with|some y=>some (.inr y)|none=>none),by
 intro b x h;split at h
 ·rename_i hp;cases h;exact p.ok _ _ hp
 ·split at h
  ·rename_i hq;cases h;exact q.ok _ _ hq
  ·cases h⟩
structure fB where
 f:Nat
 p:Pt (List V)
 q:Pt (List Cell)
 ρ:Type
 enc:ρ->List Row×List Cell
@[reducible] def sg(f:Nat)(a:List (Pt V))(c:List (Pt Cell)){ρ:Type}(enc:ρ->List Row×List Cell):fB:=⟨f,pl a,pl c,ρ,enc⟩
abbrev fB.α(S:fB):Type:=S.p.α×S.q.α
def fB.ok(S:fB)(X:Ctx)(o:S.α->Option S.ρ):Prop:=∀x r,o x=some r->call X S.f (S.p.enc x.1) (S.q.enc x.2)=some (S.enc r)
structure FE(X:Ctx) where
 f:Nat
 P:List V->List Cell->Option (Res (List Row×List Cell))
 ok:∀a c q r,P a c=some q->q.val=some r->call X f a c=some r
def fe{X:Ctx}{S:fB}{o:S.α->Option S.ρ}(h:S.ok X o):FE X:=⟨S.f,λa c=>match S.p.dec a with|some x=>(match S.q.dec c with|some y=>some ⟨S.ρ,o (x,y),S.enc⟩|none=>none)|none=>none,by
 intro a c q r hq hr;split at hq
 ·rename_i x hx;split at hq
  ·rename_i y hy;cases hq;obtain⟨z,hz,rfl⟩:=Res.ahO hr;rw[S.p.ok _ _ hx,S.q.ok _ _ hy];exact h (x,y) z hz
  ·cases hq
 ·cases hq⟩
def kt{X:Ctx}(l:List (FE X)):PW:=List.rec (λ_ _ _=> .none) (λe _ K g a c=>bif Nat.beq g e.f then(match e.P a c with|some r=>r|none=>K g a c) else K g a c) l
def aBl{X:Ctx}(l:List (FE X)):KLe (kt l).to (call X):=by
 induction l with
 |nil=>exact λ_ _ _ _ h=>by simp[PW.to,kt,Res.none,Res.val] at h
 |cons e l ih=>
  intro g a c r hr;have hr':(bif Nat.beq g e.f then(match e.P a c with|some r=>r|none=>kt l g a c) else kt l g a c).val=some r:=hr
  by_cases h:g=e.f
  ·subst h;simp only[Nat.beq_refl,aI] at hr';split at hr'
   ·rename_i q hq;exact e.ok a c q r hq hr'
   ·exact ih _ a c r hr'
  ·rw[zk h] at hr';exact ih g a c r hr'
structure LE(X:Ctx)(f:Nat) where
 n:Nat
 c:Code
 P:St->Option (acV (Ex×St))
 hn:lid c=n
 ok:∀S q r,P S=some q->q.val=some r->UH (den X (call X) f c) S=some r
def lt{X:Ctx}{f:Nat}(l:List (LE X f)):UO:=List.rec (λ_ _=> .none) (λe _ L n S=>bif Nat.beq n e.n then(match e.P S with|some r=>r|none=> .none) else L n S) l
def apart(l:List Nat):Bool:=match l with
 |[]=>true
 |x::l=>l.all (λy=> !(Nat.beq x y)) && apart l
def avP{X:Ctx}{f:Nat}:∀(l:List (LE X f)),apart (l.map LE.n)=true->∀e,e∈l->∀S r,(lt l e.n S).val=some r->UH (den X (call X) f e.c) S=some r
 |[],_,e,h,_,_,_=>by cases h
 |d::l,hd,e,he,S,r,hr=>by
  have hr':(bif Nat.beq e.n d.n then(match d.P S with|some r=>r|none=> .none) else lt l e.n S).val=some r:=hr;simp only[zmc,apart,Ji] at hd;rcases List.mem_cons.1 he with rfl|he
  ·simp only[Nat.beq_refl,aI] at hr';split at hr'
   ·rename_i q hq;exact e.ok S q r hq hr'
   ·simp[acV.none,acV.val] at hr'
  ·have h1:=List.all_eq_true.1 hd.1 e.n (List.mem_map_of_mem he);have h2:e.n≠d.n:=by intro h;rw[h,Nat.beq_refl] at h1;cases h1
   rw[zk h2] at hr';exact avP l hd.2 e he S r hr'
def aBm{X:Ctx}{f:Nat}{l:List (LE X f)}{cs:List Code}(h:cs=l.map LE.c)(hd:apart (l.map LE.n)=true):LOk X (call X) f (lt l).to cs:=by intro c hc S r hr;rw[h] at hc;obtain⟨e,he,rfl⟩:=List.mem_map.1 hc;rw[e.hn] at hr;exact avP l hd e he S r hr
def fnS{X:Ctx}{S:fB}{o:S.α->Option S.ρ}(C:∀{R:Type},S.α->(S.ρ->Option R)->Option R)(K:List (FE X))(L:List (LE X S.f))(hn:∀{R:Type} x (k:S.ρ->Option R),C x k=(C x some).bind k)
  (hE:∀{R:Type} x (k:List Row->List Cell->Option R),bodyC X (kt K) (lt L) S.f (S.p.enc x.1) (S.q.enc x.2) k=C x (λr=>k (S.enc r).1 (S.enc r).2):=by intros;kernel_rfl)
  (hL:loops (codeOf X.P S.f)=L.map LE.c:=by kernel_rfl) (hd:apart (L.map LE.n)=true:=by kernel_rfl) (hp:X.adr S.f=none:=by kernel_rfl) (ho:∀x,o x=C x some:=by intros;rfl):S.ok X o:=by
 intro x r h;rw[ho] at h;exact avL hp (aBl K) (aBm hL hd) (by rw[hE,hn]) h
def fB.lim{X:Ctx}{S:fB}{o:Nat->S.α->Option S.ρ}(h:∀n,S.ok X (o n)):S.ok X λx=>Vm.lim λn=>o n x:=by intro x r hr;obtain⟨n,hn⟩:=TU hr;exact h n x r hn
def fB.zero{X:Ctx}{S:fB}:S.ok X λ_=>none:=λ_ _ h=>by cases h
def fB.Lh{X:Ctx}{S:fB}{o:Nat->S.α->Option S.ρ}(h:∀n,S.ok X (o n))(hi:∀a b,S.enc a=S.enc b->a=b){x:S.α}{n:Nat}{r:S.ρ}(hr:o n x=some r):(Vm.lim λn=>o n x)=some r:=by
 refine Vm.Lh hr λm y hy=> ?_
 have h1:=h n x r hr;have h2:=h m x y hy;rw[h1] at h2;exact(hi _ _ (Option.some.inj h2)).symm
def fB.adr{X:Ctx}{S:fB}{o:S.α->Option S.ρ}{p:List V->List Cell->Option (List Row×List Cell)}(h:∀x,p (S.p.enc x.1) (S.q.enc x.2)=(o x).map S.enc:=by intros;rfl)(hp:X.adr S.f=some p:=by kernel_rfl):S.ok X o:=by intro x r hr;exact alL hp (by rw[h,hr];rfl)
def le{X:Ctx}{f:Nat}(n:Nat)(p:Pt St){σ:Type}(v:p.α->σ)(g:p.α->σ->p.α)(A:p.α->Alt (Ex×St))(C:∀{R:Type} (x:p.α),σ->(σ->Option R)->((A x).T->Option R)->Option R)(K:List (FE X))(L:List (LE X f))
  (hn:∀{R:Type} x s (kn:σ->Option R) (ke:(A x).T->Option R),C x s kn ke=(C x s (λs=>some (Sum.inl s)) (λt=>some (Sum.inr t))).bind λr=>match r with| .inl s=>kn s| .inr t=>ke t)
  (hE:∀{R:Type} x s (k:Ex->St->Option R),acX X (kt K) (lt L) f (Yv X.P f n) (p.enc (g x s)) k=C x s (λs=>k .normal (p.enc (g x s))) (λt=>(A x).go t λr=>k r.1 r.2):=by intros;kernel_rfl)
  (hx:∀x t,((A x).enc t).1≠.normal:=by first|(intro x t h;cases h;done)|(intro x t;rcases t with t|t<;>first|(intro h;cases h;done)|(rcases t with t|t<;>first|(intro h;cases h;done)|(rcases t with t|t<;>(intro h;cases h)))))
  (hv:∀x,g x (v x)=x:=by first|(intros;rfl)|(rintro(_|_)<;>rfl)|(rintro(_|_|_)<;>rfl)|(rintro(_|_|_|_)<;>rfl))
  (hL:loops (Yv X.P f n)=L.map LE.c:=by kernel_rfl) (hd:apart (L.map LE.n)=true:=by kernel_rfl) (hi:lid (Yv X.P f n)=n:=by kernel_rfl):LE X f:=
 ⟨n,Yv X.P f n,λS=>match p.dec S with|some x=>some ⟨A x,fQ (λs=>C x s (λs=>some (Sum.inl s)) (λt=>some (Sum.inr t))) (v x)⟩|none=>none,hi,by
  intro S q r hq hr;split at hq
  ·rename_i x hp;cases hq;obtain⟨t,ht,rfl⟩:=acV.ahO hr;rw[p.ok _ _ hp];have h:=avM (X:=X) (f:=f) (c:=Yv X.P f n) (K:=kt K) (L:=lt L) (tm:=λs=>p.enc (g x s)) (tx:=(A x).enc) (aBl K) (aBm hL hd) (λs=>by
    rw[hE,hn];congr 1;funext r;cases r
    ·rfl
    ·exact Alt.go_eq _ _ _) (hx x) ht
   rwa [hv] at h
  ·cases hq⟩
def nb:(∀(α β:Type) (c:Bool) (a b:Option α) (f:α->Option β),(bif c then a else b).bind f=bif c then a.bind f else b.bind f)/\(∀(α β γ:Type) (o:Option α) (g:α->Option β) (f:β->Option γ),(o.bind g).bind f=o.bind λx=>(g x).bind f)/\
  (∀(α β:Type) (a:α) (f:α->Option β),(some a).bind f=f a)/\(∀(α β:Type) (f:α->Option β),(none:Option α).bind f=none)/\
  (∀(α β γ:Type) (o:Option α) (n:Option β) (f:α->Option β) (g:β->Option γ),(atg o n f).bind g=atg o (n.bind g) λx=>(f x).bind g)/\
  (∀(α β γ δ:Type) (r:α⊕β) (f:α->Option γ) (g:β->Option γ) (k:γ->Option δ),(iO r f g).bind k=iO r (λx=>(f x).bind k) (λy=>(g y).bind k))/\
  (∀(α β γ:Type) (x:α) (f:α->Option β) (g:β->Option γ),(letE x f).bind g=letE x λy=>(f y).bind g):=
 ⟨λ_ _=>avN,λ_ _ _=>ate,λ_ _=>aj,λ_ _=>atf,λ_ _ _=>akq,λ_ _ _ _=>akr,λ_ _ _=>aks⟩
section
variable {α β ρ R:Type} {k:ρ->Option R}
def dn{c:Bool}{x y:Option R}{u v:Option ρ}(h1:x=u.bind k)(h2:y=v.bind k):(bif c then x else y)=(bif c then u else v).bind k:=by cases c<;>assumption
def uM{o:Option α}{f:α->Option R}{g:α->Option ρ}(h:∀a,f a=(g a).bind k):o.bind f=(o.bind g).bind k:=by cases o with
 |none=>rfl
 |some a=>exact h a
def uN{o:Option α}{n:Option R}{m:Option ρ}{f:α->Option R}{g:α->Option ρ}(h1:n=m.bind k)(h:∀a,f a=(g a).bind k):atg o n f=(atg o m g).bind k:=by rw[akq,h1,funext h]
def uO{o:α⊕β}{f:α->Option R}{g:β->Option R}{f':α->Option ρ}{g':β->Option ρ}(h1:∀a,f a=(f' a).bind k)(h2:∀a,g a=(g' a).bind k):iO o f g=(iO o f' g').bind k:=by rw[akr,funext h1,funext h2]
def uP{x:α}{f:α->Option R}{g:α->Option ρ}(h:∀a,f a=(g a).bind k):letE x f=(letE x g).bind k:=by rw[aks,funext h]
end
end
end Go.Vm
namespace Go.Vm
open Go
open Go.IntKind (i64)
def bC{n:Int}(h1: -9223372036854775808<=n)(h2:n<=9223372036854775807):i64.wrap n=n:=IntWalk.i64_in n ⟨h1,h2⟩
def alV{α β:Type}(f:α->β)(l:List α)(i:Int):idx (l.map f) i=(idx l i).map f:=by unfold idx;cases decide (0<=i)<;>simp
def dI{α:Type}(l:List α)(i:Nat):idx l (i:Int)=l[i]? :=by simp[idx]
structure Nd where
 kind:Int
 op:Int
 text:List UInt8
 other:List UInt8
 kids:List Int
 deriving DecidableEq,Inhabited
def encI(l:List Int):List Row:=l.map λk=>[.int .i64 k]
def encS(l:List (List UInt8)):List Row:=l.map λs=>[.str s]
def adV(o:Bool)(n:Nd):Row:=[.int .i64 n.kind,.int .i64 n.op,.str n.text,.str n.other,.sl o 1 (encI n.kids)]
def aW(o:Bool)(l:List Nd):List Row:=l.map (adV o)
structure Tk where
 kind:Int
 text:List UInt8
 at_:Int
 deriving DecidableEq,Inhabited
def ajp(n:Tk):Row:=[.int .i64 n.kind,.str n.text,.int .i64 n.at_]
def au(l:List Tk):List Row:=l.map ajp
section
variable (o:Bool) (n:Nd) (l:List Nd) (k:List Int) (i:Int) (t:Tk) (ts:List Tk)
@[simp] theorem mZ:(encI k).length=k.length:=by simp[encI]
@[simp] theorem fV:(aW o l).length=l.length:=by simp[aW]
@[simp] theorem dQ:(au ts).length=ts.length:=by simp[au]
@[simp] theorem ani:idx (encI k) i=(idx k i).map λk=>[D.int .i64 k]:=alV _ _ _
@[simp] theorem aEq:idx (aW o l) i=(idx l i).map (adV o):=alV _ _ _
@[simp] theorem aEr:idx (au ts) i=(idx ts i).map ajp:=alV _ _ _
@[simp] theorem LQ(j:Nat):(encI k)[j]? =(k[j]?).map λk=>[D.int .i64 k]:=by simp[encI]
@[simp] theorem Bv(j:Nat):(aW o l)[j]? =(l[j]?).map (adV o):=by simp[aW]
@[simp] theorem gq(j:Nat):(au ts)[j]? =(ts[j]?).map ajp:=by simp[au]
@[simp] theorem cN0:mg .i64 (adV o n) 0=some n.kind:=rfl
@[simp] theorem cN1:mg .i64 (adV o n) 1=some n.op:=rfl
@[simp] theorem cN2:cStr (adV o n) 2=some n.text:=rfl
@[simp] theorem cN3:cStr (adV o n) 3=some n.other:=rfl
@[simp] theorem cN4:cSl 1 (adV o n) 4=some (encI n.kids):=rfl
@[simp] theorem cT0:mg .i64 (ajp t) 0=some t.kind:=rfl
@[simp] theorem cT1:cStr (ajp t) 1=some t.text:=rfl
@[simp] theorem cT2:mg .i64 (ajp t) 2=some t.at_:=rfl
@[simp] theorem cI0:mg .i64 [D.int .i64 i] 0=some i:=rfl
@[simp] theorem azw:ak (encI k)=encI k:=by
 induction k with
 |nil=>rfl
 |cons x l ih=>simp only[encI,zmc,ak] at ih|-;rw[ih];rfl
@[simp] theorem aT:ak (aW o l)=aW false l:=by
 induction l with
 |nil=>rfl
 |cons x l ih=>simp only[aW,zmc,ak] at ih|-;rw[ih];simp[adV,Jj,D.fz,azw]
@[simp] theorem aES:ak (au ts)=au ts:=by
 induction ts with
 |nil=>rfl
 |cons x l ih=>simp only[au,zmc,ak] at ih|-;rw[ih];simp[ajp,Jj,D.fz]
@[simp] theorem Qj:ah (encI k)=true:=by simp only[ah,encI,List.all_map,List.all_eq_true];intro x _;rfl
def avQ(j:Nat):(encI k).set j [D.int .i64 i]=encI (k.set j i):=by simp[encI,List.map_set]
end
def I64(n:Int):Prop:= -9223372036854775808<=n/\n<=9223372036854775807
structure Fit(n:Nd):Prop where
 kind:I64 n.kind
 op:I64 n.op
 text:n.text.length<=maxLen
 other:n.other.length<=maxLen
 kids:n.kids.length<=maxLen
 kid:∀k,k∈n.kids->I64 k
structure aSm(n:Tk):Prop where
 kind:I64 n.kind
 text:n.text.length<=maxLen
 at_:I64 n.at_
end Go.Vm
namespace Go.Vm
open Go
open Go.IntKind (i64)
section
variable {X:Ctx} {base:Nat} {U:Nat->Prop} {w w':World} {f:FuncId} {gargs mD:List Value} {N1 N2:List Nat} {P:Program}
def anj{args:List V}(hG:Given X base U w f args [] gargs mD N1 N2)(hm:∀i,i<args.length->Lc X.PS f i=0):
  mD=[]/\N1=[]/\N2=[]/\dL (impμ []) [] (view w U (· ∈([]:List Nat)++[])) args gargs:=by
 obtain⟨rfl,rfl⟩:=hG.cells;have key:∀(args:List V) (i:Nat) (gs:List Value) (N:List Nat) (hv:View),(∀j,i<=j->j<i+args.length->Lc X.PS f j=0)->TJ X.PS f (impμ []) (uJ 0 []) (dO w) hv i args gs N->N=[]/\dL (impμ []) [] hv args gs:=by
  intro args;induction args with
  |nil=>intro i gs N hv _ h;simp only[TJ] at h;exact⟨h.2,by simpa[dL] using h.1⟩
  |cons a args ih=>intro i gs N hv hi h;simp only[TJ,hi i (Nat.le_refl _) (by simp)] at h;obtain⟨g,gs',M1,M2,rfl,rfl,⟨rfl,hq⟩,hr⟩:=h;obtain⟨rfl,hs⟩:=ih (i+1) gs' M2 hv (λj h1 h2=>hi j aB (by simp only[X8];omega)) hr;exact⟨rfl,by simp only[dL];exact⟨g,gs',rfl,hq,hs⟩⟩
 obtain⟨rfl,hs⟩:=key args 0 gargs N1 _ (λj _ hj=>hm j aB) hG.args;exact⟨rfl,rfl,rfl,hs⟩
def apX{μ:Nat->Value}{m:Mem}{h:View}{a b:List UInt8}(q:dL μ m h [.d (.str a),.d (.str b)] gargs):gargs=[.string ⟨⟨a⟩⟩,.string ⟨⟨b⟩⟩]:=by simp only[dL,bn,ro] at q;obtain⟨g,gs,rfl,rfl,g',gs',rfl,rfl,rfl⟩:=q;rfl
def ahS{t:TypeId}{x:D}{g:Value}(ht:Qb P t=false)(hx:∀H h,ow H h x g [])(hk:Keep [] w w'):Did P U w w' ([]++[]) [t] [] [] [] [[x]] [g] [] []:=by
 refine⟨hk,by simp,by simp,rfl,⟨rfl,rfl⟩, ?_⟩;simp only[XC];refine⟨_,_,_,_,[g],[],[],rfl,rfl,rfl, ?_, ?_,rfl,rfl,rfl,rfl⟩
 ·rw[valOf,if_neg (by rw[ht];simp)]
 ·simp only[jq];exact⟨_,_,[],[],rfl,rfl,hx _ _,rfl⟩
end
end Go.Vm
namespace Go.Vm
open Go
open Go.IntKind (i64)
inductive Tn where
 |mk (kind op:Int) (text other:List UInt8) (kids:List Tn)
mutual
def Tn.size:Tn->Nat
 | .mk _ _ _ _ ks=>sizes ks+1
def sizes:List Tn->Nat
 |[]=>0
 |t::ts=>t.size+sizes ts
end
def ends:List Tn->Nat->List Int
 |[],_=>[]
 |t::ts,b=>((b:Int)+t.size - 1)::ends ts (b+t.size)
mutual
def Tn.flat:Tn->Nat->List Nd
 | .mk k o x y ks,b=>tN ks b++[⟨k,o,x,y,ends ks b⟩]
def tN:List Tn->Nat->List Nd
 |[],_=>[]
 |t::ts,b=>t.flat b++tN ts (b+t.size)
end
mutual
def Tn.row(w:Bool):Tn->Row
 | .mk k o x y ks=>[.int .i64 k,.int .i64 o,.str x,.str y,.sl w 5 (dN w ks)]
def dN(w:Bool):List Tn->List Row
 |[]=>[]
 |t::ts=>t.row w::dN w ts
end
mutual
def Tn.depth:Tn->Int
 | .mk _ _ _ _ ks=>depths 0 ks+1
def depths(a:Int):List Tn->Int
 |[]=>a
 |t::ts=>depths (bif decide (a<t.depth) then t.depth else a) ts
end
def Tn.kids:Tn->List Tn| .mk _ _ _ _ ks=>ks
def Tn.kind:Tn->Int| .mk k _ _ _ _=>k
def Tn.op:Tn->Int| .mk _ o _ _ _=>o
def Tn.text:Tn->List UInt8| .mk _ _ x _ _=>x
def Tn.other:Tn->List UInt8| .mk _ _ _ y _=>y
def Tn.ind{P:Tn->Prop}(h:∀k o x y ks,(∀t,t∈ks->P t)->P (.mk k o x y ks))(t:Tn):P t:=by
 refine Tn.rec (motive_1:=P) (motive_2:=λks=>∀t,t∈ks->P t) ?_ ?_ ?_ t
 ·intro k o x y ks ih;exact h k o x y ks ih
 ·intro t ht;cases ht
 ·intro t ts h1 h2 u hu;rcases List.mem_cons.1 hu with rfl|hu
  ·exact h1
  ·exact h2 u hu
def Tn.size_pos:∀t:Tn,1<=t.size
 | .mk _ _ _ _ ks=>by rw[Tn.size];omega
def Tn.aeP(t:Tn):t.size=sizes t.kids+1:=by cases t;rfl
def nI:∀a b:List Tn,sizes (a++b)=sizes a+sizes b
 |[],b=>by simp[sizes]
 |t::a,b=>by rw[zca,sizes,sizes,nI a b];omega
def BI:∀ks:List Tn,ks.length<=sizes ks
 |[]=>Nat.le_refl _
 |t::ts=>by have:=BI ts;have:=t.size_pos;rw[sizes,X8];omega
def akt:∀{ks:List Tn} {t:Tn},t∈ks->t.size<=sizes ks
 |u::ts,t,h=>by
  rw[sizes];rcases List.mem_cons.1 h with rfl|h
  ·omega
  ·have:=akt h;omega
def Rh:∀(ks:List Tn) (b:Nat),(ends ks b).length=ks.length
 |[],_=>rfl
 |t::ts,b=>by rw[ends,X8,Rh ts,X8]
def Yw:∀(a c:List Tn) (b:Nat),ends (a++c) b=ends a b++ends c (b+sizes a)
 |[],c,b=>by simp[ends,sizes]
 |t::a,c,b=>by rw[zca,ends,ends,Yw a c,sizes,zca,Nat.add_assoc]
def Xf:∀(a c:List Tn) (b:Nat),tN (a++c) b=tN a b++tN c (b+sizes a)
 |[],c,b=>by simp[tN,sizes]
 |t::a,c,b=>by rw[zca,tN,tN,Xf a c,sizes,Nu,Nat.add_assoc]
mutual
def Tn.flat_length:∀(t:Tn) (b:Nat),(t.flat b).length=t.size
 | .mk _ _ _ _ ks,b=>by rw[Tn.flat,Tn.size,Au,yc ks b];rfl
def yc:∀(ks:List Tn) (b:Nat),(tN ks b).length=sizes ks
 |[],_=>rfl
 |t::ts,b=>by rw[tN,sizes,Au,t.flat_length b,yc ts]
end
def avR{ks:List Tn}{b j:Nat}(h:j<ks.length):(ends ks b)[j]? =some ((b:Int)+sizes (ks.take (j+1)) - 1):=by
 induction ks generalizing b j with
 |nil=>simp at h
 |cons t ts ih=>
  cases j with
  |zero=>simp[ends,sizes]
  |succ j=>simp only[X8,Nat.add_lt_add_iff_right] at h;rw[ends,List.getElem?_cons_succ,ih h,List.take_succ_cons,sizes];congr 1;omega
def Nd.up(d:Int)(n:Nd):Nd:={n with kids:=n.kids.map (· +d)}
def arG:∀(ks:List Tn) (b c:Nat),ends ks c=(ends ks b).map (· +((c:Int) - b))
 |[],_,_=>rfl
 |t::ts,b,c=>by rw[ends,ends,zmc,arG ts (b+t.size) (c+t.size)];have e:(((c+t.size:Nat):Int) - ((b+t.size:Nat):Int))=(c:Int) - b:=aB;rw[e];congr 1;omega
mutual
def Tn.arH:∀(t:Tn) (b c:Nat),t.flat c=(t.flat b).map (Nd.up ((c:Int) - b))
 | .mk k o x y ks,b,c=>by rw[Tn.flat,Tn.flat,List.map_append,ank ks b c,arG ks b c];rfl
def ank:∀(ks:List Tn) (b c:Nat),tN ks c=(tN ks b).map (Nd.up ((c:Int) - b))
 |[],_,_=>rfl
 |t::ts,b,c=>by rw[tN,tN,List.map_append,t.arH b c,ank ts (b+t.size) (c+t.size)];have e:(((c+t.size:Nat):Int) - ((b+t.size:Nat):Int))=(c:Int) - b:=aB;rw[e]
end
def Lies(l:List Nd)(b:Nat)(t:Tn):Prop:=∃pre post,l=pre++(t.flat b++post)/\pre.length=b
def Lies.whole(t:Tn):Lies (t.flat 0) 0 t:=⟨[],[],by simp,rfl⟩
def Lies.root{l:List Nd}{b:Nat}{k o:Int}{x y:List UInt8}{ks:List Tn}(h:Lies l b (.mk k o x y ks)):l[b+sizes ks]? =some ⟨k,o,x,y,ends ks b⟩:=by obtain⟨pre,post,rfl,rfl⟩:=h;rw[Tn.flat,List.getElem?_append_right aB,Nu,List.getElem?_append_right (by rw[yc];omega),yc];simp
def Lies.kid{l:List Nd}{b:Nat}{k o:Int}{x y:List UInt8}{a c:List Tn}{t:Tn}(h:Lies l b (.mk k o x y (a++t::c))):Lies l (b+sizes a) t:=by obtain⟨pre,post,rfl,rfl⟩:=h;refine⟨pre++tN a pre.length,tN c (pre.length+sizes a+t.size)++[⟨k,o,x,y,ends (a++t::c) pre.length⟩]++post, ?_,by rw[Au,yc]⟩;rw[Tn.flat,Xf,tN];simp only[Nu]
def Lies.lt{l:List Nd}{b:Nat}{t:Tn}(h:Lies l b t):b+t.size<=l.length:=by obtain⟨pre,post,rfl,rfl⟩:=h;simp only[Au,t.flat_length];omega
def Lies.part{l:List Nd}{b:Nat}{t:Tn}(h:Lies l b t):(l.drop b).take t.size=t.flat b:=by obtain⟨pre,post,rfl,rfl⟩:=h;rw[List.drop_left,<-t.flat_length pre.length,List.take_left]
def mF(st:List Int):List Int->Int->Option Int
 |[],at_=>some at_
 |k::ks,at_=>if at_<0\/k≠at_ then none else mF st ks ((st[k.toNat]?.getD 0) - 1)
def kR:List Int->List (List Int)->Option (List Int)
 |st,[]=>some st
 |st,n::l=>match mF st n.reverse ((st.length:Int) - 1) with
  |none=>none
  |some at_=>kR (st++[at_+1]) l
def Jq(l:List (List Int)):Option (List Int):=if 1<=l.length/\l.length<=400 then kR [] l else none
def ks(l:List Nd):List (List Int):=l.map (·.kids)
def Ua(l:List Nd):Bool:=match Jq (ks l) with
 |none=>false
 |some st=>st[l.length - 1]?.getD 0==0
def Qk(l:List Nd):(ks l).length=l.length:=by simp[ks]
def ath(a b:List Nd):ks (a++b)=ks a++ks b:=by simp[ks]
mutual
def Tn.sts:Tn->Nat->List Int
 | .mk _ _ _ _ ks,b=>UE ks b++[(b:Int)]
def UE:List Tn->Nat->List Int
 |[],_=>[]
 |t::ts,b=>t.sts b++UE ts (b+t.size)
end
mutual
def Tn.ahT:∀(t:Tn) (b:Nat),(t.sts b).length=t.size
 | .mk _ _ _ _ ks,b=>by rw[Tn.sts,Tn.size,Au,Ri ks b];rfl
def Ri:∀(ks:List Tn) (b:Nat),(UE ks b).length=sizes ks
 |[],_=>rfl
 |t::ts,b=>by rw[UE,sizes,Au,t.ahT b,Ri ts]
end
def Tn.ahU:∀(t:Tn) (b:Nat),∃u,t.sts b=u++[(b:Int)]/\u.length=t.size - 1
 | .mk _ _ _ _ ks,b=>⟨UE ks b,by rw[Tn.sts],by rw[Ri,Tn.size];omega⟩
def ati{st:List Int}{b:Nat}(hb:st.length=b):∀(ks:List Tn) (u:List Int),mF (st++UE ks b++u) (ends ks b).reverse ((b:Int)+sizes ks - 1)=some ((b:Int) - 1):=by
 intro ks;induction hn:ks.length generalizing ks with
 |zero=>intro u;have:ks=[]:=List.length_eq_zero_iff.1 hn;subst this;simp[ends,mF,sizes]
 |succ n ih=>
  intro u;obtain⟨ts,t,rfl⟩:∃ts t,ks=ts++[t]:=by
   have hne:ks≠[]:=by intro e;simp[e] at hn
   exact⟨ks.dropLast,ks.getLast hne,(List.dropLast_concat_getLast hne).symm⟩
  have hp:=t.size_pos;have hss:UE (ts++[t]) b=UE ts b++t.sts (b+sizes ts):=by
   have:∀(ts:List Tn) (b:Nat),UE (ts++[t]) b=UE ts b++t.sts (b+sizes ts):=by
    intro ts;induction ts with
    |nil=>intro b;simp[UE,sizes]
    |cons v vs ihv=>intro b;rw[zca,UE,UE,ihv,sizes,Nu,Nat.add_assoc]
   exact this ts b
  have hsz:sizes (ts++[t])=sizes ts+t.size:=by rw[nI,sizes,sizes];omega
  rw[Yw,List.reverse_append,ends,ends,List.reverse_singleton,List.singleton_append,mF,hsz];have hn':¬((b:Int)+((sizes ts+t.size:Nat):Int) - 1<0\/((b+sizes ts:Nat):Int)+t.size - 1≠(b:Int)+((sizes ts+t.size:Nat):Int) - 1):=aB;rw[if_neg hn'];obtain⟨w,hw,hwl⟩:=t.ahU (b+sizes ts);have hget:(st++UE (ts++[t]) b++u)[(((b+sizes ts:Nat):Int)+t.size - 1).toNat]? =some ((b+sizes ts:Nat):Int):=by
   rw[hss,hw];have e:(((b+sizes ts:Nat):Int)+t.size - 1).toNat=(st++UE ts b++w).length:=by simp only[Au,hb,Ri,hwl];omega
   rw[e,show st++(UE ts b++(w++[((b+sizes ts:Nat):Int)]))++u=(st++UE ts b++w)++(((b+sizes ts:Nat):Int)::u) by simp,List.getElem?_append_right (Nat.le_refl _)];simp
  rw[hget,Option.getD_some,hss,show st++(UE ts b++t.sts (b+sizes ts))++u=st++UE ts b++(t.sts (b+sizes ts)++u) by simp];have:=ih ts (by simpa using hn) (t.sts (b+sizes ts)++u);rw[<-this];congr 1
mutual
def Tn.Yx:∀(t:Tn) (st:List Int) (l:List Nd),kR st (ks (t.flat st.length++l))=kR (st++t.sts st.length) (ks l)
 | .mk k o x y us,st,l=>by rw[Tn.flat,Nu,adW us st];have e:ks ([⟨k,o,x,y,ends us st.length⟩]++l)=ends us st.length::ks l:=rfl;have hw:=ati (st:=st) rfl us [];rw[List.append_nil] at hw;rw[e,kR,Au,Ri,Int.natCast_add,hw,Tn.sts];simp only;rw[Nu];congr 3;simp
def adW:∀(us:List Tn) (st:List Int) (l:List Nd),kR st (ks (tN us st.length++l))=kR (st++UE us st.length) (ks l)
 |[],st,l=>by simp[tN,UE]
 |t::us,st,l=>by rw[tN,Nu,t.Yx st];have:=adW us (st++t.sts st.length) l;rw[Au,t.ahT] at this;rw[this,UE,Nu]
end
def afX(t:Tn):kR [] (ks (t.flat 0))=some (t.sts 0):=by have:=t.Yx [] [];simpa[ks,kR] using this
def Lies.sts{l:List Nd}{t:Tn}(hl:l=t.flat 0){b:Nat}{u:Tn}(h:Lies l b u):(t.sts 0)[b+u.size - 1]? =some (b:Int):=by
 obtain⟨pre,post,e,hb⟩:=h;have h0:=afX t;rw[<-hl,e,ath] at h0;have key:∀(a c:List (List Int)) (st r:List Int),kR st (a++c)=some r->∃m,kR st a=some m/\kR m c=some r/\m.length=st.length+a.length:=by
  intro a;induction a with
  |nil=>intro c st r h;exact⟨st,rfl,h,by simp⟩
  |cons x a ih=>
   intro c st r h;rw[zca,kR] at h;rw[kR];split at h
   ·cases h
   ·obtain⟨m,k1,k2,k3⟩:=ih c _ r h;exact⟨m,k1,k2,by rw[k3];simp;omega⟩
 obtain⟨m,k1,k2,k3⟩:=key _ _ _ _ h0;have hm:m.length=b:=by rw[k3,Qk,hb];simp
 subst hm;rw[u.Yx m post] at k2;have pref:∀(a:List (List Int)) (st r:List Int),kR st a=some r->∃w,r=st++w:=by
  intro a;induction a with
  |nil=>intro st r h;cases h;exact⟨[],by simp⟩
  |cons x a ih=>
   intro st r h;rw[kR] at h;split at h
   ·cases h
   ·obtain⟨w,hw⟩:=ih _ r h;exact⟨_,by rw[hw,Nu]⟩
 obtain⟨w,hw⟩:=pref _ _ _ k2;obtain⟨v,hv,hvl⟩:=u.ahU m.length;have hp:=u.size_pos;rw[hw,hv,show m++(v++[(m.length:Int)])++w=(m++v)++((m.length:Int)::w) by simp,show m.length+u.size - 1=(m++v).length by rw[Au,hvl];omega,List.getElem?_append_right (Nat.le_refl _)];simp
def V5(w:Bool):∀ts:List Tn,dN w ts=ts.map (Tn.row w)
 |[]=>rfl
 |t::ts=>by rw[dN,V5 w ts];rfl
mutual
def aCu(w:Bool):∀t:Tn,Jj (t.row w)=t.row false
 | .mk k o x y ts=>by have:=iW w ts;simp only[Tn.row,Jj,D.fz,this]
def iW(w:Bool):∀ts:List Tn,ak (dN w ts)=dN false ts
 |[]=>rfl
 |t::ts=>by rw[dN,ak,aCu w t,iW w ts,dN]
end
end Go.Vm
namespace Go.Vm
open Go
open Go.IntKind (i64)
mutual
def tyD(P:Program):Nat->TypeId->Row->Prop
 |0,_,_=>False
 |n+1,t,row=>match P.underlying t with
  |some .bool=>∃b,row=[.bool b]
  |some (.int k)=>∃x,row=[.int k x]/\(Lit.int k x).wf=true
  |some .string=>∃s,row=[.str s]/\s.length<=maxLen
  |some (.slice e)=>∃rows,row=[.sl false (nN P e) rows]/\rows.length<=maxLen/\∀r,r∈rows->tyD P n e r
  |some (.struct fs)=>avS P n fs.toList row
  |_=>False
def avS(P:Program):Nat->List Field->Row->Prop
 |_,[],row=>row=[]
 |n,f::fs,row=>∃r1 r2,row=r1++r2/\tyD P n f.type r1/\avS P n fs r2
end
def aeQ(P:Program):Nat->List Field->Option Nat
 |o,[]=>some o
 |o,f::fs=>bif Nat.beq f.offset o then aeQ P (o+P.cellsOf f.type) fs else none
def afY(P:Program):Nat->TypeId->Bool
 |0,_=>false
 |n+1,t=>match P.underlying t with
  |some .bool|some (.int _)|some .string=>true
  |some (.slice e)=>afY P n e && Nat.ble 1 (nN P e)
  |some (.struct fs)=>(match aeQ P 0 fs.toList with|some o=>Nat.beq o (P.cellsOf t)|none=>false) && fs.toList.all λf=>afY P n f.type
  |_=>false
def atj(P:Program)(t:TypeId):nN P t=P.cellsOf t:=by unfold nN Program.cellsOf;cases P.info? t<;>rfl
def ahV{α β:Type}{f:α->Option β}:∀{l:List α} {r:List β},l.mapM f=some r->r.length=l.length/\∀(i:Nat) x,l[i]? =some x->∃y,f x=some y/\r[i]? =some y
 |[],r,h=>by simp at h;subst h;exact⟨rfl,λi x h=>by simp at h⟩
 |a::l,r,h=>by
  rw[List.mapM_cons] at h;simp only[Option.bind_eq_bind,Option.bind_eq_some_iff,Option.pure_def,iF] at h;obtain⟨y,h1,r',h2,rfl⟩:=h;obtain⟨h3,h4⟩:=ahV h2;refine⟨by simp[h3],λi x hx=> ?_⟩;cases i with
  |zero=>simp only[List.getElem?_cons_zero,iF] at hx;subst hx;exact⟨y,h1,rfl⟩
  |succ i=>simpa using h4 i x (by simpa using hx)
def arI{α:Type}{p:Nat->α->Prop}:∀(n k:Nat),(∀i,i<n->∃x,p (k+i) x)->∃l:List α,l.length=n/\∀(i:Nat) x,l[i]? =some x->p (k+i) x
 |0,_,_=>⟨[],rfl,λi x h=>by simp at h⟩
 |n+1,k,h=>by
  obtain⟨x,hx⟩:=h 0 aB;obtain⟨l,h1,h2⟩:=arI n (k+1) (λi hi=>by
   have:=h (i+1) aB
   rwa [show k+(i+1)=k+1+i by omega] at this)
  refine⟨x::l,by simp[h1],λi y hy=> ?_⟩;cases i with
  |zero=>simp only[List.getElem?_cons_zero,iF] at hy;subst hy;exact hx
  |succ i=>
   have:=h2 i y (by simpa using hy)
   rwa [show k+1+i=k+(i+1) by omega] at this
def anl{h:View}:∀(r:Row) (b o:Nat) (cs:List Value),(∀(j:Nat) v,cs[j]? =some v->h b (o+j)=some v)->jf h r cs->Dy h r b o
 |[],_,_,_,_,_=>trivial
 |x::r,b,o,cs,hc,⟨v,cs',e,h1,h2⟩=>by
  subst e;exact⟨⟨v,by simpa using hc 0 v rfl,h1⟩,anl r b (o+1) cs' (λj u hj=>by
   have:=hc (j+1) u (by simpa using hj)
   rwa [show o+(j+1)=o+1+j by omega] at this) h2⟩
def aku{h:View}{s b:Nat}:∀(rs:List Row) (o:Nat),(∀(i:Nat) r,rs[i]? =some r->r.length=s/\Dy h r b (o+i * s))->rG h s rs b o
 |[],_,_=>trivial
 |r::rs,o,hr=>by
  obtain⟨h1,h2⟩:=hr 0 r rfl;refine⟨h1,by simpa using h2,aku rs (o+s) λi q hq=> ?_⟩;obtain⟨h3,h4⟩:=hr (i+1) q (by simpa using hq);refine⟨h3, ?_⟩
  rwa [show o+(i+1) * s=o+s+i * s by rw[Nat.succ_mul];omega] at h4
def afZ{h:View}:∀{r1 r2:Row} {c1 c2:List Value},jf h r1 c1->r1.length=c1.length->jf h r2 c2->jf h (r1++r2) (c1++c2)
 |[],r2,c1,c2,_,hl,h2=>by have:c1=[]:=List.length_eq_zero_iff.1 hl.symm;subst this;exact h2
 |x::r1,r2,_,c2,⟨v,cs',e,h1,h3⟩,hl,h2=>by subst e;exact⟨v,cs'++c2,rfl,h1,afZ h3 (by simpa using hl) h2⟩
def ahW{w:World}{base:Nat}{a:Addr}{n:Nat}{cs:List Value}(h:w.cells? base a n=some cs):cs.length=n/\∀j,j<n->∃v,w.cell? (a.add j)=some v/\cs[j]? =some v:=by
 unfold World.cells? at h;split at h
 ·obtain⟨h1,h2⟩:=ahV h;rw[List.length_range] at h1;refine⟨h1,λj hj=> ?_⟩;exact h2 j j (by simp[hj])
 ·cases h
section
variable {H:Type} {enc:TypeId×Value->H} {P:Program} {w:World} {base:Nat} {spare:Nat->Bool} {held:Bool}
def akv{n:Nat}(ih:∀(t:TypeId) (cs:List Value) (d:DataW H) (ps:List MemPlace),afY P n t=true->DataW.trod enc P w base spare held n t cs=some (d,ps)->∃row:Row,row.length=cs.length/\tyD P n t row/\jf (full w) row cs):
  ∀(fs:List Field) (o tot:Nat) (cs:List Value) (xs:List (DataW H×List MemPlace)),aeQ P o fs=some tot->(fs.all λf=>afY P n f.type)=true->tot<=cs.length->
   fs.mapM (λf=>DataW.trod enc P w base spare held n f.type ((cs.drop f.offset).take (P.cellsOf f.type)))=some xs->
   ∃row:Row,row.length=tot - o/\o<=tot/\avS P n fs row/\jf (full w) row ((cs.drop o).take (tot - o))
 |[],o,tot,cs,xs,hc,_,_,_=>by simp only[aeQ,iF] at hc;subst hc;exact⟨[],by simp,Nat.le_refl _,by simp[avS],trivial⟩
 |f::fs,o,tot,cs,xs,hc,hg,hle,hm=>by
  simp only[aeQ] at hc;cases hb:Nat.beq f.offset o with
  |false=>simp[hb] at hc
  |true=>
   simp only[hb,aI] at hc;have hbo:=Dl hb;simp only[List.all_cons,Ji] at hg;rw[List.mapM_cons] at hm;simp only[Option.bind_eq_bind,Option.bind_eq_some_iff,Option.pure_def,iF] at hm;obtain⟨y,h1,ys,h2,rfl⟩:=hm;obtain⟨aET,l2,le2,t2,s2⟩:=akv ih fs _ tot cs ys hc hg.2 hle h2;obtain⟨aEU,l1,t1,s1⟩:=ih _ _ y.1 y.2 hg.1 h1;rw[hbo] at l1 s1;have hl:((cs.drop o).take (P.cellsOf f.type)).length=P.cellsOf f.type:=by simp;omega
   rw[hl] at l1;refine⟨aEU++aET,by simp[l1,l2];omega,aB,by simp only[avS];exact⟨aEU,aET,rfl,t1,t2⟩, ?_⟩;have e:(cs.drop o).take (tot - o)=(cs.drop o).take (P.cellsOf f.type)++(cs.drop (o+P.cellsOf f.type)).take (tot - (o+P.cellsOf f.type)):=by rw[<-List.drop_drop,show tot - o=P.cellsOf f.type+(tot - (o+P.cellsOf f.type)) by omega,List.take_add]
   rw[e];exact afZ s1 (by rw[l1,hl]) s2
def alW:∀(n:Nat) (t:TypeId) (cs:List Value) (d:DataW H) (ps:List MemPlace),afY P n t=true->DataW.trod enc P w base spare held n t cs=some (d,ps)->
  ∃row:Row,row.length=cs.length/\tyD P n t row/\jf (full w) row cs
 |0,t,cs,d,ps,hg,_=>by simp[afY] at hg
 |n+1,t,cs,d,ps,hg,h=>by
  simp only[afY] at hg;unfold DataW.trod at h;cases hu:P.underlying t with
  |none=>simp[hu] at hg
  |some D=>
   rw[hu] at hg h;cases D with
   |bool=>split at h<;>simp_all;rename_i b;exact⟨[.bool b],by simp,by simp[tyD,hu],_,_,rfl,rfl,trivial⟩
   |int k=>split at h<;>simp_all;rename_i k' x _;obtain⟨⟨rfl,hw⟩,_⟩:=h;refine⟨[.int _ x],by simp, ?_,_,_,rfl,rfl,trivial⟩;simp only[tyD,hu];exact⟨x,rfl,hw⟩
   |string=>
    split at h<;>simp_all;rename_i s;refine⟨[.str s.data.toList],by simp, ?_,_,_,rfl, ?_,trivial⟩
    ·simp only[tyD,hu];refine⟨_,rfl, ?_⟩;simpa using h.1
    ·simp[ro]
   |slice e=>
    simp only[Ji] at hg;split at h
    all_goals first
     |(rename_i e1;cases e1;done)
     |(cases h;done)
     |(exfalso;rename_i h21 _ _ _ _ _ _ _ _ _ _ _ _ _ _ _ _ _ _ _;exact h21 _ rfl)
     |skip
    case h_7=>
     rename_i e1;refine⟨[.sl false (nN P e) []],rfl, ?_,_,_,rfl, ?_,trivial⟩
     ·simp only[tyD,hu];exact⟨[],rfl,by simp,λr hr=>by simp at hr⟩
     ·simp only[ro];exact⟨none,0,rfl,by simp,λhn=>absurd rfl hn⟩
    case h_8=>
     rename_i _ e' a len cap e1;cases e1;split at h
     ·rename_i hb;rw[Option.bind_eq_some_iff] at h;obtain⟨elems,hel,_⟩:=h;obtain⟨hl,hget⟩:=ahV hel;rw[List.length_range] at hl;have hs:=atj P e;have hpos:1<=P.cellsOf e:=by rw[<-hs];exact Nat.le_of_ble_eq_true hg.2
      have hrow:∀i,i<len->∃r:Row,tyD P n e r/\r.length=nN P e/\a.spot=none/\Dy (full w) r a.block (a.off+i * nN P e):=by
       intro i hi;obtain⟨y,hy,_⟩:=hget i i (by simp[hi]);rw[Option.bind_eq_some_iff] at hy;obtain⟨cs,hcs,hy⟩:=hy;obtain⟨row,l1,t1,s1⟩:=alW n e cs y.1 y.2 hg.1 hy;obtain⟨hcl,hcg⟩:=ahW hcs;refine⟨row,t1,by rw[l1,hcl,hs], ?_, ?_⟩
       ·obtain⟨y0,hy0,_⟩:=hget 0 0 (List.getElem?_range aB);rw[Option.bind_eq_some_iff] at hy0;obtain⟨cs0,hcs0,_⟩:=hy0;obtain⟨u,hu1,_⟩:=(ahW hcs0).2 0 aB;simpa[Addr.add] using World.cell?_spot hu1
       ·refine anl row a.block _ cs (λj v hj=> ?_) s1;have hjn:j<P.cellsOf e:=by have:=(VG.1 hj).1;omega
        obtain⟨u,hu1,hu2⟩:=hcg j hjn;rw[hu2] at hj;cases hj;have hsp:=World.cell?_spot hu1;have e2:((a.add (i * P.cellsOf e)).add j)=⟨a.block,a.off+i * nN P e+j,none⟩:=by
         rw[hs];generalize i * P.cellsOf e=q at hsp|-;obtain⟨ab,ao,as_⟩:=a;rcases Nat.eq_zero_or_pos q with h1|h1<;>rcases Nat.eq_zero_or_pos j with h2|h2
         ·subst h1;subst h2;have:as_=none:=hsp;subst this;rfl
         ·subst h1;simp[Addr.add,show j≠0 by omega]
         ·subst h2;simp[Addr.add,show q≠0 by omega]
         ·simp[Addr.add,show q≠0 by omega,show j≠0 by omega]
        rw[e2] at hu1;exact hu1
      obtain⟨rows,r1,r2⟩:=arI (p:=λi (r:Row)=>tyD P n e r/\r.length=nN P e/\a.spot=none/\Dy (full w) r a.block (a.off+i * nN P e)) len 0 (λi hi=>by rw[Nat.zero_add];exact hrow i hi);refine⟨[.sl false (nN P e) rows],rfl, ?_,_,_,rfl, ?_,trivial⟩
      ·simp only[tyD,hu];refine⟨rows,rfl,aB,λr hr=> ?_⟩;obtain⟨i,hi⟩:=List.getElem?_of_mem hr;exact(r2 i r hi).1
      ·simp only[ro];refine⟨some a,cap,by rw[r1],aB,λhn=> ?_⟩;have h0:∃r0,rows[0]? =some r0:=by
        cases rows with
        |nil=>exact absurd rfl hn
        |cons r0 _=>exact⟨r0,rfl⟩
       obtain⟨r0,h0⟩:=h0;have hsp:=(r2 0 r0 h0).2.2.1;refine⟨a.block,a.off, ?_,aku rows a.off λi r hr=> ?_⟩
       ·obtain⟨ab,ao,as_⟩:=a;simp only at hsp;subst hsp;rfl
       ·obtain⟨_,h2,_,h4⟩:=r2 i r hr;rw[Nat.zero_add] at h4;exact⟨h2,h4⟩
     ·cases h
   |struct fs=>
    simp only[Ji] at hg;split at h
    all_goals first
     |(rename_i e1;cases e1;done)
     |(cases h;done)
     |(exfalso;rename_i h21 _ _ _ _ _ _ _ _ _ _ _ _ _ _ _ _ _ _ _;exact h21 _ rfl)
     |skip
    case h_9=>
     rename_i _ fs' cs' e1;cases e1;split at h
     ·rename_i hcl;rw[Option.map_eq_some_iff] at h;obtain⟨xs,hxs,_⟩:=h;cases hc:aeQ P 0 fs.toList with
      |none=>simp[hc] at hg
      |some tot=>simp only[hc] at hg;have htot:=Dl hg.1;obtain⟨row,l1,_,t1,s1⟩:=akv (λt cs d ps hg h=>alW n t cs d ps hg h) fs.toList 0 tot _ xs hc hg.2 aB hxs;refine⟨row,by rw[l1];omega,by simp only[tyD,hu];exact t1, ?_⟩;simpa[htot,<-hcl] using s1
     ·cases h
   |_=>simp at hg
end
end Go.Vm
namespace Go.Vm
open Go Go.RowKit
open Go.IntKind (i64)
def akw{A:Adv}{f:Nat}(hm:A.move f=[]){μ:Nat->Value}{m:Mem}{H:Heap}{h:View}:∀{vs:List V} {gs:List Value} (i:Nat),dL μ m h vs gs->TJ A f μ m H h i vs gs []
 |[],gs,i,q=>by simp only[dL] at q;simp only[TJ];exact⟨q,trivial⟩
 |v::vs,gs,i,q=>by
  simp only[dL] at q;obtain⟨g,gs',rfl,h1,h2⟩:=q;simp only[TJ];refine⟨g,gs',[],[],rfl,rfl, ?_,akw hm (i+1) h2⟩;split
  ·rename_i hmo;simp only[Lc,hm,mem?,aX] at hmo;cases hr:mem? i (A.ref f)<;>cases hr2:mem? i (A.raw f)<;>cases hr3:mem? i (A.look f)<;>simp[hr,hr2,hr3] at hmo
  ·exact⟨rfl,h1⟩
def atl{X:Ctx}(hp:alH X){f:Nat}{fn:Func}{t:TypeId}{args:List V}{gargs:List Value}{w:World}(hf:X.P.funcs[f]? =some fn)(hb:fn.body.isSome=true)(hr:fn.resultTypes=#[t])(ht:Qb X.P t=false)(hm:X.PS.move f=[])(hgl:afv X (full w))(htb:asE X w)
  (hs:dL (impμ []) [] (full w) args gargs) (h:call X f args []=some ([[.bool true]],[])):
  Calls X.P f gargs.toArray w λe w'=>e=.returned (.bool true)/\Below w.heap.size w w':=by
 have hG:Given X 0 (λ_=>True) w f args [] gargs [] [] []:=by
  have hv:(full w).le (view w (λ_=>True) (· ∈([]:List Nat)++[])):=by intro b o v h;exact agT trivial (by simp) h
  refine⟨by simp,by simp,λ_ _=>trivial,Nat.zero_le _, ?_,⟨rfl,rfl⟩,Jm hv hgl,htb⟩;exact VN (uK _ _) hv (λ_ _=>rfl) (akw (H:=dO w) hm 0 hs)
 refine(azp hp f fn args [] [[.bool true]] [] hf hb h 0 (λ_=>True) w gargs [] [] [] hG).mono ?_;rintro e w' ⟨gs,M1,M2,rfl,D⟩;have hres:=D.res;rw[hr] at hres;simp only[XC] at hres;obtain⟨row,rows',g,gs',cs,N1,N2,e1,e2,_,hv,ho,hl,e3,e4,_⟩:=hres;simp only[List.cons.injEq] at e1;obtain⟨rfl,rfl⟩:=e1;subst e4;subst e2;simp only[valOf,ht,Bool.false_eq_true,if_false] at hv;subst hv;simp only[jq,ow] at ho;obtain⟨v,cs',N1,N2,e5,_,⟨rfl,_⟩,_⟩:=ho;simp only[List.cons.injEq] at e5;obtain⟨rfl,_⟩:=e5;refine⟨rfl,⟨D.keep.os,D.keep.tape,D.keep.output,D.keep.size,λk hk=>D.keep.block k hk (by simp)⟩⟩
section
variable {H:Type} {enc:TypeId×Value->H} {P:Program} {w:World} {base:Nat} {spare:Nat->Bool} {held:Bool} {t:TypeId} {v:Value} {d:DataW H} {ps:List MemPlace}
def azx{μ:Nat->Value}{m:Mem}(h:DataW.Trod enc P w base spare held t v d ps)(hg:∀n,afY P (n+8) t=true)(hv:v.cells.toList=[v]):
  ∃n x,tyD P (n+8) t [x]/\bn μ m (full w) (.d x) v:=by
 obtain⟨n,hn⟩:=h;have hn':DataW.trod enc P w base spare held (n+8) t v.cells.toList=some (d,ps):=DataW.trod_le (Nat.le_add_right n 8) hn;obtain⟨row,hl,ht,hs⟩:=alW (n+8) t _ d ps (hg n) hn';rw[hv] at hl hs;cases row with
 |nil=>simp at hl
 |cons x r=>
  cases r with
  |cons _ _=>simp at hl
  |nil=>obtain⟨u,cs',e,h1,_⟩:=hs;simp only[List.cons.injEq] at e;obtain⟨rfl,_⟩:=e;exact⟨_,x,ht,by simpa[bn] using h1⟩
end
section
variable {P:Program} {n:Nat} {t:TypeId} {row:Row}
def azy(hu:P.underlying t=some .string)(h:tyD P (n+1) t row):∃s,row=[.str s]/\s.length<=maxLen:=by simpa[tyD,hu] using h
end
end Go.Vm
namespace Go.Vm
open Go
open Go.IntKind (i64)
section
variable {H:Type} {enc:TypeId×Value->H}
def ahX{a:Assume}{C:Checked}{os:Os}{f:FuncId}{fn:Func}{s:ChangeSpec}{conds:List PathCond}{apart fresh handsOn again:Bool}{X:World->Array Value->Prop}
  (hX:∀(w w':World) (args:Array Value),w.heap=w'.heap->X w args->X w' args)
  (own:ownKnob C.prog.godebug=none) (started:os.Started) (noInit:C.prog.inits.idxOf? f=none) (hfn:C.prog.funcs[f]? =some fn)
  (witness:∃(w:World) (tape:Tape) (i:Input),w.os=os/\(w.forCall tape i).Shaped C.prog/\i.vars=[]/\Input.okWide C.prog (w.forCall tape i) .any w.heap.size f i/\
   ((s.pre enc C.prog fn conds apart (w.forCall tape i).memory i.args/\X (w.forCall tape i).memory i.args)/\sizedMet enc C.prog fn (OpenSpec.ofChange s) apart (w.forCall tape i).memory i.args)/\a.holds C.prog (lone (Frame.enter C.prog f i.args .normal) [] (w.forCall tape i)))
  (contract:∀(W:World) (base:Nat) (args:Array Value) (ds gs:List (DataW H)) (before:List MemPlace),
   (∀(j:Nat) t v,fn.params[j]? =some t->args[j]? =some v->Value.okWide C.prog W .any base t v)->
   DataW.Whole enc C.prog fn.params.toList s.vars apart W args.toList ds gs before->X W args->W.ShapedOpen C.prog->
   Calls C.prog f args W λe W'=>∃v,e=.returned v/\s.post enc C.prog fn apart fresh handsOn again W args v W'):
  ReturnsInHanded a C os f .any (λw args=>(s.pre enc C.prog fn conds apart w args/\X w args)/\sizedMet enc C.prog fn (OpenSpec.ofChange s) apart w args) (s.post enc C.prog fn apart fresh handsOn again):=by
 refine returnsInHanded_of_calls own started noInit witness ?_;rintro w tape i _ shp _ ⟨_,_,_,g,hg,_,_,_,_,val⟩ ⟨⟨⟨ds,gs,before,whole,_⟩,hx⟩,_⟩ _;have e:g=fn:=Option.some.inj (hg.symm.trans hfn);rw[e] at val;have c:=contract (w.forCall tape i) w.heap.size i.args ds gs before val (DataW.Whole.of_heap (w':=w.forCall tape i) (by rfl) whole) (hX _ _ _ (by rfl) hx) shp;refine c.mono ?_;rintro e W' ⟨v,rfl,hp⟩;exact ChangeSpec.post_blind hp
end
def aMS:DataW Unit->Value
 | .lit (.int k n)=> .int k n
 | .lit (.bool b)=> .bool b
 | .lit (.string b)=> .string ⟨b.toArray⟩
 |_=> .tuple #[]
def akx:Nat->DataW Unit->List Value
 |0,_=>[]
 |n+1,d=>match d with
  | .agg ds=>ds.flatMap (akx n)
  |d=>[aMS d]
def aEV(h:Array Obj)(g:Nat)(d:DataW Unit):Array Obj:=h.modify g λo=>match o with
 | .cells _ t fr=> .cells (akx 4 d).toArray t fr
 |o=>o
def layAll(h:Array Obj):List (Nat×DataW Unit)->Array Obj
 |[]=>h
 |(g,d)::l=>layAll (aEV h g d) l
noncomputable def laidWorld(P:Program)(l:List (Nat×DataW Unit))(os:Os):World:=
 let w:=World.holding P os ⟨#[],#[],[]⟩
 {w with heap:=layAll w.heap l}
def anm{h:View}{g:Nat}:∀(row:Row) (o:Nat),(∀(j:Nat) x,row[j]? =some x->∃v,h g (o+j)=some v/\ro h x v)->Dy h row g o
 |[],_,_=>trivial
 |x::row,o,q=>⟨by simpa using q 0 x rfl,anm row (o+1) λj y hj=>by
   have:=q (j+1) y (by simpa using hj)
   rwa [show o+(j+1)=o+1+j by omega] at this⟩
def aeR{P:Program}{w:World}{nm:String}{g t e n fuel:Nat}{cs:Array Value}{ss:List (List UInt8)}{p:List MemPlace}(hu:P.underlying t=some (.array n e))(he:P.underlying e=some .string)(hc:P.cellsOf e=1)
  (hg:P.globalNamed nm=some g) (hv:w.var? P nm=some cs) (h:DataW.trod (λ_=>()) P w 0 (λ_=>true) false fuel t cs.toList=some (.agg (ss.map λs=> .lit (.string s)),p)):Dy (full w) (ss.map D.str) g 0:=by
 obtain⟨xs,m,rfl,hx,hcl,hxl,hel⟩:=DataW.trod_array hu h;simp only[jQ,DataW.agg.injEq] at hx;refine anm _ 0 λj x hj=> ?_
 rw[List.getElem?_map] at hj;cases hs:ss[j]? with
 |none=>rw[hs] at hj;cases hj
 |some s=>
  rw[hs] at hj;cases hj;have hjl:j<ss.length:=(VG.1 hs).1;have hlen:ss.length=xs.length:=by have:=congrArg List.length hx.1;simpa using this
  obtain⟨y,hy⟩:∃y,xs[j]? =some y:=⟨xs[j]'aB,by simp⟩
  have hh:=hel j aB;rw[hy] at hh;obtain⟨b,hb1,hb2,_⟩:=DataW.trod_string he hh;have hyx:y.1=.lit (.string s):=by have:=congrArg (λl=>l[j]?) hx.1;simp only[List.getElem?_map,hs,hy,KZ,iF] at this;exact this.symm
  rw[hb2] at hyx;simp only[DataW.lit.injEq,Lit.string.injEq] at hyx;rw[hc,Nat.mul_one] at hb1;have hcell:cs[j]? =some (.string b):=by have:=congrArg (λl=>l[0]?) hb1;simpa using this
  refine⟨.string b, ?_, ?_⟩
  ·have:=World.var?_cell hg hv j;rw[Nat.zero_add];show w.cell? ⟨g,j,none⟩=_;rw[this];exact hcell
  ·simp only[ro];rw[<-hyx]
end Go.Vm
