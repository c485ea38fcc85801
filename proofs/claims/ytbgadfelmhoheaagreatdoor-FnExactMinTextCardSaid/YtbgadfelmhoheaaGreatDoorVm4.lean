import Derived.Test.YtbgadfelmhoheaaGreatDoorVm3
import Derived.IntWalk
import Derived.ChangeShapes
import Derived.ChangeOld
import Derived.Carry
import Derived.WideShapes
import Derived.ProofKit
import Derived.Handed
import Derived.LaidLaws
import Derived.LaidHandle
import Derived.Shelf.Vars
import Derived.OpenShut
import Derived.ChangeArms
import Derived.LaidMore
set_option linter.defProp false
set_option linter.unusedVariables false
set_option linter.unusedSimpArgs false
namespace Go.Vm
open Go
open Go.IntKind (i64)
section
variable {base:Nat} {U:Nat->Prop} {w:World} {X:Ctx} {P:Program}
def alS(tmps:Array Value):ResultVar->Sem Value
 | .tmp t=>pure (tmps.getD t undef)
 | .cell a t=>do loadVar t (<-asAddr (tmps.getD a undef))
def aax{α:Type}(f:α->Sem Value):∀(l:List α) (gs:List Value),(∀(i:Nat) x,l[i]? =some x->∃g,gs[i]? =some g∧(f x).run P w=.ok g w)->l.length=gs.length->(l.mapM f).run P w=.ok gs w
 |[],gs,_,hl=>by have:gs=[]:=List.length_eq_zero_iff.1 hl.symm;subst this;rfl
 |x::l,gs,h,hl=>by
  cases gs with
  |nil=>simp at hl
  |cons g gs=>obtain⟨g',h1,h2⟩:=h 0 x rfl;simp only[List.getElem?_cons_zero,iI] at h1;subst h1;have ih:=aax f l gs (λi y hy=>by simpa using h (i+1) y (by simpa using hy)) (by simpa using hl);rw[List.mapM_cons];simp only[Sem.run_bind,h2,Result.andThen_ok,ih];rfl
def aeW{fn:Func}{tmps:Array Value}{gs:List Value}(h:∀(i:Nat) x,fn.results.toList[i]? =some x->∃g,gs[i]? =some g∧(alS tmps x).run P w=.ok g w)(hl:fn.results.toList.length=gs.length):
  (results fn tmps).run P w=.ok (abb gs) w:=by
 have hm:=aax (P:=P) (w:=w) (alS tmps) fn.results.toList gs h hl;have e:results fn tmps=(do
  let vs<-fn.results.mapM (alS tmps)
  pure (if h:vs.size=1 then vs[0] else .tuple vs)):=by
  unfold results
  first
   |rfl
   |(congr 1;done)
   |(congr 1;congr 1;done)
 rw[e,Array.mapM_eq_mapM_toList];simp only[map_eq_pure_bind,Sem.run_bind,hm,Result.andThen_ok,Sem.run_pure];congr 1;unfold abb;cases gs with
 |nil=>rfl
 |cons g gs=>cases gs with
  |nil=>simp
  |cons _ _=>simp
def auc{m:Mem}{G:GS}{tm:lD}{a:Act}{r:ResultVar}{t:TypeId}(hg:Ic base U w m G)(ho:G.out=[])(hT:ab8 G.μ m (Gh U w G) tm a){row:Row}{m':Mem}{l l':Log}(h:(alI P tm r t).run m l=some (row,m',l')):
  ∃G' N g cs,QX base U w m G m' G' N∧(alS a.tmps r).run P w=.ok g w∧valOf P t cs g∧jd (dA w) (Gh U w G') row cs N∧row.length=cs.length:=by
 cases r with
 |tmp x=>
  simp only[alI] at h;have hx:=WJ (P:=P) hT 0 (.tmp x);simp only[ev] at hx;have hgo:∀v:V,aO G.μ m (Gh U w G) v (a.eval (.tmp x))->Oi P t=false->(Q7 [v]).run m l=some (row,m',l')->
    ∃G' N g cs,QX base U w m G m' G' N∧(alS a.tmps (.tmp x)).run P w=.ok g w∧valOf P t cs g∧jd (dA w) (Gh U w G') row cs N∧row.length=cs.length:=by
   intro v hv ht h;obtain⟨G',N,t1,q1,hl⟩:=WG hg (vs:=[v]) (gs:=[a.eval (.tmp x)]) (by simp only[bV];exact⟨_,_,rfl,hv,rfl⟩) ho h;exact⟨G',N,a.eval (.tmp x),[a.eval (.tmp x)],t1,rfl,by simp[valOf,ht],q1,by rw[hl];rfl⟩
  cases ht:Oi P t with
  |true=>
   rw[ht] at h;cases hv:Xt x tm with
   |agg cs=>rw[hv] at h hx;simp only[aO] at hx;obtain⟨arr,e,hs⟩:=hx;obtain⟨G',N,t1,q1,hl⟩:=WG hg hs ho h;refine⟨G',N,_,arr.toList,t1,rfl, ?_,q1,by rw[hl,lF hs]⟩;simp only[valOf,ht,if_true];exact e
   |_=>rw[hv] at h;exact(au h).elim
  |false=>
   rw[ht] at h;cases hv:Xt x tm with
   |agg cs=>rw[hv] at h;exact(au h).elim
   |_=>rw[hv] at h hx;exact hgo _ hx ht h
 |cell y T=>
  simp only[alI] at h;have hx:=WJ (P:=P) hT 0 (.tmp y);simp only[ev] at hx;split at h
  ·rename_i r he;rw[he] at hx;replace h:=aj h;obtain⟨c,m2,l2,h2,h⟩:=h;rw[wZ] at h2;cases h2;cases hc:get r m with
   |none=>rw[hc] at h;exact(au h).elim
   |some c=>
    rw[hc] at h;cases c with
    |arr _ _ _ _ _=>exact(au h).elim
    |dead=>exact(au h).elim
    |JY _ _ _=>exact(au h).elim
    |pY _ _=>exact(au h).elim
    |box T' cs=>
     simp only at h;replace h:=aj h;obtain⟨_,m2,l2,h2,h⟩:=h;obtain⟨hck,rfl,rfl⟩:=dL h2;simp only[EU,Bool.or_eq_true] at hck;obtain⟨⟨hTt,hlen⟩,hok,hagg⟩:=hck;have hTt:=Ac hTt;have hlen:=Ac hlen;subst hTt;simp only[aO,hc] at hx;obtain⟨_,b,hμ,hg0⟩:=hx;obtain⟨b',arr,e1,e2,e3,e4⟩:=hg.cell r _ hc (by rw[ho];simp);rw[hμ] at e1;cases e1;obtain⟨G',N,t1,q1,hl⟩:=WG hg e3 ho h;have hal:=lF e3;obtain⟨g,hvg⟩:∃g,valOf P T arr.toList g:=by
      unfold valOf;cases ha:Oi P T with
      |true=>exact⟨_,rfl⟩
      |false=>
       have h1:cs.length=1:=by
        rcases hagg with h1|h1
        ·rw[ha] at h1;cases h1
        ·exact Ac h1
       cases hr:arr.toList with
       |nil=>rw[hr] at hal;simp[h1] at hal
       |cons g r=>
        cases r with
        |nil=>exact⟨g,rfl⟩
        |cons _ _=>rw[hr] at hal;simp[h1] at hal
     refine⟨G',N,g,arr.toList,t1, ?_,hvg,q1,by rw[hl,hal]⟩;have hrun:=Oo (P:=P) (w:=w) (t:=T) (b:=b) (off:=0) (cs:=arr.toList) (g:=g) hok (by rw[hal,hlen]) (by intro j v hj;have hH:w.heap[b]? =some (.cells arr T' (0,0)):=e2;simp only[World.cell?,hH,Nat.zero_add];simpa using hj) hvg;simp only[alS];have hg0:a.tmps.getD y undef=.pointer (some ⟨b,0,none⟩):=hg0;rw[hg0];simpa[Instr.loadAt,Instr.sureAddr,asAddr] using hrun
  ·exact(au h).elim
def ahi{tm:lD}{a:Act}:∀{rs:List ResultVar} {ts:List TypeId} {m:Mem} {G:GS} (_:Ic base U w m G) (_:G.out=[]) (_:ab8 G.μ m (Gh U w G) tm a) {rows:List Row} {m':Mem} {l l':Log}
  (_:(ZM P tm rs ts).run m l=some (rows,m',l')),∃G' N gs,QX base U w m G m' G' N∧(∀(i:Nat) x,rs[i]? =some x->∃g,gs[i]? =some g∧(alS a.tmps x).run P w=.ok g w)∧rs.length=gs.length∧
   VK P (dA w) (Gh U w G') ts rows gs N
 |[],[],m,G,hg,ho,hT,rows,m',l,l',h=>by simp only[ZM,run_pure,iI,jY] at h;obtain⟨rfl,rfl,rfl⟩:=h;exact⟨G,[],[],QX.same hg,λi x h=>by simp at h,rfl,rfl,rfl,rfl⟩
 |r::rs,t::ts,m,G,hg,ho,hT,rows,m',l,l',h=>by
  simp only[ZM] at h;replace h:=aj h;obtain⟨row,m1,l1,h1,h⟩:=h;replace h:=aj h;obtain⟨rows',m2,l2,h2,h⟩:=h;simp only[run_pure,iI,jY] at h;obtain⟨rfl,rfl,rfl⟩:=h;obtain⟨G1,N1,g,cs,t1,r1,v1,q1,e1⟩:=auc hg ho hT h1;obtain⟨G2,N2,gs,t2,r2,e2,q2⟩:=ahi t1.ok (t1.out.trans ho) (λt v hv=>⟨(hT t v hv).1,t1.le.aO (hT t v hv).2⟩) h2;refine⟨G2,N1++N2,g::gs,t1.trans t2, ?_,by simp[e2],row,rows',g,gs,cs,N1,N2,rfl,rfl,rfl,v1,Xx t2.le.view q1,e1,q2⟩;intro i x hx;cases i with
  |zero=>simp only[List.getElem?_cons_zero,iI] at hx;subst hx;exact⟨g,rfl,r1⟩
  |succ i=>simpa using r2 i x (by simpa using hx)
 |[],_::_,_,_,_,_,_,_,_,_,_,h=>(au h).elim
 |_::_,[],_,_,_,_,_,_,_,_,_,h=>(au h).elim
def aud{μ μ':Nat->Value}{r:Nat}{c c' d:Cell}(hc:sameKind c c)(h:LP μ μ' r c c')(k:sameKind c' d):μ' r=μ r∧sameKind c d:=by
 cases c<;>cases c'<;>cases d<;>simp only[sameKind,LP] at hc h k⊢
 ·exact⟨h.2,h.1.symm.trans k⟩
 ·obtain⟨a1,a2,a3,a4⟩:=k;obtain⟨b1,b2,b3⟩:=h;obtain⟨c1,_,_,_⟩:=hc;have:=b3 (c1.trans a1.symm);exact⟨this.1,c1,a2,b2.symm.trans a3,this.2.symm.trans a4⟩
 all_goals trivial
def akm{μ μ':Nat->Value}{m0 m1:Mem}(hle:Je μ m0 μ' m1):∀{rs:List Nat} {cs ds:List Cell},kinds m0 rs cs->kinds m1 rs ds->(∀c,c∈cs->sameKind c c)->(∀(i r:Nat) c,rs[i]? =some r->cs[i]? =some c->get r m0=some c)->rs.map μ'=rs.map μ∧asn cs ds
 |[],cs,ds,h,k,_,_=>by simp only[kinds] at h k;subst h;subst k;exact⟨rfl,rfl⟩
 |r::rs,cs,ds,⟨c,c',cs',e1,h1,h2,h3⟩,⟨d,d',ds',e2,k1,k2,k3⟩,hs,hg=>by subst e1;subst e2;have hc:=hg 0 r c' rfl rfl;obtain⟨c2,q1,q2⟩:=hle r c' hc;rw[k1] at q1;cases q1;obtain⟨p1,p2⟩:=aud (hs c' (by simp)) q2 k2;obtain⟨r1,r2⟩:=akm hle h3 k3 (λc hc=>hs c (by simp[hc])) (λi r c hr hc=>hg (i+1) r c (by simpa using hr) (by simpa using hc));exact⟨by simp[p1,r1],d',ds',rfl,p2,r2⟩
def aeX{H:Heap}{h:View}:∀{cs:List Cell} {gs:List Value} {N:List Nat},cellsB H h cs gs N->∀c,c∈cs->sameKind c c
 |[],_,_,_,c,hc=>by simp at hc
 |c::cs,_,_,⟨g,gs',N1,N2,e,_,q1,q2⟩,d,hd=>by
  rcases List.mem_cons.1 hd with rfl|hd
  ·exact ahf q1
  ·exact aeX q2 d hd
def avE{f:Nat}{fn:Func}{args:List V}{cells outs:List Cell}{gargs jB:List Value}{N1 N2:List Nat}{w':World}(hG:Given X base U w f args cells gargs jB N1 N2){S:St}{G:GS}{a:Act}{nt:Nat}
  (R:Rel base U (N1++N2) w (impμ jB) (sF 0 cells) nt w' S G a) {rows:List Row} (h:leave X fn cells.length S=some (rows,outs)):
  ∃gs M1 M2,(results fn a.tmps).run X.P w'=.ok (abb gs) w'∧Did X.P U w w' (N1++N2) fn.resultTypes.toList cells outs jB rows gs M1 M2:=by
 simp only[leave] at h;split at h
 ·rename_i r m' l' hr;simp only[iI] at h;subst h;replace hr:=aj hr;obtain⟨bca,m1,l1,h1,hr⟩:=hr;replace hr:=aj hr;obtain⟨cs1,m2,l2,h2,hr⟩:=hr;simp only[run_pure,iI,jY] at hr;obtain⟨⟨rfl,rfl⟩,rfl,rfl⟩:=hr;obtain⟨G1,Nr,gs,t1,r1,e1,q1⟩:=ahi R.at_.ok R.at_.out R.tm h1;have ho1:G1.out=[]:=t1.out.trans R.at_.out;obtain⟨G2,Nc,t2,q2,kd2⟩:=adu t1.ok (aaw cells.length) (λr hr=>⟨hr,by rw[ho1];simp⟩) (λr hr=>by rw[ho1] at hr;simp at hr) h2;have hE2:G2.E=Nr++Nc:=by rw[t2.E,t1.E,R.at_.E];rfl
  have hlen:=Wh hG.cells;have hk0:kinds (sF 0 cells) (wL cells.length) cells:=by rw[ahg];exact adC (λi=>by rw[Nat.zero_add];exact TI cells i) hG.cells
  obtain⟨b1,b2⟩:=akm (vV R.imp t1.le.mem) hk0 kd2 (aeX hG.cells) (by intro i r c hr hc;have hi:i<cells.length:=(Md.1 hc).1;rw[aeU hi] at hr;cases hr;rw[TI];exact hc);have hv:(Gh U w' G2).le (view w' U (· ∈Nc++Nr)):=Ux (λ_ x=>x) (λb hb=> .inl (by rw[hE2];simp only[List.mem_append] at hb⊢;exact hb.symm));refine⟨gs,Nc,Nr,aeW r1 e1,R.at_.fr.keep, ?_, ?_,b2, ?_, ?_⟩
  ·have:=t2.ok.ndE;rw[hE2] at this;exact(List.perm_append_comm.nodup_iff).1 this
  ·intro b hb;have hbE:b∈G2.E:=by rw[hE2];simp only[List.mem_append] at hb⊢;exact hb.symm
   exact⟨R.at_.fr.fr b (t1.le.ex b (t2.le.ex b (.inl hbE))),(t2.ok.lt b (.inl hbE)).1⟩
  ·rw[b1,<-hlen,aeV] at q2;exact OJ hv q2
  ·exact U4 (t2.le.view.trans' hv) (λ_ _=>rfl) q1
 ·cases h
def az4{K:jS}(hK:Sound X K){f:FuncId}{fn:Func}{args:List V}{cells:List Cell}{rows:List Row}{outs:List Cell}(hf:X.P.funcs[f]? =some fn)(h:body X K f args cells=some (rows,outs))
  {gargs jB:List Value} {N1 N2:List Nat} (hG:Given X base U w f args cells gargs jB N1 N2):
  Calls X.P f gargs.toArray w λe w'=>∃gs M1 M2,e=.returned (abb gs)∧Did X.P U w w' (N1++N2) fn.resultTypes.toList cells outs jB rows gs M1 M2:=by
 simp only[body,hf] at h;cases hb:fn.body with
 |none=>simp[hb] at h
 |some c=>
  simp only[hb] at h;cases hn:(Nat.ble cells.length nK && Nat.ble args.length fn.ntmps) with
  |false=>simp[hn] at h
  |true=>
   simp only[hn,Bool.not_true,aS] at h;simp only[EU] at hn;have hn1:=Nat.le_of_ble_eq_true hn.1;have hn2:=Nat.le_of_ble_eq_true hn.2;split at h
   ·rename_i tm m' l' he;obtain⟨G,R⟩:=avD hG he hn2;have hM:∀r c,get r (sF 0 cells)=some c->Ri r=true:=by intro r c hr;obtain⟨i,e,hi⟩:=Uj hr;have hil:i<cells.length:=(Md.1 hi).1;subst e;simp only[Ri,EU];exact⟨Nat.ble_eq_true_of_le ak,by rw[Nat.blt_eq];omega⟩
    have hnt:J4 X.P f=fn.ntmps:=by simp[J4,hf]
    have aI4:=aua (base:=base) (U:=U) (M0:=N1++N2) (w0:=w) (ν:=impμ jB) ⟨hK,hG.gl,hG.tab⟩ hnt hM;have hfin:∀ex S,leave X fn cells.length S=some (rows,outs)->(ex=Ex.normal∨ex=Ex.ret)->∀w' G' a',Rel base U (N1++N2) w (impμ jB) (sF 0 cells) fn.ntmps w' S G' a'->(Gh U w G).le (Gh U w' G')->
      bodyPost X.P fn (λe w'=>∃gs M1 M2,e=.returned (abb gs)∧Did X.P U w w' (N1++N2) fn.resultTypes.toList cells outs jB rows gs M1 M2) (aEG ex) a' w':=by
     intro ex S hl hex w' G' a' R' _;obtain⟨gs,M1,M2,hr,hd⟩:=avE hG R' hl;rcases hex with rfl|rfl<;>exact⟨R'.defers,_,hr,gs,M1,M2,rfl,hd⟩
    split at h
    ·rename_i S hd;exact calls_of_wp hf hb (avz aI4 c R hd (hfin _ _ h (.inl rfl)))
    ·rename_i S hd;exact calls_of_wp hf hb (avz aI4 c R hd (hfin _ _ h (.inr rfl)))
    ·cases h
   ·cases h
end
def alT(X:Ctx):Prop:=∀(f:FuncId) (p:List V->List Cell->Option (List Row×List Cell)) (fn:Func) (args:List V) (cells:List Cell) (rows:List Row) (outs:List Cell),X.Yx f=some p->X.P.funcs[f]? =some fn->fn.body.isSome=true->p args cells=some (rows,outs)->
 ∀(base:Nat) (U:Nat->Prop) (w:World) (gargs jB:List Value) (N1 N2:List Nat),Given X base U w f args cells gargs jB N1 N2->
  Calls X.P f gargs.toArray w λe w'=>∃gs M1 M2,e=.returned (abb gs)∧Did X.P U w w' (N1++N2) fn.resultTypes.toList cells outs jB rows gs M1 M2
def anw{X:Ctx}(hp:alT X):∀n,Sound X (YG X n)
 |0=>by intro f fn args cells rows outs hf hb h;simp[YG] at h
 |n+1=>by
  intro f fn args cells rows outs hf hb h base U w gargs jB N1 N2 hG;simp only[YG] at h;cases hx:X.Yx f with
  |some p=>rw[hx] at h;exact hp f p fn args cells rows outs hx hf hb h base U w gargs jB N1 N2 hG
  |none=>rw[hx] at h;exact az4 (anw hp n) hf h hG
def az5{X:Ctx}(hp:alT X):Sound X (call X):=by intro f fn args cells rows outs hf hb h base U w gargs jB N1 N2 hG;obtain⟨n,hn⟩:=WY h;exact anw hp n f fn args cells rows outs hf hb hn base U w gargs jB N1 N2 hG
end Go.Vm
namespace Go.Vm
open Go
open Go.IntKind (i64)
def KLe(K K':jS):Prop:=∀f args cells r,K f args cells=some r->K' f args cells=some r
def KLe.refl(K:jS):KLe K K:=λ_ _ _ _ h=>h
def KLe.trans{K1 K2 K3:jS}(h:KLe K1 K2)(k:KLe K2 K3):KLe K1 K3:=λf a c r q=>k f a c r (h f a c r q)
def kT{α:Type}(A:jS->Acc α):Prop:=∀K K',KLe K K'->∀m l r,(A K).run m l=some r->(A K').run m l=some r
def kT.const{α:Type}(a:Acc α):kT λ_=>a:=λ_ _ _ _ _ _ h=>h
def kT.bind{α β:Type}{A:jS->Acc α}{B:jS->α->Acc β}(h:kT A)(k:∀x,kT λK=>B K x):kT λK=>A K>>=B K:=by intro K K' hK m l r hr;obtain⟨y,m',l'⟩:=r;obtain⟨x,m1,l1,h1,h2⟩:=aj hr;rw[run_bind,h K K' hK m l _ h1];exact k x K K' hK m1 l1 _ h2
def kT.op{f:Nat}{args:List V}{cells:List Cell}:kT λK=>op' (K f args cells):=by intro K K' hK m l r hr;obtain⟨x,m',l'⟩:=r;obtain⟨h1,rfl,rfl⟩:=iJ hr;simp only;rw[hK f args cells x h1];rfl
def Uc{α:Type}(Kn:Nat->jS)(K:jS)(A:jS->Acc α):Prop:=∀m l r,(A K).run m l=some r->∃n,(A (Kn n)).run m l=some r
def Chain(Kn:Nat->jS):Prop:=∀n,KLe (Kn n) (Kn (n+1))
def Chain.le{Kn:Nat->jS}(h:Chain Kn){n k:Nat}(hk:n<=k):KLe (Kn n) (Kn k):=by
 induction hk with
 |refl=>exact KLe.refl _
 |step _ ih=>exact ih.trans (h _)
section
variable {Kn:Nat->jS} {K:jS} (hc:Chain Kn)
def Uc.const{α:Type}(a:Acc α):Uc Kn K λ_=>a:=λ_ _ _ h=>⟨0,h⟩
include hc in
theorem Uc.bind{α β:Type}{A:jS->Acc α}{B:jS->α->Acc β}(hu:kT A)(ku:∀x,kT λK=>B K x)(h:Uc Kn K A)(k:∀x,Uc Kn K λK=>B K x):Uc Kn K λK=>A K>>=B K:=by intro m l r hr;obtain⟨y,m',l'⟩:=r;obtain⟨x,m1,l1,h1,h2⟩:=aj hr;obtain⟨n1,q1⟩:=h m l _ h1;obtain⟨n2,q2⟩:=k x m1 l1 _ h2;refine⟨max n1 n2, ?_⟩;rw[run_bind,hu _ _ (hc.le (Nat.le_max_left n1 n2)) m l _ q1];exact ku x _ _ (hc.le (Nat.le_max_right n1 n2)) m1 l1 _ q2
theorem Uc.op(hK:∀f args cells r,K f args cells=some r->∃n,Kn n f args cells=some r){f:Nat}{args:List V}{cells:List Cell}:Uc Kn K λK=>op' (K f args cells):=by intro m l r hr;obtain⟨x,m',l'⟩:=r;obtain⟨h1,rfl,rfl⟩:=iJ hr;obtain⟨n,hn⟩:=hK f args cells x h1;refine⟨n, ?_⟩;simp only;rw[hn];rfl
end
def avF(X:Ctx)(fn dst f:Nat)(args:List V):kT λK=>abU X K fn dst f args:=by unfold abU;refine kT.bind (kT.const _) λg=>kT.bind (kT.const _) λ_=>kT.bind (kT.const _) λargs=>kT.bind (kT.const _) λcells=>kT.bind (kT.const _) fun⟨args,TG⟩=>kT.bind (kT.const _) λ_=>kT.bind kT.op λout=>kT.const _
def avG{Kn:Nat->jS}{K:jS}(hc:Chain Kn)(hK:∀f args cells r,K f args cells=some r->∃n,Kn n f args cells=some r)(X:Ctx)(fn dst f:Nat)(args:List V):Uc Kn K λK=>abU X K fn dst f args:=by
 unfold abU;refine Uc.bind hc (kT.const _) ?_ (Uc.const _) λg=> ?_
 ·exact λg=>kT.bind (kT.const _) λ_=>kT.bind (kT.const _) λargs=>kT.bind (kT.const _) λcells=>kT.bind (kT.const _) fun⟨args,TG⟩=>kT.bind (kT.const _) λ_=>kT.bind kT.op λout=>kT.const _
 refine Uc.bind hc (kT.const _) ?_ (Uc.const _) λ_=> ?_
 ·exact λg=>kT.bind (kT.const _) λargs=>kT.bind (kT.const _) λcells=>kT.bind (kT.const _) fun⟨args,TG⟩=>kT.bind (kT.const _) λ_=>kT.bind kT.op λout=>kT.const _
 refine Uc.bind hc (kT.const _) ?_ (Uc.const _) λargs=> ?_
 ·exact λg=>kT.bind (kT.const _) λcells=>kT.bind (kT.const _) fun⟨args,TG⟩=>kT.bind (kT.const _) λ_=>kT.bind kT.op λout=>kT.const _
 refine Uc.bind hc (kT.const _) ?_ (Uc.const _) λcells=> ?_
 ·exact λg=>kT.bind (kT.const _) fun⟨args,TG⟩=>kT.bind (kT.const _) λ_=>kT.bind kT.op λout=>kT.const _
 refine Uc.bind hc (kT.const _) ?_ (Uc.const _) fun⟨args,TG⟩=> ?_
 ·exact fun⟨args,TG⟩=>kT.bind (kT.const _) λ_=>kT.bind kT.op λout=>kT.const _
 refine Uc.bind hc (kT.const _) ?_ (Uc.const _) λ_=> ?_
 ·exact λ_=>kT.bind kT.op λout=>kT.const _
 exact Uc.bind hc kT.op (λout=>kT.const _) (Uc.op hK) λout=>Uc.const _
def aEN(X:Ctx)(fn:Nat)(tm:lD)(o:Oper):kT λK=>vop X K fn tm o:=by
 obtain⟨dst,op,type,pos,after,guard⟩:=o;cases op<;>try exact kT.const _
 case call c=>
  obtain⟨callee,args,tys⟩:=c;cases callee with
  |value f=>
   simp only[vop];split
   ·exact avF X fn _ _ _
   ·exact kT.const _
  |invoke r m=>exact kT.const _
  |builtin b=>cases b<;>exact kT.const _
 case makeFunc f a b=>cases f<;>exact kT.const _
 case slice a b c d e=>cases e<;>exact kT.const _
def aEO{Kn:Nat->jS}{K:jS}(hc:Chain Kn)(hK:∀f args cells r,K f args cells=some r->∃n,Kn n f args cells=some r)(X:Ctx)(fn:Nat)(tm:lD)(o:Oper):Uc Kn K λK=>vop X K fn tm o:=by
 obtain⟨dst,op,type,pos,after,guard⟩:=o;cases op<;>try exact Uc.const _
 case call c=>
  obtain⟨callee,args,tys⟩:=c;cases callee with
  |value f=>
   simp only[vop];split
   ·exact avG hc hK X fn _ _ _
   ·exact Uc.const _
  |invoke r m=>exact Uc.const _
  |builtin b=>cases b<;>exact Uc.const _
 case makeFunc f a b=>cases f<;>exact Uc.const _
 case slice a b c d e=>cases e<;>exact Uc.const _
def Up{β:Type}(E:jS->Option β):Prop:=∀K K',KLe K K'->∀r,E K=some r->E K'=some r
def Ct{β:Type}(Kn:Nat->jS)(K:jS)(E:jS->Option β):Prop:=∀r,E K=some r->∃n,E (Kn n)=some r
def Up.const{β:Type}(e:Option β):Up λ_=>e:=λ_ _ _ _ h=>h
def Ct.const{β:Type}{Kn:Nat->jS}{K:jS}(e:Option β):Ct Kn K λ_=>e:=λ_ h=>⟨0,h⟩
def Up.bind{α β:Type}{E:jS->Option α}{F:jS->α->Option β}(h:Up E)(k:∀x,Up λK=>F K x):Up λK=>(E K).bind (F K):=by intro K K' hK r hr;simp only[Option.bind_eq_some_iff] at hr⊢;obtain⟨x,h1,h2⟩:=hr;exact⟨x,h K K' hK x h1,k x K K' hK r h2⟩
def Ct.bind{α β:Type}{Kn:Nat->jS}{K:jS}(hc:Chain Kn){E:jS->Option α}{F:jS->α->Option β}(hu:Up E)(ku:∀x,Up λK=>F K x)(h:Ct Kn K E)(k:∀x,Ct Kn K λK=>F K x):Ct Kn K λK=>(E K).bind (F K):=by intro r hr;simp only[Option.bind_eq_some_iff] at hr⊢;obtain⟨x,h1,h2⟩:=hr;obtain⟨n1,q1⟩:=h x h1;obtain⟨n2,q2⟩:=k x r h2;exact⟨max n1 n2,x,hu _ _ (hc.le (Nat.le_max_left n1 n2)) x q1,ku x _ _ (hc.le (Nat.le_max_right n1 n2)) r q2⟩
def anx(X:Ctx)(fn:Nat)(ops:Array Oper)(i:Nat)(S:St):Up λK=>DI X K fn ops i S:=by
 intro K K' hK r hr;simp only[DI] at hr⊢;cases ho:ops[i]? with
 |none=>simp[ho] at hr
 |some o=>
  simp only[ho] at hr⊢;cases hw:Fz ops S.tm o with
  |none=>simp[hw] at hr
  |some bt=>
   obtain⟨b,tm⟩:=bt;cases b with
   |false=>simpa[hw] using hr
   |true=>
    simp only[hw] at hr⊢;cases hv:(vop X K fn tm o).run S.mem .none with
    |none=>simp[hv] at hr
    |some q=>rw[aEN X fn tm o K K' hK S.mem .none q hv];rw[hv] at hr;exact hr
def avH{Kn:Nat->jS}{K:jS}(hc:Chain Kn)(hK:∀f args cells r,K f args cells=some r->∃n,Kn n f args cells=some r)(X:Ctx)(fn:Nat)(ops:Array Oper)(i:Nat)(S:St):Ct Kn K λK=>DI X K fn ops i S:=by
 intro r hr;simp only[DI] at hr⊢;cases ho:ops[i]? with
 |none=>simp[ho] at hr
 |some o=>
  simp only[ho] at hr⊢;cases hw:Fz ops S.tm o with
  |none=>simp[hw] at hr
  |some bt=>
   obtain⟨b,tm⟩:=bt;cases b with
   |false=>exact⟨0,by simpa[hw] using hr⟩
   |true=>
    simp only[hw] at hr⊢;cases hv:(vop X K fn tm o).run S.mem .none with
    |none=>simp[hv] at hr
    |some q=>obtain⟨n,hn⟩:=aEO hc hK X fn tm o S.mem .none q hv;exact⟨n,by rw[hn];rw[hv] at hr;exact hr⟩
def adD(X:Ctx)(fn:Nat)(ops:Array Oper)(i:Nat)(is:List Nat)(S:St)(L:List (Nat×Log))(K:jS):
  y7 X K fn ops (i::is) S L=(DI X K fn ops i S).bind λr=>y7 X K fn ops is r.1 ((i,r.2)::L):=by
 simp only[y7];cases DI X K fn ops i S with
 |none=>rfl
 |some r=>rfl
def OL(X:Ctx)(fn:Nat)(ops:Array Oper):∀(is:List Nat) (S:St) (L:List (Nat×Log)),Up λK=>y7 X K fn ops is S L
 |[],S,L=>Up.const _
 |i::is,S,L=>by simp only[adD];exact Up.bind (anx X fn ops i S) λr=>OL X fn ops is r.1 _
def ZT{Kn:Nat->jS}{K:jS}(hc:Chain Kn)(hK:∀f args cells r,K f args cells=some r->∃n,Kn n f args cells=some r)(X:Ctx)(fn:Nat)(ops:Array Oper):∀(is:List Nat) (S:St) (L:List (Nat×Log)),Ct Kn K λK=>y7 X K fn ops is S L
 |[],S,L=>Ct.const _
 |i::is,S,L=>by simp only[adD];exact Ct.bind hc (anx X fn ops i S) (λr=>OL X fn ops is r.1 _) (avH hc hK X fn ops i S) λr=>ZT hc hK X fn ops is r.1 _
def akn(X:Ctx)(tm:lD)(o1 o2 o3:Oper):kT λK=>Uf X K tm o1 o2 o3:=by
 unfold Uf;split
 ·refine kT.bind (kT.const _) λ_=>kT.bind (kT.const _) λe=> ?_
  split
  ·refine kT.bind (kT.const _) λc=> ?_
   split
   ·exact kT.bind (kT.const _) λ_=>kT.bind (kT.const _) λrow=>kT.bind (kT.const _) λrs=>kT.bind (kT.const _) λ_=>kT.bind kT.op λout=>kT.const _
   ·exact kT.const _
  ·exact kT.const _
 ·exact kT.const _
def aue{Kn:Nat->jS}{K:jS}(hc:Chain Kn)(hK:∀f args cells r,K f args cells=some r->∃n,Kn n f args cells=some r)(X:Ctx)(tm:lD)(o1 o2 o3:Oper):Uc Kn K λK=>Uf X K tm o1 o2 o3:=by
 unfold Uf;split
 ·refine Uc.bind hc (kT.const _) ?_ (Uc.const _) λ_=>Uc.bind hc (kT.const _) ?_ (Uc.const _) λe=> ?_
  ·intro _;refine kT.bind (kT.const _) λe=> ?_
   split
   ·refine kT.bind (kT.const _) λc=> ?_
    split
    ·exact kT.bind (kT.const _) λ_=>kT.bind (kT.const _) λrow=>kT.bind (kT.const _) λrs=>kT.bind (kT.const _) λ_=>kT.bind kT.op λout=>kT.const _
    ·exact kT.const _
   ·exact kT.const _
  ·intro e;split
   ·refine kT.bind (kT.const _) λc=> ?_
    split
    ·exact kT.bind (kT.const _) λ_=>kT.bind (kT.const _) λrow=>kT.bind (kT.const _) λrs=>kT.bind (kT.const _) λ_=>kT.bind kT.op λout=>kT.const _
    ·exact kT.const _
   ·exact kT.const _
  ·split
   ·refine Uc.bind hc (kT.const _) ?_ (Uc.const _) λc=> ?_
    ·intro c;split
     ·exact kT.bind (kT.const _) λ_=>kT.bind (kT.const _) λrow=>kT.bind (kT.const _) λrs=>kT.bind (kT.const _) λ_=>kT.bind kT.op λout=>kT.const _
     ·exact kT.const _
    ·split
     ·refine Uc.bind hc (kT.const _) ?_ (Uc.const _) λ_=>Uc.bind hc (kT.const _) ?_ (Uc.const _) λrow=>Uc.bind hc (kT.const _) ?_ (Uc.const _) λrs=>Uc.bind hc (kT.const _) ?_ (Uc.const _) λ_=>Uc.bind hc kT.op (λout=>kT.const _) (Uc.op hK) λout=>Uc.const _
      ·exact λ_=>kT.bind (kT.const _) λrow=>kT.bind (kT.const _) λrs=>kT.bind (kT.const _) λ_=>kT.bind kT.op λout=>kT.const _
      ·exact λrow=>kT.bind (kT.const _) λrs=>kT.bind (kT.const _) λ_=>kT.bind kT.op λout=>kT.const _
      ·exact λrs=>kT.bind (kT.const _) λ_=>kT.bind kT.op λout=>kT.const _
      ·exact λ_=>kT.bind kT.op λout=>kT.const _
     ·exact Uc.const _
   ·exact Uc.const _
 ·exact Uc.const _
def abg(X:Ctx)(fn:Nat)(ops:Array Oper)(p:Nat)(S:St)(K:jS):J5 X K fn ops p S=
  match ops[p]?,ops[p+1]?,ops[p+2]? with
  |some o1,some o2,some o3=>((Uf X K S.tm o1 o2 o3).run S.mem .none).bind λr=>bif Nat.blt r.1.1 (J4 X.P fn) &&(Nat.blt r.1.2.1 (J4 X.P fn) && Q8 (J4 X.P fn) o3.dst) then some ⟨aaQ o3.dst r.1.2.2.2 (put r.1.2.1 r.1.2.2.1 (put r.1.1 .undef S.tm)),r.2.1⟩ else none
  |_,_,_=>none:=by
 simp only[J5];cases ops[p]? with
 |none=>rfl
 |some o1=>cases ops[p+1]? with
  |none=>rfl
  |some o2=>cases ops[p+2]? with
   |none=>rfl
   |some o3=>
    simp only;cases(Uf X K S.tm o1 o2 o3).run S.mem .none with
    |none=>rfl
    |some r=>rfl
def abh(X:Ctx)(fn:Nat)(ops:Array Oper)(p:Nat)(S:St):Up λK=>J5 X K fn ops p S:=by
 simp only[abg];cases ops[p]? with
 |none=>exact Up.const _
 |some o1=>cases ops[p+1]? with
  |none=>exact Up.const _
  |some o2=>cases ops[p+2]? with
   |none=>exact Up.const _
   |some o3=>exact Up.bind (λK K' hK r hr=>akn X S.tm o1 o2 o3 K K' hK S.mem .none r hr) λr=>Up.const _
def arj{Kn:Nat->jS}{K:jS}(hc:Chain Kn)(hK:∀f args cells r,K f args cells=some r->∃n,Kn n f args cells=some r)(X:Ctx)(fn:Nat)(ops:Array Oper)(p:Nat)(S:St):Ct Kn K λK=>J5 X K fn ops p S:=by
 simp only[abg];cases ops[p]? with
 |none=>exact Ct.const _
 |some o1=>cases ops[p+1]? with
  |none=>exact Ct.const _
  |some o2=>cases ops[p+2]? with
   |none=>exact Ct.const _
   |some o3=>exact Ct.bind hc (λK K' hK r hr=>akn X S.tm o1 o2 o3 K K' hK S.mem .none r hr) (λr=>Up.const _) (λr hr=>aue hc hK X S.tm o1 o2 o3 S.mem .none r hr) λr=>Ct.const _
def XI(X:Ctx)(fn id:Nat)(ops:Array Oper)(draw:Bool)(S:St)(K:jS):D7 X K fn id ops draw S=
  match X.OU.fuse fn id with
  |0=>y7 X K fn ops (List.range ops.size) S []
  |p+1=>match draw with
   |true=>none
   |false=>(y7 X K fn ops (List.range p) S []).bind λr=>(J5 X K fn ops p r.1).bind λS2=>y7 X K fn ops ((List.range ops.size).drop (p+3)) S2 []:=by
 simp only[D7];cases X.OU.fuse fn id with
 |zero=>rfl
 |succ p=>
  cases draw with
  |true=>rfl
  |false=>
   simp only;cases y7 X K fn ops (List.range p) S [] with
   |none=>rfl
   |some r=>simp only[Option.bind_some];cases J5 X K fn ops p r.1<;>rfl
def acj(X:Ctx)(fn id:Nat)(ops:Array Oper)(draw:Bool)(S:St):Up λK=>D7 X K fn id ops draw S:=by
 simp only[XI];cases X.OU.fuse fn id with
 |zero=>exact OL X fn ops _ S _
 |succ p=>
  cases draw with
  |true=>exact Up.const _
  |false=>exact Up.bind (OL X fn ops _ S _) λr=>Up.bind (abh X fn ops p r.1) λS2=>OL X fn ops _ S2 _
def alU{Kn:Nat->jS}{K:jS}(hc:Chain Kn)(hK:∀f args cells r,K f args cells=some r->∃n,Kn n f args cells=some r)(X:Ctx)(fn id:Nat)(ops:Array Oper)(draw:Bool)(S:St):Ct Kn K λK=>D7 X K fn id ops draw S:=by
 simp only[XI];cases X.OU.fuse fn id with
 |zero=>exact ZT hc hK X fn ops _ S _
 |succ p=>
  cases draw with
  |true=>exact Ct.const _
  |false=>exact Ct.bind hc (OL X fn ops _ S _) (λr=>Up.bind (abh X fn ops p r.1) λS2=>OL X fn ops _ S2 _) (ZT hc hK X fn ops _ S _) λr=>Ct.bind hc (abh X fn ops p r.1) (λS2=>OL X fn ops _ S2 _) (arj hc hK X fn ops p r.1) λS2=>ZT hc hK X fn ops _ S2 _
def adE(X:Ctx)(fn id:Nat)(ops:Array Oper)(draw:Bool)(S:St)(K:jS):
  region X K fn id ops draw S=(D7 X K fn id ops draw S).bind λr=>bif(match draw with|false=>true|true=>X.P.follows .mixedOrders &&(backOk ops && YE ops (Region.before ops) r.2)) then prune (X.OU.keep fn id) r.1 else none:=by
 simp only[region];cases D7 X K fn id ops draw S with
 |none=>rfl
 |some r=>rfl
def ako(X:Ctx)(fn id:Nat)(ops:Array Oper)(draw:Bool)(S:St):Up λK=>region X K fn id ops draw S:=by simp only[adE];exact Up.bind (acj X fn id ops draw S) λr=>Up.const _
def auf{Kn:Nat->jS}{K:jS}(hc:Chain Kn)(hK:∀f args cells r,K f args cells=some r->∃n,Kn n f args cells=some r)(X:Ctx)(fn id:Nat)(ops:Array Oper)(draw:Bool)(S:St):Ct Kn K λK=>region X K fn id ops draw S:=by simp only[adE];exact Ct.bind hc (acj X fn id ops draw S) (λr=>Up.const _) (alU hc hK X fn id ops draw S) λr=>Ct.const _
def adF{b:St->Option (Ex×St)}:∀{n k:Nat} {S:St} {r:Ex×St},iter b n S=some r->n<=k->iter b k S=some r
 |0,_,_,_,h,_=>by simp[iter] at h
 |n+1,0,_,_,_,hk=>by omega
 |n+1,k+1,S,r,h,hk=>by
  simp only[iter] at h⊢;cases hb:b S with
  |none=>simp[hb] at h
  |some q=>
   obtain⟨e,S'⟩:=q;rw[hb] at h;cases e with
   |normal=>exact adF h ak
   |exit id=>exact h
   |ret=>exact h
def Af{α:Type}{f:Nat->Option α}{x:α}{n:Nat}(hn:f n=some x)(h:∀m y,f m=some y->y=x):lim f=some x:=by unfold lim;rw[dif_pos ⟨x,n,hn⟩];congr 1;obtain⟨m,hm⟩:=Classical.choose_spec (⟨x,n,hn⟩:∃a n,f n=some a);exact h m _ hm
def acn{b:St->Option (Ex×St)}{S:St}{r:Ex×St}{n:Nat}(h:iter b n S=some r):VI b S=some r:=by
 refine Af h λm y hy=> ?_
 have h1:=adF h (Nat.le_max_left n m);rw[adF hy (Nat.le_max_right n m)] at h1;exact Option.some.inj h1
def abj{b:St->Option (Ex×St)}{S:St}{r:Ex×St}(h:VI b S=some r):∃n,iter b n S=some r:=WY h
def iter_eq{b:St->Option (Ex×St)}{n:Nat}{S:St}:iter b (n+1) S=(b S).bind λq=>match q with|(.normal,S')=>iter b n S'|(e,S')=>some (e,S'):=by
 simp only[iter];cases b S with
 |none=>rfl
 |some q=>obtain⟨e,S'⟩:=q;cases e<;>rfl
def alV{B:jS->St->Option (Ex×St)}(h:∀S,Up λK=>B K S):∀(n:Nat) (S:St),Up λK=>iter (B K) n S
 |0,S=>Up.const _
 |n+1,S=>by
  simp only[iter_eq];refine Up.bind (h S) λq=> ?_
  obtain⟨e,S'⟩:=q;cases e with
  |normal=>exact alV h n S'
  |exit id=>exact Up.const _
  |ret=>exact Up.const _
def asu{Kn:Nat->jS}{K:jS}(hc:Chain Kn){B:jS->St->Option (Ex×St)}(hu:∀S,Up λK=>B K S)(h:∀S,Ct Kn K λK=>B K S):∀(n:Nat) (S:St),Ct Kn K λK=>iter (B K) n S
 |0,S=>Ct.const _
 |n+1,S=>by
  simp only[iter_eq];refine Ct.bind hc (hu S) (λq=> ?_) (h S) λq=> ?_
  all_goals
   obtain⟨e,S'⟩:=q;cases e
  ·exact alV hu n S'
  ·exact Up.const _
  ·exact Up.const _
  ·exact asu hc hu h n S'
  ·exact Ct.const _
  ·exact Ct.const _
def avI{B:jS->St->Option (Ex×St)}(h:∀S,Up λK=>B K S)(S:St):Up λK=>VI (B K) S:=by intro K K' hK r hr;obtain⟨n,hn⟩:=abj hr;exact acn (alV h n S K K' hK r hn)
def avJ{Kn:Nat->jS}{K:jS}(hc:Chain Kn){B:jS->St->Option (Ex×St)}(hu:∀S,Up λK=>B K S)(h:∀S,Ct Kn K λK=>B K S)(S:St):Ct Kn K λK=>VI (B K) S:=by intro r hr;obtain⟨n,hn⟩:=abj hr;obtain⟨k,hk⟩:=asu hc hu h n S r hn;exact⟨k,acn hk⟩
def alW(X:Ctx)(fn:Nat)(c:Code):∀S,Up λK=>den X K fn c S:=by
 induction c with
 |region id ops draw=>
  intro S K K' hK r hr;simp only[den] at hr⊢;cases h:region X K fn id ops draw S with
  |none=>simp[h] at hr
  |some S'=>have he0:=ako X fn id ops draw S K K' hK S' h;dsimp only at he0;rw[he0];rw[h] at hr;exact hr
 |seq a b iha ihb=>
  intro S K K' hK r hr;simp only[den] at hr⊢;cases h:den X K fn a S with
  |none=>simp[h] at hr
  |some q=>
   have he0:=iha S K K' hK q h;dsimp only at he0;rw[he0];rw[h] at hr;obtain⟨e,S'⟩:=q;cases e with
   |normal=>exact ihb S' K K' hK r hr
   |exit id=>exact hr
   |ret=>exact hr
 |cond c a b iha ihb=>
  intro S K K' hK r hr;simp only[den] at hr⊢;cases h:aao X.P S.tm c with
  |none=>simp[h] at hr
  |some q=>
   rw[h] at hr;cases q with
   |true=>exact iha S K K' hK r hr
   |false=>exact ihb S K K' hK r hr
 |block id c ih=>
  intro S K K' hK r hr;simp only[den] at hr⊢;cases h:den X K fn c S with
  |none=>simp[h] at hr
  |some q=>have he0:=ih S K K' hK q h;dsimp only at he0;rw[he0];rw[h] at hr;exact hr
 |loop c ih=>intro S;exact avI ih S
 |_=>intro S;exact Up.const _
def aEP{Kn:Nat->jS}{K:jS}(hc:Chain Kn)(hK:∀f args cells r,K f args cells=some r->∃n,Kn n f args cells=some r)(X:Ctx)(fn:Nat)(c:Code):∀S,Ct Kn K λK=>den X K fn c S:=by
 induction c with
 |region id ops draw=>
  intro S r hr;simp only[den] at hr⊢;cases h:region X K fn id ops draw S with
  |none=>simp[h] at hr
  |some S'=>obtain⟨n,hn⟩:=auf hc hK X fn id ops draw S S' h;dsimp only at hn;exact⟨n,by rw[hn];rw[h] at hr;exact hr⟩
 |seq a b iha ihb=>
  intro S r hr;simp only[den] at hr⊢;cases h:den X K fn a S with
  |none=>simp[h] at hr
  |some q=>
   obtain⟨n,hn⟩:=iha S q h;dsimp only at hn;rw[h] at hr;obtain⟨e,S'⟩:=q;cases e with
   |normal=>obtain⟨k,hk⟩:=ihb S' r hr;dsimp only at hk;refine⟨max n k, ?_⟩;have he0:=alW X fn a S _ _ (hc.le (Nat.le_max_left n k)) _ hn;dsimp only at he0;rw[he0];exact alW X fn b S' _ _ (hc.le (Nat.le_max_right n k)) _ hk
   |exit id=>exact⟨n,by rw[hn];exact hr⟩
   |ret=>exact⟨n,by rw[hn];exact hr⟩
 |cond c a b iha ihb=>
  intro S r hr;simp only[den] at hr⊢;cases h:aao X.P S.tm c with
  |none=>simp[h] at hr
  |some q=>
   rw[h] at hr;cases q with
   |true=>exact iha S r hr
   |false=>exact ihb S r hr
 |block id c ih=>
  intro S r hr;simp only[den] at hr⊢;cases h:den X K fn c S with
  |none=>simp[h] at hr
  |some q=>obtain⟨n,hn⟩:=ih S q h;dsimp only at hn;exact⟨n,by rw[hn];rw[h] at hr;exact hr⟩
 |loop c ih=>intro S;exact avJ hc (alW X fn c) ih S
 |_=>intro S;exact Ct.const _
def asv(X:Ctx)(f:Nat)(args:List V)(cells:List Cell):Up λK=>body X K f args cells:=by
 intro K K' hK r hr;simp only[body] at hr⊢;cases hg:X.P.funcs[f]? with
 |none=>simp[hg] at hr
 |some g=>
  simp only[hg] at hr⊢;cases hcd:g.body with
  |none=>simp[hcd] at hr
  |some c=>
   simp only[hcd] at hr⊢;revert hr;generalize (!(Nat.ble cells.length nK && Nat.ble args.length g.ntmps))=q;cases q with
   |true=>exact id
   |false=>
    simp only[aS];intro hr;split at hr
    ·rename_i tm m l he;cases h:den X K f c ⟨tm,m⟩ with
     |none=>simp[h] at hr
     |some q=>have he0:=alW X f c ⟨tm,m⟩ K K' hK q h;dsimp only at he0;rw[he0];rw[h] at hr;exact hr
    ·cases hr
def az6{Kn:Nat->jS}{K:jS}(hc:Chain Kn)(hK:∀f args cells r,K f args cells=some r->∃n,Kn n f args cells=some r)(X:Ctx)(f:Nat)(args:List V)(cells:List Cell):Ct Kn K λK=>body X K f args cells:=by
 intro r hr;simp only[body] at hr⊢;cases hg:X.P.funcs[f]? with
 |none=>simp[hg] at hr
 |some g=>
  simp only[hg] at hr⊢;cases hcd:g.body with
  |none=>simp[hcd] at hr
  |some c=>
   simp only[hcd] at hr⊢;revert hr;generalize (!(Nat.ble cells.length nK && Nat.ble args.length g.ntmps))=q;cases q with
   |true=>exact λh=>⟨0,h⟩
   |false=>
    simp only[aS];intro hr;split at hr
    ·rename_i tm m l he;cases h:den X K f c ⟨tm,m⟩ with
     |none=>simp[h] at hr
     |some q=>obtain⟨n,hn⟩:=aEP hc hK X f c ⟨tm,m⟩ q h;dsimp only at hn;exact⟨n,by rw[hn];rw[h] at hr;exact hr⟩
    ·cases hr
def VP(X:Ctx):Chain (YG X)
 |0=>λf args cells r h=>by simp[YG] at h
 |n+1=>λf args cells r h=>by
  simp only[YG] at h⊢;cases hp:X.Yx f with
  |some p=>simpa[hp] using h
  |none=>simp only[hp] at h⊢;exact asv X f args cells _ _ (VP X n) r h
def akp{X:Ctx}{n:Nat}{f:Nat}{args:List V}{cells:List Cell}{r:List Row×List Cell}(h:YG X n f args cells=some r):call X f args cells=some r:=by
 refine Af h λm y hy=> ?_
 have h1:=(VP X).le (Nat.le_max_left n m) f args cells r h;rw[(VP X).le (Nat.le_max_right n m) f args cells y hy] at h1;exact Option.some.inj h1
def az7{X:Ctx}{K:jS}(hK:KLe K (call X)){f:Nat}{args:List V}{cells:List Cell}{r:List Row×List Cell}(hp:X.Yx f=none)(h:body X K f args cells=some r):call X f args cells=some r:=by have h1:=asv X f args cells K (call X) hK r h;obtain⟨n,hn⟩:=az6 (VP X) (λf a c r hr=>WY hr) X f args cells r h1;dsimp only at hn;refine akp (n:=n+1) ?_;simp only[YG,hp];exact hn
def alX{X:Ctx}{f:Nat}{p:List V->List Cell->Option (List Row×List Cell)}{args:List V}{cells:List Cell}{r:List Row×List Cell}(hp:X.Yx f=some p)(h:p args cells=some r):call X f args cells=some r:=
 akp (n:=1) (by simp only[YG,hp];exact h)
end Go.Vm
namespace Go.Vm
open Go
open Go.IntKind (i64)
abbrev Loops:=Nat->St->Option (Ex×St)
def lid:Code->Nat
 | .region id _ _=>id
 | .seq a b=>match lid a with
  |0=>lid b
  |n=>n
 | .block _ c=>lid c
 | .loop c=>lid c
 | .cond _ a b=>match lid a with
  |0=>lid b
  |n=>n
 |_=>0
def loops:Code->List Code
 | .seq a b=>loops a++loops b
 | .cond _ a b=>loops a++loops b
 | .block _ c=>loops c
 | .loop c=>[c]
 |_=>[]
def LU(X:Ctx)(K:jS)(L:Loops)(fn:Nat):Code->St->Option (Ex×St)
 | .skip,S=>some (.normal,S)
 | .region id ops draw,S=>match region X K fn id ops draw S with
  |some S'=>some (.normal,S')
  |none=>none
 | .seq a b,S=>match LU X K L fn a S with
  |some (.normal,S')=>LU X K L fn b S'
  |r=>r
 | .cond c a b,S=>match aao X.P S.tm c with
  |some true=>LU X K L fn a S
  |some false=>LU X K L fn b S
  |none=>none
 | .block id c,S=>match LU X K L fn c S with
  |some (.exit j,S')=>bif Nat.beq j id then some (.normal,S') else some (.exit j,S')
  |r=>r
 | .loop c,S=>L (lid c) S
 | .exit id,S=>some (.exit id,S)
 | .ret,S=>some (.ret,S)
 |_,_=>none
def codeOf(P:Program)(f:Nat):Code:=match P.funcs[f]? with
 |some g=>match g.body with
  |some c=>c
  |none=> .skip
 |none=> .skip
def aeY(X:Ctx)(K:jS)(L:Loops)(f:Nat)(args:List V)(cells:List Cell):Option (List Row×List Cell):=
 match X.P.funcs[f]? with
 |some g=>match g.body with
  |some c=>bif !(Nat.ble cells.length nK && Nat.ble args.length g.ntmps) then none else match(entry X f g args cells).run (sF 0 cells) .none with
   |some (tm,m,_)=>(match LU X K L f c ⟨tm,m⟩ with
    |some (.normal,S)=>leave X g cells.length S
    |some (.ret,S)=>leave X g cells.length S
    |_=>none)
   |none=>none
  |none=>none
 |none=>none
def LOk(X:Ctx)(K:jS)(fn:Nat)(L:Loops)(cs:List Code):Prop:=∀c,c∈cs->∀S r,L (lid c) S=some r->VI (den X K fn c) S=some r
def LOk.nil{X:Ctx}{K:jS}{fn:Nat}{L:Loops}:LOk X K fn L []:=λ_ h=>by simp at h
def LOk.cons{X:Ctx}{K:jS}{fn:Nat}{L:Loops}{c:Code}{cs:List Code}(h:∀S r,L (lid c) S=some r->VI (den X K fn c) S=some r)(k:LOk X K fn L cs):LOk X K fn L (c::cs):=by
 intro d hd;rcases List.mem_cons.1 hd with rfl|hd
 ·exact h
 ·exact k d hd
def avK{X:Ctx}{K:jS}{L:Loops}{fn:Nat}:∀{c:Code} {S:St} {r:Ex×St},LOk X K fn L (loops c)->LU X K L fn c S=some r->den X K fn c S=some r:=by
 intro c;induction c with
 |seq a b iha ihb=>
  intro S r hL h;have hLa:LOk X K fn L (loops a):=λd hd=>hL d (by simp[loops,hd])
  have hLb:LOk X K fn L (loops b):=λd hd=>hL d (by simp[loops,hd])
  simp only[LU] at h;simp only[den];cases ha:LU X K L fn a S with
  |none=>simp[ha] at h
  |some q=>
   rw[iha hLa ha];rw[ha] at h;obtain⟨e,S'⟩:=q;cases e with
   |normal=>exact ihb hLb h
   |exit id=>exact h
   |ret=>exact h
 |cond c a b iha ihb=>
  intro S r hL h;have hLa:LOk X K fn L (loops a):=λd hd=>hL d (by simp[loops,hd])
  have hLb:LOk X K fn L (loops b):=λd hd=>hL d (by simp[loops,hd])
  simp only[LU] at h;simp only[den];cases hc:aao X.P S.tm c with
  |none=>simp[hc] at h
  |some q=>
   rw[hc] at h;cases q with
   |true=>exact iha hLa h
   |false=>exact ihb hLb h
 |block id c ih=>
  intro S r hL h;simp only[LU] at h;simp only[den];cases ha:LU X K L fn c S with
  |none=>simp[ha] at h
  |some q=>rw[ih hL ha];rw[ha] at h;exact h
 |loop c ih=>intro S r hL h;exact hL c (by simp[loops]) S r h
 |region id ops draw=>intro S r hL h;exact h
 |skip=>intro S r hL h;exact h
 |exit id=>intro S r hL h;exact h
 |ret=>intro S r hL h;exact h
 |_=>intro S r hL h;simp[LU] at h
def asw(X:Ctx)(L:Loops)(fn:Nat)(c:Code):∀S,Up λK=>LU X K L fn c S:=by
 induction c with
 |region id ops draw=>
  intro S K K' hK r hr;simp only[LU] at hr⊢;cases h:region X K fn id ops draw S with
  |none=>simp[h] at hr
  |some S'=>have he0:=ako X fn id ops draw S K K' hK S' h;dsimp only at he0;rw[he0];rw[h] at hr;exact hr
 |seq a b iha ihb=>
  intro S K K' hK r hr;simp only[LU] at hr⊢;cases h:LU X K L fn a S with
  |none=>simp[h] at hr
  |some q=>
   have he0:=iha S K K' hK q h;dsimp only at he0;rw[he0];rw[h] at hr;obtain⟨e,S'⟩:=q;cases e with
   |normal=>exact ihb S' K K' hK r hr
   |exit id=>exact hr
   |ret=>exact hr
 |cond c a b iha ihb=>
  intro S K K' hK r hr;simp only[LU] at hr⊢;cases h:aao X.P S.tm c with
  |none=>simp[h] at hr
  |some q=>
   rw[h] at hr;cases q with
   |true=>exact iha S K K' hK r hr
   |false=>exact ihb S K K' hK r hr
 |block id c ih=>
  intro S K K' hK r hr;simp only[LU] at hr⊢;cases h:LU X K L fn c S with
  |none=>simp[h] at hr
  |some q=>have he0:=ih S K K' hK q h;dsimp only at he0;rw[he0];rw[h] at hr;exact hr
 |_=>intro S;exact Up.const _
def avL(X:Ctx)(L:Loops)(f:Nat)(args:List V)(cells:List Cell):Up λK=>aeY X K L f args cells:=by
 intro K K' hK r hr;simp only[aeY] at hr⊢;cases hg:X.P.funcs[f]? with
 |none=>simp[hg] at hr
 |some g=>
  simp only[hg] at hr⊢;cases hcd:g.body with
  |none=>simp[hcd] at hr
  |some c=>
   simp only[hcd] at hr⊢;revert hr;generalize (!(Nat.ble cells.length nK && Nat.ble args.length g.ntmps))=q;cases q with
   |true=>exact id
   |false=>
    simp only[aS];intro hr;split at hr
    ·rename_i tm m l he;cases h:LU X K L f c ⟨tm,m⟩ with
     |none=>simp[h] at hr
     |some q=>have he0:=asw X L f c ⟨tm,m⟩ K K' hK q h;dsimp only at he0;rw[he0];rw[h] at hr;exact hr
    ·cases hr
def az8{X:Ctx}{K:jS}{L:Loops}{f:Nat}{args:List V}{cells:List Cell}{r:List Row×List Cell}(hL:LOk X K f L (loops (codeOf X.P f)))(h:aeY X K L f args cells=some r):body X K f args cells=some r:=by
 simp only[aeY] at h;simp only[body];cases hg:X.P.funcs[f]? with
 |none=>simp[hg] at h
 |some g=>
  simp only[hg] at h⊢;cases hcd:g.body with
  |none=>simp[hcd] at h
  |some c=>
   simp only[hcd] at h⊢;have hcode:codeOf X.P f=c:=by simp[codeOf,hg,hcd]
   rw[hcode] at hL;revert h;generalize (!(Nat.ble cells.length nK && Nat.ble args.length g.ntmps))=q;cases q with
   |true=>exact id
   |false=>
    simp only[aS];intro h;split at h
    ·rename_i tm m l he;simp only[he];cases hd:LU X K L f c ⟨tm,m⟩ with
     |none=>simp[hd] at h
     |some q=>rw[avK hL hd];rw[hd] at h;exact h
    ·cases h
def avM{X:Ctx}{K:jS}{L:Loops}{f:Nat}{args:List V}{cells:List Cell}{r:List Row×List Cell}(hp:X.Yx f=none)(hK:KLe K (call X))(hL:LOk X (call X) f L (loops (codeOf X.P f)))
  (h:aeY X K L f args cells=some r):call X f args cells=some r:=by
 exact az7 (KLe.refl _) hp (az8 hL (avL X L f args cells K (call X) hK r h))
def az9{X:Ctx}{K:jS}{L:Loops}{fn:Nat}{c:Code}{S:St}{r:Ex×St}(hK:KLe K (call X))(hL:LOk X (call X) fn L (loops c))(h:LU X K L fn c S=some r):den X (call X) fn c S=some r:=
 avK hL (asw X L fn c S K (call X) hK r h)
end Go.Vm
namespace Go.Vm
open Go
open Go.IntKind (i64)
structure Res(α:Type) where
 β:Type
 o:Option β
 enc:β->α
def Res.val{α:Type}(r:Res α):Option α:=r.o.map r.enc
abbrev QY:=Nat->List V->List Cell->Res (List Row×List Cell)
inductive Alt(α:Type):Type 1 where
 |leaf (β:Type) (enc:β->α)
 |sum (a b:Alt α)
def Alt.T{α:Type}:Alt α->Type
 | .leaf β _=>β
 | .sum a b=>a.T⊕b.T
def Alt.enc{α:Type}:(a:Alt α)->a.T->α
 | .leaf _ enc,x=>enc x
 | .sum a _,.inl x=>a.enc x
 | .sum _ b,.inr x=>b.enc x
structure abk(α:Type) where
 alt:Alt α
 o:Option alt.T
def abk.val{α:Type}(r:abk α):Option α:=r.o.map r.alt.enc
def abk.none{α:Type}:abk α:=⟨.leaf Empty Empty.elim,.none⟩
abbrev VQ:=Nat->St->abk (Ex×St)
def QY.to(K:QY):jS:=λf a c=>(K f a c).val
def VQ.to(L:VQ):Loops:=λn S=>(L n S).val
def Res.none{α:Type}:Res α:=⟨Empty,.none,Empty.elim⟩
section
variable {R:Type}
def o8{α β γ:Type}(r:α⊕β)(f:α->Option γ)(g:β->Option γ):Option γ:=match r with
 | .inl x=>f x
 | .inr y=>g y
def Alt.go{α:Type}:(a:Alt α)->a.T->(α->Option R)->Option R
 | .leaf _ enc=>λx k=>k (enc x)
 | .sum a b=>λx k=>o8 x (λx=>a.go x k) (λy=>b.go y k)
def Alt.go_eq{α:Type}(k:α->Option R):∀(a:Alt α) (x:a.T),a.go x k=k (a.enc x)
 | .leaf _ enc,x=>rfl
 | .sum a _,.inl x=>Alt.go_eq k a x
 | .sum _ b,.inr x=>Alt.go_eq k b x
def abk.ahj{α:Type}{r:abk α}{x:α}(h:r.val=some x):∃y,r.o=some y∧r.alt.enc y=x:=by simpa[abk.val,Option.map_eq_some_iff] using h
def Res.ahj{α:Type}{r:Res α}{x:α}(h:r.val=some x):∃y,r.o=some y∧r.enc y=x:=by simpa[Res.val,Option.map_eq_some_iff] using h
def Acc.alY{α:Type}:Acc α->Mem->Log->(α->Mem->Log->Option R)->Option R
 | .ret a,m,l,k=>k a m l
 | .fail,_,_,_=>none
 | .get i c,m,l,k=>(c (Vm.get i m)).alY m (l.rd i) k
 | .set i x c,m,l,k=>c.alY (put i x m) (l.wr i) k
 | .opt o c,m,l,k=>match o with|some b=>(c b).alY m l k|none=>none
 | .guard b c,m,l,k=>match b with|true=>c.alY m l k|false=>none
def ark(X:Ctx)(K:QY)(fn dst f:Nat)(args:List V):Acc V:=do
 let g<-op' X.P.funcs[f]?
 ck (g.body.isSome && !(g.name == "runtime.NumGoroutine"))
 let imp:=Uw X.OU f 0 [] args
 let args<-WA X.OU f 0 args
 let cells<-YB X.OU imp imp
 let(args,TG)<-WC X.OU imp f 0 args
 ck (TG.all λr=> !(mem? r imp))
 let b<-op' (K f args cells).o
 let out:=(K f args cells).enc b
 ck (Nat.beq out.1.length g.resultTypes.size)
 let need:= !(TG.isEmpty) &&(ZL X.P (X.OU.att fn dst) 0 g.resultTypes.toList && imp.isEmpty)
 ck (bif need then out.1.all bM else true)
 freeze (bif need then[] else TG)
 aer X dst out.2 0 imp
 let vs<-aaV X (X.OU.att fn dst) dst out.1 0 g.resultTypes.toList
 match vs with
 |[v]=>pure v
 |vs=>pure (.DL vs)
def aEQ(X:Ctx)(K:QY)(fn:Nat)(tm:lD)(o:Oper):Acc V:=
 match o.op with
 | .call {callee:=.value f,args,argTypes}=>match ev X.P tm 0 f with
  | .clo g first caps=>ark X K fn (o.dst.getD 0) g (first++vU X.P tm args.toList argTypes.toList++caps)
  |_=> .fail
 |_=>vop X (λ_ _ _=>none) fn tm o
def avN(x:D)(k:D->Option R):Option R:=match x with
 | .int j n=>k (.int j n)
 | .bool b=>k (.bool b)
 | .str s=>k (.str s)
 | .U1=>k .U1
 | .sl o s rows=>match o with
  |true=>k (.sl true s rows)
  |false=>k (.sl false s rows)
mutual
def Jh(v:V)(k:V->Option R):Option R:=match v with
 | .d x=>avN x λx=>k (.d x)
 | .nil s=>k (.nil s)
 | .own r v=>k (.own r v)
 | .ptr r o=>k (.ptr r o)
 | .xB r v i o=>k (.xB r v i o)
 | .rU row o=>k (.rU row o)
 | .Ae v=>Jh v λv=>k (.Ae v)
 | .clo f a b=>UD a λa=>UD b λb=>k (.clo f a b)
 | .agg cs=>UD cs λcs=>k (.agg cs)
 | .DL cs=>UD cs λcs=>k (.DL cs)
 | .undef=>k .undef
def UD(vs:List V)(k:List V->Option R):Option R:=match vs with
 |[]=>k []
 |v::vs=>Jh v λv=>UD vs λvs=>k (v::vs)
end
def ZU(tm:lD)(k:lD->Option R):Option R:=match tm with
 |[]=>k []
 |(t,v)::tm=>Jh v λv=>ZU tm λtm=>k ((t,v)::tm)
def ZV(c:Cell)(k:Cell->Option R):Option R:=match c with
 | .box t cs=>UD cs λcs=>k (.box t cs)
 | .arr fz fl ver s rows=>k (.arr fz fl ver s rows)
 | .dead=>k .dead
 | .JY ver s rows=>k (.JY ver s rows)
 | .pY t v=>Jh v λv=>k (.pY t v)
def U9(m:Mem)(k:Mem->Option R):Option R:=match m with
 |[]=>k []
 |(r,c)::m=>ZV c λc=>U9 m λm=>k ((r,c)::m)
def aug(L:List (Nat×Nat))(r:Nat)(k:Nat->Option R):Option R:=match get r L with
 |some j=>k j
 |none=>k r
mutual
def Us(L:List (Nat×Nat))(v:V)(k:V->Option R):Option R:=match v with
 | .d x=>k (.d x)
 | .nil s=>k (.nil s)
 | .own r v=>aug L r λr=>k (.own r v)
 | .ptr r o=>aug L r λr=>k (.ptr r o)
 | .xB r v i o=>aug L r λr=>k (.xB r v i o)
 | .rU row o=>k (.rU row o)
 | .Ae v=>Us L v λv=>k (.Ae v)
 | .clo f a b=>XJ L a λa=>XJ L b λb=>k (.clo f a b)
 | .agg cs=>XJ L cs λcs=>k (.agg cs)
 | .DL vs=>XJ L vs λvs=>k (.DL vs)
 | .undef=>k .undef
def XJ(L:List (Nat×Nat))(vs:List V)(k:List V->Option R):Option R:=match vs with
 |[]=>k []
 |v::vs=>Us L v λv=>XJ L vs λvs=>k (v::vs)
end
def alZ(L:List (Nat×Nat))(tm:lD)(k:lD->Option R):Option R:=match tm with
 |[]=>k []
 |(t,v)::tm=>Us L v λv=>alZ L tm λtm=>k ((t,v)::tm)
def asx(L:List (Nat×Nat))(c:Cell)(k:Cell->Option R):Option R:=match c with
 | .box t cs=>XJ L cs λcs=>k (.box t cs)
 | .arr fz fl ver s rows=>k (.arr fz fl ver s rows)
 | .dead=>k .dead
 | .JY ver s rows=>k (.JY ver s rows)
 | .pY t v=>Us L v λv=>k (.pY t v)
def agd(L:List (Nat×Nat))(m:Mem)(k:Mem->Option R):Option R:=match m with
 |[]=>k []
 |(r,c)::m=>aug L r λr=>asx L c λc=>agd L m λm=>U9 (put r c m) k
def al0(l:List Nat)(k:List Nat->Option R):Option R:=match l with
 |[]=>k []
 |x::l=>al0 l λl=>k (x::l)
def agf(l:List (Nat×Nat))(k:List (Nat×Nat)->Option R):Option R:=match l with
 |[]=>k []
 |(x,y)::l=>agf l λl=>k ((x,y)::l)
def al1(S:St)(k:St->Option R):Option R:=al0 (azL S.tm S.mem) λo=>match o with
 |[]=>k S
 |a::o=>agf (azM names (a::o)) λL=>match abW L (S.mem.map (·.1)) with
  |true=>alZ L S.tm λtm=>agd L S.mem λm=>k ⟨tm,m⟩
  |false=>k S
def al2(ops:Array Oper)(tm:lD)(o:Oper)(k:Bool->lD->Option R):Option R:=
 match o.guard with
 |none=>k true tm
 |some (j,want)=>match ops[j]? with
  |some oj=>match oj.dst with
   |some d=>match Xt d tm with
    | .d (.bool b)=>match b with
     |true=>k want (put d (.d (.bool true)) tm)
     |false=>k (!want) (put d (.d (.bool false)) tm)
    | .DL vs=>match vs with
     |[]=>k false (put d (.DL []) tm)
     |_::_=>none
    |_=>none
   |none=>none
  |none=>none
def arl(X:Ctx)(K:QY)(fn:Nat)(ops:Array Oper)(i:Nat)(S:St)(k:St->Log->Option R):Option R:=
 match ops[i]? with
 |none=>none
 |some o=>al2 ops S.tm o λb tm=>match b with
  |false=>k ⟨aes (J4 X.P fn) o.dst tm,S.mem⟩ .none
  |true=>(aEQ X K fn tm o).alY S.mem .none λv m l=>bif Q8 (J4 X.P fn) o.dst then Jh v λv=>k ⟨aaQ o.dst v tm,m⟩ l else none
def ZW(X:Ctx)(K:QY)(fn:Nat)(ops:Array Oper):List Nat->St->List (Nat×Log)->(St->List (Nat×Log)->Option R)->Option R
 |[],S,L,k=>k S L
 |i::is,S,L,k=>arl X K fn ops i S λS' l=>ZW X K fn ops is S' ((i,l)::L) k
def aCH(X:Ctx)(ops:Array Oper)(L:List (Nat×Log)):Bool->Bool
 |false=>true
 |true=>X.P.follows .mixedOrders &&(backOk ops && YE ops (Region.before ops) L)
def al3(X:Ctx)(K:QY)(tm:lD)(o1 o2 o3:Oper):Acc (Nat×Nat×V×V):=
 match o1,o2,o3 with
 |⟨some d1,.load t (.tmp ta),_,_,_,none⟩,⟨some d2,.move x,ty2,_,_,none⟩,⟨_,.call ⟨.value (.func f),args,_⟩,_,_,_,none⟩=>do
  ck (!(Nat.beq d1 d2) &&(asa args d1 d2 &&(aEw d1 x &&(Gw X.P t &&(Nat.beq (nG X.P t) 1 &&(!(Oi X.P t) && avd X f))))))
  let e<-op' (elT X.P t)
  match Xt ta tm,ev X.P tm ty2 x with
  | .xB r ver i off,.d (.int k n)=>do
   match<-rd r with
   |some (.arr false false jy s rows)=>do
    ck (Nat.beq ver jy && Nat.ble (off+1) s)
    let row<-op' rows[i]?
    let rs<-op' (au3 (nG X.P e) row off)
    ck (aam (uI X.P e) rs)
    let b<-op' (K f [.own nK 0,.d (.int k n)] [.arr false (uI X.P e) 0 (nG X.P e) rs]).o
    let out:=(K f [.own nK 0,.d (.int k n)] [.arr false (uI X.P e) 0 (nG X.P e) rs]).enc b
    let q<-op' (abX out)
    ck (agK (nG X.P e) (uI X.P e) q)
    wr r (.arr false false jy s (rows.set i (splice row off [.sl true (nG X.P e) q.2.2.2.2])))
    pure (d1,d2,.d (.int k n),.d (.int q.1 q.2.1))
   |_=> .fail
  |_,_=> .fail
 |_,_,_=> .fail
def ahk(X:Ctx)(K:QY)(fn:Nat)(ops:Array Oper)(p:Nat)(S:St)(k:St->Option R):Option R:=
 match ops[p]?,ops[p+1]?,ops[p+2]? with
 |some o1,some o2,some o3=>(al3 X K S.tm o1 o2 o3).alY S.mem .none λr m _=>bif Nat.blt r.1 (J4 X.P fn) &&(Nat.blt r.2.1 (J4 X.P fn) && Q8 (J4 X.P fn) o3.dst) then k ⟨aaQ o3.dst r.2.2.2 (put r.2.1 r.2.2.1 (put r.1 .undef S.tm)),m⟩ else none
 |_,_,_=>none
def abl(X:Ctx)(K:QY)(fn id:Nat)(ops:Array Oper)(draw:Bool)(S:St)(k:St->List (Nat×Log)->Option R):Option R:=
 match X.OU.fuse fn id with
 |0=>ZW X K fn ops (List.range ops.size) S [] k
 |p+1=>match draw with
  |true=>none
  |false=>ZW X K fn ops (List.range p) S [] λS1 _=>ahk X K fn ops p S1 λS2=>ZW X K fn ops ((List.range ops.size).drop (p+3)) S2 [] k
def al4(X:Ctx)(K:QY)(fn id:Nat)(ops:Array Oper)(draw:Bool)(S:St)(k:St->Option R):Option R:=
 abl X K fn id ops draw S λS' L=>
  bif aCH X ops L draw then(match aaY (X.OU.keep fn id) S' with
   |some S''=>ZU S''.tm λtm=>U9 S''.mem λm=>al1 ⟨tm,m⟩ k
   |none=>none) else none
def rep(k:Nat)(x:V):lD->lD
 |[]=>[]
 |(j,y)::l=>match Nat.beq k j with
  |true=>(j,x)::l
  |false=>(j,y)::rep k x l
def aAa(c:Operand)(b:Bool)(S:St):St:=match c with
 | .tmp i=>⟨rep i (.d (.bool b)) S.tm,S.mem⟩
 |_=>S
def asy{k:Nat}{x:V}:∀{l:lD},get k l=some x->rep k x l=l
 |[],h=>rfl
 |(j,y)::l,h=>by
  simp only[get] at h;rw[rep];cases hb:Nat.beq k j with
  |true=>rw[hb] at h;simp only[aI,iI] at h;rw[h]
  |false=>rw[hb] at h;simp only;rw[asy h]
def asz{P:Program}{c:Operand}{b:Bool}{S:St}(h:ev P S.tm 0 c=.d (.bool b)):aAa c b S=S:=by
 cases c with
 |tmp i=>
  simp only[ev,Xt] at h;cases hg:get i S.tm with
  |none=>rw[hg] at h;cases h
  |some v=>rw[hg] at h;simp only at h;subst h;rw[aAa,asy hg]
 |_=>rfl
def abm(X:Ctx)(K:QY)(L:VQ)(fn:Nat):Code->St->(Ex->St->Option R)->Option R
 | .skip,S,k=>k .normal S
 | .region id ops draw,S,k=>al4 X K fn id ops draw S λS'=>k .normal S'
 | .seq a b,S,k=>abm X K L fn a S λe S'=>match e with
  | .normal=>abm X K L fn b S' k
  |e=>k e S'
 | .cond c a b,S,k=>match ev X.P S.tm 0 c with
  | .d (.bool t)=>(match t with
   |true=>abm X K L fn a (aAa c true S) k
   |false=>abm X K L fn b (aAa c false S) k)
  |_=>none
 | .block id c,S,k=>abm X K L fn c S λe S'=>match e with
  | .exit j=>bif Nat.beq j id then k .normal S' else k (.exit j) S'
  |e=>k e S'
 | .loop c,S,k=>match(L (lid c) S).o with
  |some b=>(L (lid c) S).alt.go b λr=>k r.1 r.2
  |none=>none
 | .exit id,S,k=>k (.exit id) S
 | .ret,S,k=>k .ret S
 |_,_,_=>none
def al5(X:Ctx)(g:Func)(n:Nat)(S:St)(k:List Row->List Cell->Option R):Option R:=
 (do
  let rows<-ZM X.P S.tm g.results.toList g.resultTypes.toList
  let cells<-YB X.OU (wL n) (wL n)
  pure (rows,cells):Acc (List Row×List Cell)).alY S.mem .none λr _ _=>k r.1 r.2
def bodyC(X:Ctx)(K:QY)(L:VQ)(f:Nat)(args:List V)(cells:List Cell)(k:List Row->List Cell->Option R):Option R:=
 match X.P.funcs[f]? with
 |some g=>match g.body with
  |some c=>bif !(Nat.ble cells.length nK && Nat.ble args.length g.ntmps) then none else(entry X f g args cells).alY (sF 0 cells) .none λtm m _=>
   ZU tm λtm=>U9 m λm=>abm X K L f c ⟨tm,m⟩ λe S=>match e with
    | .normal=>al5 X g cells.length S k
    | .ret=>al5 X g cells.length S k
    | .exit _=>none
  |none=>none
 |none=>none
def agh{α:Type}(A:Acc α):∀(m:Mem) (l:Log) (k:α->Mem->Log->Option R),A.alY m l k=(A.run m l).bind λr=>k r.1 r.2.1 r.2.2:=by
 induction A with
 |ret a=>intro m l k;rfl
 |fail=>intro m l k;rfl
 |get i c ih=>intro m l k;exact ih _ _ _ _
 |set i x c ih=>intro m l k;exact ih _ _ _
 |opt o c ih=>intro m l k;cases o with
  |none=>rfl
  |some b=>exact ih b _ _ _
 |guard b c ih=>intro m l k;cases b with
  |false=>rfl
  |true=>exact ih _ _ _
def auh(x:D)(k:D->Option R):avN x k=k x:=by
 cases x with
 |sl o s rows=>cases o<;>rfl
 |_=>rfl
mutual
def WZ:∀(v:V) (k:V->Option R),Jh v k=k v
 | .d x,k=>by simp only[Jh,auh]
 | .nil s,k=>by simp only[Jh]
 | .own r v,k=>by simp only[Jh]
 | .ptr r o,k=>by simp only[Jh]
 | .xB r v i o,k=>by simp only[Jh]
 | .rU row o,k=>by simp only[Jh]
 | .Ae v,k=>by simp only[Jh];rw[WZ v]
 | .clo f a b,k=>by simp only[Jh];rw[Ro a,Ro b]
 | .agg cs,k=>by simp only[Jh];rw[Ro cs]
 | .DL cs,k=>by simp only[Jh];rw[Ro cs]
 | .undef,k=>by simp only[Jh]
def Ro:∀(vs:List V) (k:List V->Option R),UD vs k=k vs
 |[],k=>by simp only[UD]
 |v::vs,k=>by simp only[UD];rw[WZ v,Ro vs]
end
def abn:∀(tm:lD) (k:lD->Option R),ZU tm k=k tm
 |[],k=>rfl
 |(t,v)::tm,k=>by simp only[ZU];rw[WZ v,abn tm]
def al6(c:Cell)(k:Cell->Option R):ZV c k=k c:=by
 cases c with
 |box t cs=>simp only[ZV,Ro]
 |pY t v=>simp only[ZV,WZ]
 |_=>rfl
def VR:∀(m:Mem) (k:Mem->Option R),U9 m k=k m
 |[],k=>rfl
 |(t,v)::m,k=>by simp only[U9];rw[al6 v,VR m]
def agi(L:List (Nat×Nat))(r:Nat)(k:Nat->Option R):aug L r k=k (ren L r):=by unfold aug ren;cases get r L<;>rfl
mutual
def aco(L:List (Nat×Nat)):∀(v:V) (k:V->Option R),Us L v k=k (Ue L v)
 | .d x,k=>by simp only[Us,Ue]
 | .nil s,k=>by simp only[Us,Ue]
 | .own r v,k=>by simp only[Us,Ue,agi]
 | .ptr r o,k=>by simp only[Us,Ue,agi]
 | .xB r v i o,k=>by simp only[Us,Ue,agi]
 | .rU row o,k=>by simp only[Us,Ue]
 | .Ae v,k=>by simp only[Us,Ue];rw[aco L v]
 | .clo f a b,k=>by simp only[Us,Ue];rw[UW L a,UW L b]
 | .agg cs,k=>by simp only[Us,Ue];rw[UW L cs]
 | .DL vs,k=>by simp only[Us,Ue];rw[UW L vs]
 | .undef,k=>by simp only[Us,Ue]
def UW(L:List (Nat×Nat)):∀(vs:List V) (k:List V->Option R),XJ L vs k=k (YD L vs)
 |[],k=>by simp only[XJ,YD]
 |v::vs,k=>by simp only[XJ,YD];rw[aco L v,UW L vs]
end
def akq(L:List (Nat×Nat)):∀(tm:lD) (k:lD->Option R),alZ L tm k=k (agJ L tm)
 |[],k=>rfl
 |(t,v)::tm,k=>by simp only[alZ,agJ];rw[aco L v,akq L tm]
def avO(L:List (Nat×Nat))(c:Cell)(k:Cell->Option R):asx L c k=k (agI L c):=by
 cases c with
 |box t cs=>simp only[asx,agI,UW]
 |pY t v=>simp only[asx,agI,aco]
 |_=>rfl
def ahl(L:List (Nat×Nat)):∀(m:Mem) (k:Mem->Option R),agd L m k=k (U2 L m)
 |[],k=>rfl
 |(r,c)::m,k=>by simp only[agd,U2,agi,avO];rw[ahl L m,VR]
def akr:∀(l:List Nat) (k:List Nat->Option R),al0 l k=k l
 |[],k=>rfl
 |x::l,k=>by simp only[al0];rw[akr l]
def ahm:∀(l:List (Nat×Nat)) (k:List (Nat×Nat)->Option R),agf l k=k l
 |[],k=>rfl
 |(x,y)::l,k=>by simp only[agf];rw[ahm l]
def aui(S:St)(k:St->Option R):al1 S k=k (canon S):=by
 unfold al1 canon;rw[akr];cases azL S.tm S.mem with
 |nil=>rfl
 |cons a o=>
  simp only[ahm,alH];cases abW (azM names (a::o)) (S.mem.map (·.1)) with
  |true=>simp only[akq,ahl]
  |false=>rfl
def MF{α:Type}(a b:Acc α):Prop:=∀m l,a.run m l=b.run m l
def MF.refl{α:Type}(a:Acc α):MF a a:=λ_ _=>rfl
def MF.bind{α β:Type}{a:Acc α}{f g:α->Acc β}(h:∀x,MF (f x) (g x)):MF (a>>=f) (a>>=g):=by
 intro m l;rw[run_bind,run_bind];cases a.run m l with
 |none=>rfl
 |some r=>obtain⟨x,m,l⟩:=r;exact h x m l
def MF.enc{α β γ:Type}{o:Option β}{enc:β->α}{f:α->Acc γ}:MF (op' o>>=λb=>f (enc b)) (op' (o.map enc)>>=f):=by intro m l;rw[run_bind,run_bind];cases o<;>rfl
def arn{X:Ctx}{K:QY}{fn dst f:Nat}{args:List V}{m:Mem}{l:Log}:(ark X K fn dst f args).run m l=(abU X K.to fn dst f args).run m l:=by
 revert m l;show MF _ _;unfold ark abU;refine MF.bind λg=>MF.bind λ_=>MF.bind λargs=>MF.bind λcells=>MF.bind fun⟨args,TG⟩=>MF.bind λ_=> ?_
 exact MF.enc (o:=(K f args cells).o) (enc:=(K f args cells).enc) (f:=λout=>do
  ck (Nat.beq out.1.length g.resultTypes.size)
  ck (bif(!(TG.isEmpty) &&(ZL X.P (X.OU.att fn dst) 0 g.resultTypes.toList &&(Uw X.OU _ 0 [] _).isEmpty)) then out.1.all bM else true)
  freeze (bif(!(TG.isEmpty) &&(ZL X.P (X.OU.att fn dst) 0 g.resultTypes.toList &&(Uw X.OU _ 0 [] _).isEmpty)) then[] else TG)
  aer X dst out.2 0 (Uw X.OU _ 0 [] _)
  let vs<-aaV X (X.OU.att fn dst) dst out.1 0 g.resultTypes.toList
  match vs with
  |[v]=>pure v
  |vs=>pure (.DL vs))
def avP{X:Ctx}{K:QY}{fn:Nat}{tm:lD}{o:Oper}{m:Mem}{l:Log}:(aEQ X K fn tm o).run m l=(vop X K.to fn tm o).run m l:=by
 obtain⟨dst,op,type,pos,after,guard⟩:=o;cases op<;>try rfl
 case call c=>
  obtain⟨callee,args,tys⟩:=c;cases callee with
  |value f=>
   simp only[aEQ,vop];cases ev X.P tm 0 f with
   |clo g a b=>exact arn
   |_=>rfl
  |invoke r m=>rfl
  |builtin b=>cases b<;>rfl
 case makeFunc f a b=>cases f<;>rfl
 case slice a b c d e=>cases e<;>rfl
def aro(ops:Array Oper)(tm:lD)(o:Oper)(k:Bool->lD->Option R):al2 ops tm o k=(Fz ops tm o).bind λr=>k r.1 r.2:=by
 unfold al2 Fz;cases o.guard with
 |none=>rfl
 |some jw=>
  obtain⟨j,want⟩:=jw;simp only;cases ops[j]? with
  |none=>rfl
  |some oj=>
   simp only;cases oj.dst with
   |none=>rfl
   |some d=>
    simp only;cases Xt d tm with
    |d x=>cases x with
     |bool b=>cases b<;>rfl
     |_=>rfl
    |DL vs=>cases vs<;>rfl
    |_=>rfl
def auj(X:Ctx)(K:QY)(fn:Nat)(ops:Array Oper)(i:Nat)(S:St)(k:St->Log->Option R):arl X K fn ops i S k=(DI X K.to fn ops i S).bind λr=>k r.1 r.2:=by
 unfold arl DI;cases ops[i]? with
 |none=>rfl
 |some o=>
  simp only[aro];cases Fz ops S.tm o with
  |none=>rfl
  |some r=>
   obtain⟨b,tm⟩:=r;cases b with
   |false=>rfl
   |true=>
    simp only[Option.bind_some,agh,avP];cases(vop X K.to fn tm o).run S.mem .none with
    |none=>rfl
    |some r=>
     obtain⟨v,m,l⟩:=r;simp only[Option.bind_some];cases Q8 (J4 X.P fn) o.dst with
     |false=>rfl
     |true=>simp only[aI,WZ];rfl
def abo(X:Ctx)(K:QY)(fn:Nat)(ops:Array Oper):∀(is:List Nat) (S:St) (L:List (Nat×Log)) (k:St->List (Nat×Log)->Option R),ZW X K fn ops is S L k=(y7 X K.to fn ops is S L).bind λr=>k r.1 r.2
 |[],S,L,k=>rfl
 |i::is,S,L,k=>by
  simp only[ZW,adD,auj];cases DI X K.to fn ops i S with
  |none=>rfl
  |some r=>simp only[Option.bind_some];exact abo X K fn ops is _ _ k
def anz{X:Ctx}{K:QY}{tm:lD}{o1 o2 o3:Oper}{m:Mem}{l:Log}:(al3 X K tm o1 o2 o3).run m l=(Uf X K.to tm o1 o2 o3).run m l:=by
 revert m l;show MF _ _;unfold al3 Uf;split
 ·rename_i d1 t ta _ _ _ d2 x ty2 _ _ _ f args _ _ _ _;refine MF.bind λ_=>MF.bind λe=> ?_
  generalize Xt ta tm=ga;generalize ev X.P tm ty2 x=kv;cases ga with
  |xB r ver i off=>
   cases kv with
   |d y=>
    cases y with
    |int k n=>
     refine MF.bind λc=> ?_
     cases c with
     |none=>exact MF.refl _
     |some c=>cases c with
      |arr fz fl jy s rows=>cases fz with
       |true=>exact MF.refl _
       |false=>cases fl with
        |true=>exact MF.refl _
        |false=>
         refine MF.bind λ_=>MF.bind λrow=>MF.bind λrs=>MF.bind λ_=> ?_
         exact MF.enc (o:=(K f [.own nK 0,.d (.int k n)] [.arr false (uI X.P e) 0 (nG X.P e) rs]).o) (enc:=(K f [.own nK 0,.d (.int k n)] [.arr false (uI X.P e) 0 (nG X.P e) rs]).enc) (f:=λout=>do
          let q<-op' (abX out)
          ck (agK (nG X.P e) (uI X.P e) q)
          wr r (.arr false false jy s (rows.set i (splice row off [.sl true (nG X.P e) q.2.2.2.2])))
          pure (d1,d2,V.d (.int k n),V.d (.int q.1 q.2.1)))
      |_=>exact MF.refl _
    |_=>exact MF.refl _
   |_=>exact MF.refl _
  |_=>exact MF.refl _
 ·rename_i hno;split
  ·exfalso;apply hno<;>rfl
  ·exact MF.refl _
def anA(X:Ctx)(K:QY)(fn:Nat)(ops:Array Oper)(p:Nat)(S:St)(k:St->Option R):ahk X K fn ops p S k=(J5 X K.to fn ops p S).bind k:=by
 simp only[ahk,abg];cases ops[p]? with
 |none=>rfl
 |some o1=>cases ops[p+1]? with
  |none=>rfl
  |some o2=>cases ops[p+2]? with
   |none=>rfl
   |some o3=>
    simp only[agh,anz];cases(Uf X K.to S.tm o1 o2 o3).run S.mem .none with
    |none=>rfl
    |some r=>simp only[Option.bind_some];cases(Nat.blt r.1.1 (J4 X.P fn) &&(Nat.blt r.1.2.1 (J4 X.P fn) && Q8 (J4 X.P fn) o3.dst))<;>rfl
def ajy(X:Ctx)(K:QY)(fn id:Nat)(ops:Array Oper)(draw:Bool)(S:St)(k:St->List (Nat×Log)->Option R):abl X K fn id ops draw S k=(D7 X K.to fn id ops draw S).bind λr=>k r.1 r.2:=by
 simp only[abl,XI];cases X.OU.fuse fn id with
 |zero=>simp only[abo]
 |succ p=>
  cases draw with
  |true=>rfl
  |false=>
   simp only[abo,anA];cases y7 X K.to fn ops (List.range p) S [] with
   |none=>rfl
   |some r=>simp only[Option.bind_some];cases J5 X K.to fn ops p r.1<;>rfl
def arp(X:Ctx)(K:QY)(fn id:Nat)(ops:Array Oper)(draw:Bool)(S:St)(k:St->Option R):al4 X K fn id ops draw S k=(region X K.to fn id ops draw S).bind k:=by
 simp only[al4,adE,ajy];cases D7 X K.to fn id ops draw S with
 |none=>rfl
 |some r=>
  simp only[Option.bind_some];have hp:(match aaY (X.OU.keep fn id) r.1 with
   |some S''=>ZU S''.tm λtm=>U9 S''.mem λm=>al1 ⟨tm,m⟩ k
   |none=>none)=(prune (X.OU.keep fn id) r.1).bind k:=by
   unfold prune;cases aaY (X.OU.keep fn id) r.1 with
   |none=>rfl
   |some S''=>simp only[abn,VR,aui];rfl
  rw[hp];cases draw with
  |false=>rfl
  |true=>simp only[aCH];cases(X.P.follows .mixedOrders &&(backOk ops && YE ops (Region.before ops) r.2))<;>rfl
def asA(X:Ctx)(K:QY)(L:VQ)(fn:Nat)(c:Code):∀(S:St) (k:Ex->St->Option R),abm X K L fn c S k=(LU X K.to L.to fn c S).bind λr=>k r.1 r.2:=by
 induction c with
 |skip=>intro S k;rfl
 |region id ops draw=>intro S k;simp only[abm,LU,arp];cases region X K.to fn id ops draw S<;>rfl
 |seq a b iha ihb=>
  intro S k;simp only[abm,LU,iha];cases LU X K.to L.to fn a S with
  |none=>rfl
  |some r=>
   obtain⟨e,S'⟩:=r;cases e with
   |normal=>exact ihb S' k
   |exit id=>rfl
   |ret=>rfl
 |cond c a b iha ihb=>
  intro S k;simp only[abm,LU,aao];cases hev:ev X.P S.tm 0 c with
  |d x=>cases x with
   |bool t=>cases t with
    |true=>simp only[asz hev];exact iha S k
    |false=>simp only[asz hev];exact ihb S k
   |_=>rfl
  |_=>rfl
 |block id c ih=>
  intro S k;simp only[abm,LU,ih];cases LU X K.to L.to fn c S with
  |none=>rfl
  |some r=>
   obtain⟨e,S'⟩:=r;cases e with
   |normal=>rfl
   |ret=>rfl
   |exit j=>simp only[Option.bind_some];cases Nat.beq j id<;>rfl
 |loop c ih=>intro S k;simp only[abm,LU,VQ.to,abk.val,Alt.go_eq];cases(L (lid c) S).o<;>rfl
 |exit id=>intro S k;rfl
 |ret=>intro S k;rfl
 |_=>intro S k;rfl
def aks(X:Ctx)(g:Func)(n:Nat)(S:St)(k:List Row->List Cell->Option R):al5 X g n S k=(leave X g n S).bind λr=>k r.1 r.2:=by
 simp only[al5,leave,agh];split
 ·rename_i r m l he;simp only[he];rfl
 ·rename_i he;simp only[he];rfl
def avQ(X:Ctx)(K:QY)(L:VQ)(f:Nat)(args:List V)(cells:List Cell)(k:List Row->List Cell->Option R):bodyC X K L f args cells k=(aeY X K.to L.to f args cells).bind λr=>k r.1 r.2:=by
 simp only[bodyC,aeY];cases X.P.funcs[f]? with
 |none=>rfl
 |some g=>
  simp only;cases g.body with
  |none=>rfl
  |some c=>
   simp only;generalize (!(Nat.ble cells.length nK && Nat.ble args.length g.ntmps))=q;cases q with
   |true=>rfl
   |false=>
    simp only[aS,agh];cases(entry X f g args cells).run (sF 0 cells) .none with
    |none=>rfl
    |some r=>
     obtain⟨tm,m,l⟩:=r;simp only[Option.bind_some,abn,VR,asA];cases LU X K.to L.to f c ⟨tm,m⟩ with
     |none=>rfl
     |some r=>
      obtain⟨e,S⟩:=r;cases e with
      |normal=>simp only[Option.bind_some,aks]
      |ret=>simp only[Option.bind_some,aks]
      |exit j=>rfl
end
def avR{X:Ctx}{K:QY}{L:VQ}{f:Nat}{args:List V}{cells:List Cell}{r:List Row×List Cell}(hp:X.Yx f=none)(hK:KLe K.to (call X))(hL:LOk X (call X) f L.to (loops (codeOf X.P f)))
  (h:bodyC X K L f args cells (λa b=>some (a,b))=some r):call X f args cells=some r:=by
 refine avM hp hK hL ?_;rw[avQ] at h;cases hb:aeY X K.to L.to f args cells with
 |none=>rw[hb] at h;cases h
 |some q=>rw[hb] at h;exact h
def aAb{X:Ctx}{K:QY}{L:VQ}{fn:Nat}{c:Code}{S:St}{r:Ex×St}(hK:KLe K.to (call X))(hL:LOk X (call X) fn L.to (loops c))(h:abm X K L fn c S (λa b=>some (a,b))=some r):den X (call X) fn c S=some r:=by
 refine az9 hK hL ?_;rw[asA] at h;cases hb:LU X K.to L.to fn c S with
 |none=>rw[hb] at h;cases h
 |some q=>rw[hb] at h;exact h
end Go.Vm
namespace Go.Vm
open Go
open Go.IntKind (i64)
def iterM{σ τ:Type}(b:σ->Option (σ⊕τ)):Nat->σ->Option τ
 |0,_=>none
 |n+1,s=>match b s with
  |some (.inl s')=>iterM b n s'
  |some (.inr t)=>some t
  |none=>none
def abp{σ τ:Type}{b:σ->Option (σ⊕τ)}:∀{n k:Nat} {s:σ} {t:τ},iterM b n s=some t->n<=k->iterM b k s=some t
 |0,_,_,_,h,_=>by simp[iterM] at h
 |n+1,0,_,_,_,hk=>by omega
 |n+1,k+1,s,t,h,hk=>by
  simp only[iterM] at h⊢;cases hb:b s with
  |none=>simp[hb] at h
  |some q=>
   rw[hb] at h;cases q with
   |inl s'=>exact abp h ak
   |inr t'=>exact h
noncomputable def dI{σ τ:Type}(b:σ->Option (σ⊕τ))(s:σ):Option τ:=lim λn=>iterM b n s
def acp{σ τ:Type}{b:σ->Option (σ⊕τ)}{s:σ}{t:τ}{n:Nat}(h:iterM b n s=some t):dI b s=some t:=by
 refine Af h λm y hy=> ?_
 have h1:=abp h (Nat.le_max_left n m);rw[abp hy (Nat.le_max_right n m)] at h1;exact Option.some.inj h1
def abq{σ τ:Type}{b:σ->Option (σ⊕τ)}{s:σ}{t:τ}(h:dI b s=some t):∃n,iterM b n s=some t:=WY h
def bW{σ τ:Type}{b:σ->Option (σ⊕τ)}{s s':σ}(h:b s=some (.inl s')):dI b s=dI b s':=by
 cases hl:dI b s' with
 |some t=>obtain⟨n,hn⟩:=abq hl;exact acp (n:=n+1) (by simp only[iterM,h];exact hn)
 |none=>
  cases hs:dI b s with
  |none=>rfl
  |some t=>
   obtain⟨n,hn⟩:=abq hs;cases n with
   |zero=>simp[iterM] at hn
   |succ n=>simp only[iterM,h] at hn;rw[acp hn] at hl;cases hl
def bn{σ τ:Type}{b:σ->Option (σ⊕τ)}{s:σ}{t:τ}(h:b s=some (.inr t)):dI b s=some t:=
 acp (n:=1) (by simp only[iterM,h])
def fJ{σ τ:Type}{b:σ->Option (σ⊕τ)}{t:τ}(st:Nat->σ)(n:Nat)(h:∀i,i<n->b (st i)=some (.inl (st (i+1))))(he:b (st n)=some (.inr t)):∀i,i<=n->dI b (st i)=some t:=by
 intro i hi;obtain⟨d,rfl⟩:∃d,n=i+d:=⟨n - i,ak⟩
 induction d generalizing i with
 |zero=>exact bn he
 |succ d ih=>rw[bW (h i ak),ih (i+1) (λj hj=>h j ak) (by rw[show i+1+d=i+(d+1) by omega];exact he) ak]
def arq{σ τ:Type}{b:σ->Option (σ⊕τ)}{D:St->Option (Ex×St)}{tm:σ->St}{tx:τ->Ex×St}
  (h:∀s r,b s=some r->D (tm s)=some (match r with| .inl s'=>(.normal,tm s')| .inr t=>tx t)) (hx:∀t,(tx t).1≠.normal) {s:σ} {t:τ} (hl:dI b s=some t):VI D (tm s)=some (tx t):=by
 obtain⟨n,hn⟩:=abq hl;induction n generalizing s with
 |zero=>simp[iterM] at hn
 |succ n ih=>
  simp only[iterM] at hn;cases hb:b s with
  |none=>simp[hb] at hn
  |some q=>
   rw[hb] at hn;have hd:=h s q hb;cases q with
   |inl s'=>have hl':=ih (acp hn) hn;obtain⟨k,hk⟩:=abj hl';refine acn (n:=k+1) ?_;simp only[iter,hd];exact hk
   |inr t'=>
    simp only[iI] at hn;subst hn;refine acn (n:=1) ?_;simp only[iter,hd];have:=hx t';cases ht:tx t' with
    |mk e S=>cases e with
     |normal=>rw[ht] at this;exact absurd rfl this
     |exit id=>rfl
     |ret=>rfl
def aI5(X:Ctx)(f n:Nat)(c:Code)(P:St->abk (Ex×St)):Prop:=lid c=n∧∀S r,(P S).val=some r->VI (den X (call X) f c) S=some r
def findLoop(n:Nat):Code->Option Code
 | .seq a b=>match findLoop n a with
  |some c=>some c
  |none=>findLoop n b
 | .cond _ a b=>match findLoop n a with
  |some c=>some c
  |none=>findLoop n b
 | .block _ c=>findLoop n c
 | .loop c=>bif Nat.beq (lid c) n then some c else findLoop n c
 |_=>none
def YS(P:Program)(f n:Nat):Code:=match findLoop n (codeOf P f) with
 |some c=>c
 |none=> .skip
def avS{X:Ctx}{K:QY}{L:VQ}{f:Nat}{args:List V}{cells:List Cell}{ρ:Type}{o:Option ρ}{enc:ρ->List Row×List Cell}(hp:X.Yx f=none)(hK:KLe K.to (call X))(hL:LOk X (call X) f L.to (loops (codeOf X.P f)))
  (h:bodyC X K L f args cells (λa b=>some (a,b))=o.bind λr=>some (enc r)) {r:ρ} (hr:o=some r):call X f args cells=some (enc r):=by
 refine avR hp hK hL ?_;rw[h,hr];rfl
def avT{X:Ctx}{K:QY}{L:VQ}{f:Nat}{c:Code}{σ τ:Type}{b:σ->Option (σ⊕τ)}{tm:σ->St}{tx:τ->Ex×St}(hK:KLe K.to (call X))(hL:LOk X (call X) f L.to (loops c))
  (h:∀s,abm X K L f c (tm s) (λa b=>some (a,b))=(b s).bind λr=>some (match r with| .inl s'=>(.normal,tm s')| .inr t=>tx t)) (hx:∀t,(tx t).1≠.normal) {s:σ} {t:τ} (hl:dI b s=some t):
  VI (den X (call X) f c) (tm s)=some (tx t):=by
 refine arq (λs r hr=> ?_) hx hl;refine aAb hK hL ?_;rw[h s,hr];rfl
def avU{α β:Type}(c:Bool)(a b:Option α)(f:α->Option β):(bif c then a else b).bind f=bif c then a.bind f else b.bind f:=by cases c<;>rfl
def auk{α β γ:Type}(o:Option α)(g:α->Option β)(f:β->Option γ):(o.bind g).bind f=o.bind λx=>(g x).bind f:=by cases o<;>rfl
def ah{α β:Type}(a:α)(f:α->Option β):(some a).bind f=f a:=rfl
def aul{α β:Type}(f:α->Option β):(none:Option α).bind f=none:=rfl
def aum{α β:Type}(o:Option α)(n:Option β)(f:α->Option β):Option β:=match o with
 |none=>n
 |some x=>f x
def letE{α β:Type}(x:α)(f:α->Option β):Option β:=f x
def akt{α β γ:Type}(o:Option α)(n:Option β)(f:α->Option β)(g:β->Option γ):(aum o n f).bind g=aum o (n.bind g) λx=>(f x).bind g:=by cases o<;>rfl
def aku{α β γ δ:Type}(r:α⊕β)(f:α->Option γ)(g:β->Option γ)(k:γ->Option δ):(o8 r f g).bind k=o8 r (λx=>(f x).bind k) (λy=>(g y).bind k):=by cases r<;>rfl
def akv{α β γ:Type}(x:α)(f:α->Option β)(g:β->Option γ):(letE x f).bind g=letE x λy=>(f y).bind g:=rfl
def aI5.at{X:Ctx}{f n:Nat}{c:Code}{P:St->abk (Ex×St)}{L:VQ}(h:aI5 X f n c P)(hL:∀S,L n S=P S):∀S r,L.to (lid c) S=some r->VI (den X (call X) f c) S=some r:=by intro S r hr;rw[h.1,VQ.to,hL] at hr;exact h.2 S r hr
end Go.Vm
namespace Go.Vm
open Go
open Go.IntKind (i64)
set_option linter.unusedVariables false
structure Pt(β:Type) where
 α:Type
 enc:α->β
 dec:β->Option α
 ok:∀b x,dec b=some x->b=enc x
noncomputable section
def pS:Pt V:=⟨List UInt8,λs=> .d (.str s),λv=>match v with| .d (.str s)=>some s|_=>none,by intro b x h;split at h<;>simp_all⟩
def pK(k:IntKind):Pt V:=⟨Int,λn=> .d (.int k n),λv=>match v with| .d (.int k' n)=>(match decEq k' k with| .isTrue _=>some n| .isFalse _=>none)|_=>none,by
 intro b x h;split at h
 ·split at h<;>simp_all
 ·cases h⟩
def pI:Pt V:=pK .i64
def pB:Pt V:=⟨Bool,λs=> .d (.bool s),λv=>match v with| .d (.bool s)=>some s|_=>none,by intro b x h;split at h<;>simp_all⟩
def pL(o:Bool)(s:Nat):Pt V:=⟨List Row,λr=> .d (.sl o s r),λv=>match v with| .d (.sl o' s' r)=>bif(o==o') && Nat.beq s s' then some r else none|_=>none,by
 intro b x h;split at h
 ·rename_i o' s' r;cases ho:(o==o')<;>cases hs:Nat.beq s s'<;>simp only[ho,hs,Bool.and_true,Bool.and_false,Bool.false_and,aI,aS,iI] at h
  all_goals first|cases h;done|skip
  cases h;rw[beq_iff_eq] at ho;rw[Ac hs,ho]
 ·cases h⟩
def pZ{β:Type}(v:β)(t:β->Bool)(h:∀b,t b=true->b=v):Pt β:=⟨Unit,λ_=>v,λb=>bif t b then some () else none,by
 intro b x e;cases ht:t b with
 |true=>exact h b ht
 |false=>rw[ht] at e;cases e⟩
def YT(s:Nat):Pt V:=pZ (.nil s) (λv=>match v with| .nil t=>Nat.beq s t|_=>false) (by
 intro b h;split at h
 ·rw[Ac h]
 ·cases h)
def avV{a b:Bool}(h:(a && b)=true):a=true∧b=true:=by simpa using h
def pO(r n:Nat):Pt V:=pZ (.own r n) (λv=>match v with| .own a b=>Nat.beq r a && Nat.beq n b|_=>false) (by
 intro b h;split at h
 ·obtain⟨h1,h2⟩:=avV h;rw[Ac h1,Ac h2]
 ·cases h)
def pP(r n:Nat):Pt V:=pZ (.ptr r n) (λv=>match v with| .ptr a b=>Nat.beq r a && Nat.beq n b|_=>false) (by
 intro b h;split at h
 ·obtain⟨h1,h2⟩:=avV h;rw[Ac h1,Ac h2]
 ·cases h)
def pR(o:Nat):Pt V:=⟨Row,λr=> .rU r o,λv=>match v with| .rU r c=>bif Nat.beq o c then some r else none|_=>none,by
 intro b x h;split at h
 ·rename_i r c;cases ht:Nat.beq o c with
  |false=>rw[ht] at h;cases h
  |true=>rw[ht] at h;cases h;rw[Ac ht]
 ·cases h⟩
def aI6{β:Type}(p:Pt β)(q:Pt (List β)):Pt (List β):=⟨p.α×q.α,λx=>p.enc x.1::q.enc x.2,λl=>match l with|a::b=>(match p.dec a with|some x=>(match q.dec b with|some y=>some (x,y)|none=>none)|none=>none)|[]=>none,by
 intro b x h;split at h
 ·split at h
  ·rename_i hp;split at h
   ·rename_i hq;cases h;rw[p.ok _ _ hp,q.ok _ _ hq]
   ·cases h
  ·cases h
 ·cases h⟩
def a1d{β:Type}:Pt (List β):=pZ [] (λl=>match l with|[]=>true|_=>false) (by intro b h;split at h<;>simp_all)
def pl{β:Type}(l:List (Pt β)):Pt (List β):=List.rec a1d (λp _ q=>aI6 p q) l
def ars(f:Nat)(a b:List (Pt V)):Pt V:=⟨(pl a).α×(pl b).α,λx=> .clo f ((pl a).enc x.1) ((pl b).enc x.2),λv=>match v with| .clo g x y=>bif Nat.beq f g then(match(pl a).dec x with|some x=>(match(pl b).dec y with|some y=>some (x,y)|none=>none)|none=>none) else none|_=>none,by
 intro v x h;split at h
 ·rename_i g u w;cases ht:Nat.beq f g with
  |false=>rw[ht] at h;cases h
  |true=>
   rw[ht,aI] at h;split at h
   ·rename_i hp;split at h
    ·rename_i hq;cases h;rw[(pl a).ok _ _ hp,(pl b).ok _ _ hq,Ac ht]
    ·cases h
   ·cases h
 ·cases h⟩
def iL(a:List (Pt V)):Pt V:=⟨(pl a).α,λx=> .agg ((pl a).enc x),λv=>match v with| .agg x=>(pl a).dec x|_=>none,by
 intro v x h;split at h
 ·rw[(pl a).ok _ _ h]
 ·cases h⟩
def cB(t:TypeId)(a:List (Pt V)):Pt Cell:=⟨(pl a).α,λx=> .box t ((pl a).enc x),λv=>match v with| .box u x=>bif Nat.beq t u then(pl a).dec x else none|_=>none,by
 intro v x h;split at h
 ·rename_i u y;cases ht:Nat.beq t u with
  |false=>rw[ht] at h;cases h
  |true=>rw[ht,aI] at h;rw[(pl a).ok _ _ h,Ac ht]
 ·cases h⟩
def cA(z l:Bool)(n s:Nat):Pt Cell:=⟨List Row,λr=> .arr z l n s r,λv=>match v with| .arr z' l' n' s' r=>bif(z==z') &&((l==l') &&(Nat.beq n n' && Nat.beq s s')) then some r else none|_=>none,by
 intro b x h;split at h
 ·rename_i z' l' n' s' r;cases ht:((z==z') &&((l==l') &&(Nat.beq n n' && Nat.beq s s'))) with
  |false=>rw[ht] at h;cases h
  |true=>rw[ht] at h;obtain⟨h1,h2⟩:=avV ht;obtain⟨h2,h3⟩:=avV h2;obtain⟨h3,h4⟩:=avV h3;cases h;rw[beq_iff_eq] at h1 h2;rw[h1,h2,Ac h3,Ac h4]
 ·cases h⟩
def pKp(p:Pt V):Pt V:=⟨p.α,λx=> .Ae (p.enc x),λv=>match v with| .Ae y=>p.dec y|_=>none,by
 intro v x h;split at h
 ·rw[p.ok _ _ h]
 ·cases h⟩
def bg{β:Type}(n:Nat)(p:Pt β):Pt (Nat×β):=⟨p.α,λx=>(n,p.enc x),λy=>bif Nat.beq n y.1 then p.dec y.2 else none,by
 intro y x h;cases ht:Nat.beq n y.1 with
 |false=>rw[ht] at h;cases h
 |true=>rw[ht,aI] at h;rw[<-p.ok _ _ h,Ac ht]⟩
def AO(t:List (Pt (Nat×V)))(m:List (Pt (Nat×Cell))):Pt St:=⟨(pl t).α×(pl m).α,λx=>⟨(pl t).enc x.1,(pl m).enc x.2⟩,λS=>match(pl t).dec S.tm with|some x=>(match(pl m).dec S.mem with|some y=>some (x,y)|none=>none)|none=>none,by
 intro S x h;split at h
 ·rename_i hp;split at h
  ·rename_i hq;cases h;cases S;have e1:=(pl t).ok _ _ hp;have e2:=(pl m).ok _ _ hq;simp only at e1 e2;rw[e1,e2]
  ·cases h
 ·cases h⟩
def pOr{β:Type}(p q:Pt β):Pt β:=⟨p.α⊕q.α,λx=>match x with| .inl x=>p.enc x| .inr y=>q.enc y,λb=>match p.dec b with|some x=>some (.inl x)|none=>(match q.dec b with|some y=>some (.inr y)|none=>none),by
 intro b x h;split at h
 ·rename_i hp;cases h;exact p.ok _ _ hp
 ·split at h
  ·rename_i hq;cases h;exact q.ok _ _ hq
  ·cases h⟩
structure dO where
 f:Nat
 p:Pt (List V)
 q:Pt (List Cell)
 ρ:Type
 enc:ρ->List Row×List Cell
@[reducible] def sg(f:Nat)(a:List (Pt V))(c:List (Pt Cell)){ρ:Type}(enc:ρ->List Row×List Cell):dO:=⟨f,pl a,pl c,ρ,enc⟩
abbrev dO.α(S:dO):Type:=S.p.α×S.q.α
def dO.ok(S:dO)(X:Ctx)(o:S.α->Option S.ρ):Prop:=∀x r,o x=some r->call X S.f (S.p.enc x.1) (S.q.enc x.2)=some (S.enc r)
structure FE(X:Ctx) where
 f:Nat
 P:List V->List Cell->Option (Res (List Row×List Cell))
 ok:∀a c q r,P a c=some q->q.val=some r->call X f a c=some r
def fe{X:Ctx}{S:dO}{o:S.α->Option S.ρ}(h:S.ok X o):FE X:=⟨S.f,λa c=>match S.p.dec a with|some x=>(match S.q.dec c with|some y=>some ⟨S.ρ,o (x,y),S.enc⟩|none=>none)|none=>none,by
 intro a c q r hq hr;split at hq
 ·rename_i x hx;split at hq
  ·rename_i y hy;cases hq;obtain⟨z,hz,rfl⟩:=Res.ahj hr;rw[S.p.ok _ _ hx,S.q.ok _ _ hy];exact h (x,y) z hz
  ·cases hq
 ·cases hq⟩
def kt{X:Ctx}(l:List (FE X)):QY:=List.rec (λ_ _ _=> .none) (λe _ K g a c=>bif Nat.beq g e.f then(match e.P a c with|some r=>r|none=>K g a c) else K g a c) l
def aCI{X:Ctx}(l:List (FE X)):KLe (kt l).to (call X):=by
 induction l with
 |nil=>exact λ_ _ _ _ h=>by simp[QY.to,kt,Res.none,Res.val] at h
 |cons e l ih=>
  intro g a c r hr;have hr':(bif Nat.beq g e.f then(match e.P a c with|some r=>r|none=>kt l g a c) else kt l g a c).val=some r:=hr
  by_cases h:g=e.f
  ·subst h;simp only[Nat.beq_refl,aI] at hr';split at hr'
   ·rename_i q hq;exact e.ok a c q r hq hr'
   ·exact ih _ a c r hr'
  ·rw[wY h] at hr';exact ih g a c r hr'
structure LE(X:Ctx)(f:Nat) where
 n:Nat
 c:Code
 P:St->Option (abk (Ex×St))
 hn:lid c=n
 ok:∀S q r,P S=some q->q.val=some r->VI (den X (call X) f c) S=some r
def lt{X:Ctx}{f:Nat}(l:List (LE X f)):VQ:=List.rec (λ_ _=> .none) (λe _ L n S=>bif Nat.beq n e.n then(match e.P S with|some r=>r|none=> .none) else L n S) l
def apart(l:List Nat):Bool:=match l with
 |[]=>true
 |x::l=>l.all (λy=> !(Nat.beq x y)) && apart l
def avW{X:Ctx}{f:Nat}:∀(l:List (LE X f)),apart (l.map LE.n)=true->∀e,e∈l->∀S r,(lt l e.n S).val=some r->VI (den X (call X) f e.c) S=some r
 |[],_,e,h,_,_,_=>by cases h
 |d::l,hd,e,he,S,r,hr=>by
  have hr':(bif Nat.beq e.n d.n then(match d.P S with|some r=>r|none=> .none) else lt l e.n S).val=some r:=hr;simp only[Rh,apart,EU] at hd;rcases List.mem_cons.1 he with rfl|he
  ·simp only[Nat.beq_refl,aI] at hr';split at hr'
   ·rename_i q hq;exact e.ok S q r hq hr'
   ·simp[abk.none,abk.val] at hr'
  ·have h1:=List.all_eq_true.1 hd.1 e.n (List.mem_map_of_mem he);have h2:e.n≠d.n:=by intro h;rw[h,Nat.beq_refl] at h1;cases h1
   rw[wY h2] at hr';exact avW l hd.2 e he S r hr'
def aCJ{X:Ctx}{f:Nat}{l:List (LE X f)}{cs:List Code}(h:cs=l.map LE.c)(hd:apart (l.map LE.n)=true):LOk X (call X) f (lt l).to cs:=by intro c hc S r hr;rw[h] at hc;obtain⟨e,he,rfl⟩:=List.mem_map.1 hc;rw[e.hn] at hr;exact avW l hd e he S r hr
def fnS{X:Ctx}{S:dO}{o:S.α->Option S.ρ}(C:∀{R:Type},S.α->(S.ρ->Option R)->Option R)(K:List (FE X))(L:List (LE X S.f))(hn:∀{R:Type} x (k:S.ρ->Option R),C x k=(C x some).bind k)
  (hE:∀{R:Type} x (k:List Row->List Cell->Option R),bodyC X (kt K) (lt L) S.f (S.p.enc x.1) (S.q.enc x.2) k=C x (λr=>k (S.enc r).1 (S.enc r).2):=by intros;kernel_rfl)
  (hL:loops (codeOf X.P S.f)=L.map LE.c:=by kernel_rfl) (hd:apart (L.map LE.n)=true:=by kernel_rfl) (hp:X.Yx S.f=none:=by kernel_rfl) (ho:∀x,o x=C x some:=by intros;rfl):S.ok X o:=by
 intro x r h;rw[ho] at h;exact avS hp (aCI K) (aCJ hL hd) (by rw[hE,hn]) h
def dO.lim{X:Ctx}{S:dO}{o:Nat->S.α->Option S.ρ}(h:∀n,S.ok X (o n)):S.ok X λx=>Vm.lim λn=>o n x:=by intro x r hr;obtain⟨n,hn⟩:=WY hr;exact h n x r hn
def dO.zero{X:Ctx}{S:dO}:S.ok X λ_=>none:=λ_ _ h=>by cases h
def dO.Af{X:Ctx}{S:dO}{o:Nat->S.α->Option S.ρ}(h:∀n,S.ok X (o n))(hi:∀a b,S.enc a=S.enc b->a=b){x:S.α}{n:Nat}{r:S.ρ}(hr:o n x=some r):(Vm.lim λn=>o n x)=some r:=by
 refine Vm.Af hr λm y hy=> ?_
 have h1:=h n x r hr;have h2:=h m x y hy;rw[h1] at h2;exact(hi _ _ (Option.some.inj h2)).symm
def dO.Yx{X:Ctx}{S:dO}{o:S.α->Option S.ρ}{p:List V->List Cell->Option (List Row×List Cell)}(h:∀x,p (S.p.enc x.1) (S.q.enc x.2)=(o x).map S.enc:=by intros;rfl)(hp:X.Yx S.f=some p:=by kernel_rfl):S.ok X o:=by intro x r hr;exact alX hp (by rw[h,hr];rfl)
def le{X:Ctx}{f:Nat}(n:Nat)(p:Pt St){σ:Type}(v:p.α->σ)(g:p.α->σ->p.α)(A:p.α->Alt (Ex×St))(C:∀{R:Type} (x:p.α),σ->(σ->Option R)->((A x).T->Option R)->Option R)(K:List (FE X))(L:List (LE X f))
  (hn:∀{R:Type} x s (kn:σ->Option R) (ke:(A x).T->Option R),C x s kn ke=(C x s (λs=>some (Sum.inl s)) (λt=>some (Sum.inr t))).bind λr=>match r with| .inl s=>kn s| .inr t=>ke t)
  (hE:∀{R:Type} x s (k:Ex->St->Option R),abm X (kt K) (lt L) f (YS X.P f n) (p.enc (g x s)) k=C x s (λs=>k .normal (p.enc (g x s))) (λt=>(A x).go t λr=>k r.1 r.2):=by intros;kernel_rfl)
  (hx:∀x t,((A x).enc t).1≠.normal:=by first|(intro x t h;cases h;done)|(intro x t;rcases t with t|t<;>first|(intro h;cases h;done)|(rcases t with t|t<;>first|(intro h;cases h;done)|(rcases t with t|t<;>(intro h;cases h)))))
  (hv:∀x,g x (v x)=x:=by first|(intros;rfl)|(rintro(_|_)<;>rfl))
  (hL:loops (YS X.P f n)=L.map LE.c:=by kernel_rfl) (hd:apart (L.map LE.n)=true:=by kernel_rfl) (hi:lid (YS X.P f n)=n:=by kernel_rfl):LE X f:=
 ⟨n,YS X.P f n,λS=>match p.dec S with|some x=>some ⟨A x,dI (λs=>C x s (λs=>some (Sum.inl s)) (λt=>some (Sum.inr t))) (v x)⟩|none=>none,hi,by
  intro S q r hq hr;split at hq
  ·rename_i x hp;cases hq;obtain⟨t,ht,rfl⟩:=abk.ahj hr;rw[p.ok _ _ hp];have h:=avT (X:=X) (f:=f) (c:=YS X.P f n) (K:=kt K) (L:=lt L) (tm:=λs=>p.enc (g x s)) (tx:=(A x).enc) (aCI K) (aCJ hL hd) (λs=>by
    rw[hE,hn];congr 1;funext r;cases r
    ·rfl
    ·exact Alt.go_eq _ _ _) (hx x) ht
   rwa [hv] at h
  ·cases hq⟩
def nb:(∀(α β:Type) (c:Bool) (a b:Option α) (f:α->Option β),(bif c then a else b).bind f=bif c then a.bind f else b.bind f)∧(∀(α β γ:Type) (o:Option α) (g:α->Option β) (f:β->Option γ),(o.bind g).bind f=o.bind λx=>(g x).bind f)∧
  (∀(α β:Type) (a:α) (f:α->Option β),(some a).bind f=f a)∧(∀(α β:Type) (f:α->Option β),(none:Option α).bind f=none)∧
  (∀(α β γ:Type) (o:Option α) (n:Option β) (f:α->Option β) (g:β->Option γ),(aum o n f).bind g=aum o (n.bind g) λx=>(f x).bind g)∧
  (∀(α β γ δ:Type) (r:α⊕β) (f:α->Option γ) (g:β->Option γ) (k:γ->Option δ),(o8 r f g).bind k=o8 r (λx=>(f x).bind k) (λy=>(g y).bind k))∧
  (∀(α β γ:Type) (x:α) (f:α->Option β) (g:β->Option γ),(letE x f).bind g=letE x λy=>(f y).bind g):=
 ⟨λ_ _=>avU,λ_ _ _=>auk,λ_ _=>ah,λ_ _=>aul,λ_ _ _=>akt,λ_ _ _ _=>aku,λ_ _ _=>akv⟩
section
variable {α β ρ R:Type} {k:ρ->Option R}
def eF{c:Bool}{x y:Option R}{u v:Option ρ}(h1:x=u.bind k)(h2:y=v.bind k):(bif c then x else y)=(bif c then u else v).bind k:=by cases c<;>assumption
def Gx{o:Option α}{f:α->Option R}{g:α->Option ρ}(h:∀a,f a=(g a).bind k):o.bind f=(o.bind g).bind k:=by cases o with
 |none=>rfl
 |some a=>exact h a
def Gy{o:Option α}{n:Option R}{m:Option ρ}{f:α->Option R}{g:α->Option ρ}(h1:n=m.bind k)(h:∀a,f a=(g a).bind k):aum o n f=(aum o m g).bind k:=by rw[akt,h1,funext h]
def Gz{o:α⊕β}{f:α->Option R}{g:β->Option R}{f':α->Option ρ}{g':β->Option ρ}(h1:∀a,f a=(f' a).bind k)(h2:∀a,g a=(g' a).bind k):o8 o f g=(o8 o f' g').bind k:=by rw[aku,funext h1,funext h2]
def GH{x:α}{f:α->Option R}{g:α->Option ρ}(h:∀a,f a=(g a).bind k):letE x f=(letE x g).bind k:=by rw[akv,funext h]
end
end
end Go.Vm
namespace Go.Vm
open Go
open Go.IntKind (i64)
def aC{n:Int}(h1: -9223372036854775808<=n)(h2:n<=9223372036854775807):i64.wrap n=n:=IntWalk.i64_in n ⟨h1,h2⟩
def agj{α β:Type}(f:α->β)(l:List α)(i:Int):idx (l.map f) i=(idx l i).map f:=by unfold idx;cases decide (0<=i)<;>simp
def aW{α:Type}(l:List α)(i:Nat):idx l (i:Int)=l[i]? :=by simp[idx]
structure Nd where
 kind:Int
 op:Int
 text:List UInt8
 other:List UInt8
 kids:List Int
 deriving DecidableEq,Inhabited
def encI(l:List Int):List Row:=l.map λk=>[.int .i64 k]
def encS(l:List (List UInt8)):List Row:=l.map λs=>[.str s]
def TK(o:Bool)(n:Nd):Row:=[.int .i64 n.kind,.int .i64 n.op,.str n.text,.str n.other,.sl o 1 (encI n.kids)]
def aT(o:Bool)(l:List Nd):List Row:=l.map (TK o)
structure Tk where
 kind:Int
 text:List UInt8
 at_:Int
 deriving DecidableEq,Inhabited
def YU(n:Tk):Row:=[.int .i64 n.kind,.str n.text,.int .i64 n.at_]
def bZ(l:List Tk):List Row:=l.map YU
section
variable (o:Bool) (n:Nd) (l:List Nd) (k:List Int) (i:Int) (t:Tk) (ts:List Tk)
@[simp] theorem aU:(encI k).length=k.length:=by simp[encI]
@[simp] theorem dW:(aT o l).length=l.length:=by simp[aT]
@[simp] theorem dD:(bZ ts).length=ts.length:=by simp[bZ]
@[simp] theorem ahn:idx (encI k) i=(idx k i).map λk=>[D.int .i64 k]:=agj _ _ _
@[simp] theorem aID:idx (aT o l) i=(idx l i).map (TK o):=agj _ _ _
@[simp] theorem aIE:idx (bZ ts) i=(idx ts i).map YU:=agj _ _ _
@[simp] theorem lG(j:Nat):(encI k)[j]? =(k[j]?).map λk=>[D.int .i64 k]:=by simp[encI]
@[simp] theorem kZ(j:Nat):(aT o l)[j]? =(l[j]?).map (TK o):=by simp[aT]
@[simp] theorem Rq(j:Nat):(bZ ts)[j]? =(ts[j]?).map YU:=by simp[bZ]
@[simp] theorem Ji:aY .i64 (TK o n) 0=some n.kind:=rfl
@[simp] theorem Me:aY .i64 (TK o n) 1=some n.op:=rfl
@[simp] theorem LV:cStr (TK o n) 2=some n.text:=rfl
@[simp] theorem MB:cStr (TK o n) 3=some n.other:=rfl
@[simp] theorem GI:OE 1 (TK o n) 4=some (encI n.kids):=rfl
@[simp] theorem cT0:aY .i64 (YU t) 0=some t.kind:=rfl
@[simp] theorem cT1:cStr (YU t) 1=some t.text:=rfl
@[simp] theorem cT2:aY .i64 (YU t) 2=some t.at_:=rfl
@[simp] theorem Lu:aY .i64 [D.int .i64 i] 0=some i:=rfl
@[simp] theorem asB:aP (encI k)=encI k:=by
 induction k with
 |nil=>rfl
 |cons x l ih=>simp only[encI,Rh,aP] at ih⊢;rw[ih];rfl
@[simp] theorem aho:aP (aT o l)=aT false l:=by
 induction l with
 |nil=>rfl
 |cons x l ih=>simp only[aT,Rh,aP] at ih⊢;rw[ih];simp[TK,qg,D.fz,asB]
@[simp] theorem aI7:aP (bZ ts)=bZ ts:=by
 induction ts with
 |nil=>rfl
 |cons x l ih=>simp only[bZ,Rh,aP] at ih⊢;rw[ih];simp[YU,qg,D.fz]
@[simp] theorem Ea:ay (encI k)=true:=by simp only[ay,encI,List.all_map,List.all_eq_true];intro x _;rfl
def avX(j:Nat):(encI k).set j [D.int .i64 i]=encI (k.set j i):=by simp[encI,List.map_set]
end
def I64(n:Int):Prop:= -9223372036854775808<=n∧n<=9223372036854775807
structure Fit(n:Nd):Prop where
 kind:I64 n.kind
 op:I64 n.op
 text:n.text.length<=maxLen
 other:n.other.length<=maxLen
 kids:n.kids.length<=maxLen
 kid:∀k,k∈n.kids->I64 k
structure bcJ(n:Tk):Prop where
 kind:I64 n.kind
 text:n.text.length<=maxLen
 at_:I64 n.at_
def ahp{α ω τ:Type}(f:ω->α->ω⊕τ)(fin:ω->τ):List α->ω->τ
 |[],w=>fin w
 |x::l,w=>match f w x with
  | .inl w'=>ahp f fin l w'
  | .inr t=>t
def aru{σ τ α ω:Type}(b:σ->Option (σ⊕τ))(l:List α)(st:Nat->ω->σ)(f:ω->α->ω⊕τ)(fin:ω->τ)(I:Nat->ω->Prop)
  (hstep:∀i x w,l[i]? =some x->I i w->b (st i w)=some (match f w x with| .inl w'=> .inl (st (i+1) w')| .inr t=> .inr t))
  (hI:∀i x w w',l[i]? =some x->I i w->f w x=.inl w'->I (i+1) w')
  (hend:∀w,I l.length w->b (st l.length w)=some (.inr (fin w))) (w:ω) (h0:I 0 w):dI b (st 0 w)=some (ahp f fin l w):=by
 have key:∀(t:List α) (i:Nat) (w:ω),l.drop i=t->i<=l.length->I i w->dI b (st i w)=some (ahp f fin t w):=by
  intro t;induction t with
  |nil=>
   intro i w hd hi hI';have:i=l.length:=by have:=congrArg List.length hd;simp at this;omega
   subst this;exact bn (hend w hI')
  |cons x t ih=>
   intro i w hd hi hI';have hx:l[i]? =some x:=by
    have:(l.drop i)[0]? =some x:=by rw[hd];rfl
    simpa using this
   have hlt:i<l.length:=(Md.1 hx).1;have hd':l.drop (i+1)=t:=by rw[<-List.drop_drop,hd];rfl
   have hs:=hstep i x w hx hI';simp only[ahp];cases hf:f w x with
   |inl w'=>rw[hf] at hs;rw[bW hs];exact ih (i+1) w' hd' hlt (hI i x w w' hx hI' hf)
   |inr u=>rw[hf] at hs;exact bn hs
 exact key l 0 w rfl (Nat.zero_le _) h0
end Go.Vm
namespace Go.Vm
open Go
open Go.IntKind (i64)
section
variable {X:Ctx} {base:Nat} {U:Nat->Prop} {w w':World} {f:FuncId} {gargs jB:List Value} {N1 N2:List Nat} {P:Program}
def acr{args:List V}(hG:Given X base U w f args [] gargs jB N1 N2)(hm:∀i,i<args.length->Fq X.OU f i=0):
  jB=[]∧N1=[]∧N2=[]∧bV (impμ []) [] (view w U (· ∈([]:List Nat)++[])) args gargs:=by
 obtain⟨rfl,rfl⟩:=hG.cells;have key:∀(args:List V) (i:Nat) (gs:List Value) (N:List Nat) (hv:View),(∀j,i<=j->j<i+args.length->Fq X.OU f j=0)->Uy X.OU f (impμ []) (sF 0 []) (dA w) hv i args gs N->N=[]∧bV (impμ []) [] hv args gs:=by
  intro args;induction args with
  |nil=>intro i gs N hv _ h;simp only[Uy] at h;exact⟨h.2,by simpa[bV] using h.1⟩
  |cons a args ih=>intro i gs N hv hi h;simp only[Uy,hi i (Nat.le_refl _) (by simp)] at h;obtain⟨g,gs',M1,M2,rfl,rfl,⟨rfl,hq⟩,hr⟩:=h;obtain⟨rfl,hs⟩:=ih (i+1) gs' M2 hv (λj h1 h2=>hi j ak (by simp only[lU];omega)) hr;exact⟨rfl,by simp only[bV];exact⟨g,gs',rfl,hq,hs⟩⟩
 obtain⟨rfl,hs⟩:=key args 0 gargs N1 _ (λj _ hj=>hm j ak) hG.args;exact⟨rfl,rfl,rfl,hs⟩
def arv{μ:Nat->Value}{m:Mem}{h:View}{a b:List UInt8}(q:bV μ m h [.d (.str a),.d (.str b)] gargs):gargs=[.string ⟨⟨a⟩⟩,.string ⟨⟨b⟩⟩]:=by simp only[bV,aO,ro] at q;obtain⟨g,gs,rfl,rfl,g',gs',rfl,rfl,rfl⟩:=q;rfl
def Va{t:TypeId}{x:D}{g:Value}(ht:Oi P t=false)(hx:∀H h,ow H h x g [])(hk:Keep [] w w'):Did P U w w' ([]++[]) [t] [] [] [] [[x]] [g] [] []:=by
 refine⟨hk,by simp,by simp,rfl,⟨rfl,rfl⟩, ?_⟩;simp only[VK];refine⟨_,_,_,_,[g],[],[],rfl,rfl,rfl, ?_, ?_,rfl,rfl,rfl,rfl⟩
 ·rw[valOf,if_neg (by rw[ht];simp)]
 ·simp only[jd];exact⟨_,_,[],[],rfl,rfl,hx _ _,rfl⟩
end
end Go.Vm
namespace Go.Vm
open Go
open Go.IntKind (i64)
inductive Tn where
 |mk (kind op:Int) (text other:List UInt8) (kids:List Tn)
mutual
def Tn.size:Tn->Nat
 | .mk _ _ _ _ ks=>sizes ks+1
def sizes:List Tn->Nat
 |[]=>0
 |t::ts=>t.size+sizes ts
end
def ends:List Tn->Nat->List Int
 |[],_=>[]
 |t::ts,b=>((b:Int)+t.size - 1)::ends ts (b+t.size)
mutual
def Tn.flat:Tn->Nat->List Nd
 | .mk k o x y ks,b=>iW ks b++[⟨k,o,x,y,ends ks b⟩]
def iW:List Tn->Nat->List Nd
 |[],_=>[]
 |t::ts,b=>t.flat b++iW ts (b+t.size)
end
mutual
def Tn.row(w:Bool):Tn->Row
 | .mk k o x y ks=>[.int .i64 k,.int .i64 o,.str x,.str y,.sl w 5 (cZ w ks)]
def cZ(w:Bool):List Tn->List Row
 |[]=>[]
 |t::ts=>t.row w::cZ w ts
end
mutual
def Tn.depth:Tn->Int
 | .mk _ _ _ _ ks=>depths 0 ks+1
def depths(a:Int):List Tn->Int
 |[]=>a
 |t::ts=>depths (bif decide (a<t.depth) then t.depth else a) ts
end
def Tn.kids:Tn->List Tn| .mk _ _ _ _ ks=>ks
def Tn.kind:Tn->Int| .mk k _ _ _ _=>k
def Tn.op:Tn->Int| .mk _ o _ _ _=>o
def Tn.text:Tn->List UInt8| .mk _ _ x _ _=>x
def Tn.other:Tn->List UInt8| .mk _ _ _ y _=>y
def Tn.ind{P:Tn->Prop}(h:∀k o x y ks,(∀t,t∈ks->P t)->P (.mk k o x y ks))(t:Tn):P t:=by
 refine Tn.rec (motive_1:=P) (motive_2:=λks=>∀t,t∈ks->P t) ?_ ?_ ?_ t
 ·intro k o x y ks ih;exact h k o x y ks ih
 ·intro t ht;cases ht
 ·intro t ts h1 h2 u hu;rcases List.mem_cons.1 hu with rfl|hu
  ·exact h1
  ·exact h2 u hu
def Tn.size_pos:∀t:Tn,1<=t.size
 | .mk _ _ _ _ ks=>by rw[Tn.size];omega
def Tn.tZ(t:Tn):t.size=sizes t.kids+1:=by cases t;rfl
def jP:∀a b:List Tn,sizes (a++b)=sizes a+sizes b
 |[],b=>by simp[sizes]
 |t::a,b=>by rw[VE,sizes,sizes,jP a b];omega
def iZ:∀ks:List Tn,ks.length<=sizes ks
 |[]=>Nat.le_refl _
 |t::ts=>by have:=iZ ts;have:=t.size_pos;rw[sizes,lU];omega
def iw:∀{ks:List Tn} {t:Tn},t∈ks->t.size<=sizes ks
 |u::ts,t,h=>by
  rw[sizes];rcases List.mem_cons.1 h with rfl|h
  ·omega
  ·have:=iw h;omega
def Ht:∀a:List Tn,sizes a.reverse=sizes a
 |[]=>rfl
 |t::a=>by rw[List.reverse_cons,jP,Ht a,sizes,sizes,sizes];omega
def dQ:∀(ks:List Tn) (b:Nat),(ends ks b).length=ks.length
 |[],_=>rfl
 |t::ts,b=>by rw[ends,lU,dQ ts,lU]
def VT:∀(a c:List Tn) (b:Nat),ends (a++c) b=ends a b++ends c (b+sizes a)
 |[],c,b=>by simp[ends,sizes]
 |t::a,c,b=>by rw[VE,ends,ends,VT a c,sizes,VE,Nat.add_assoc]
def O7:∀(a c:List Tn) (b:Nat),iW (a++c) b=iW a b++iW c (b+sizes a)
 |[],c,b=>by simp[iW,sizes]
 |t::a,c,b=>by rw[VE,iW,iW,O7 a c,sizes,Ad,Nat.add_assoc]
mutual
def Tn.flat_length:∀(t:Tn) (b:Nat),(t.flat b).length=t.size
 | .mk _ _ _ _ ks,b=>by rw[Tn.flat,Tn.size,pF,lH ks b];rfl
def lH:∀(ks:List Tn) (b:Nat),(iW ks b).length=sizes ks
 |[],_=>rfl
 |t::ts,b=>by rw[iW,sizes,pF,t.flat_length b,lH ts]
end
def avY{ks:List Tn}{b j:Nat}(h:j<ks.length):(ends ks b)[j]? =some ((b:Int)+sizes (ks.take (j+1)) - 1):=by
 induction ks generalizing b j with
 |nil=>simp at h
 |cons t ts ih=>
  cases j with
  |zero=>simp[ends,sizes]
  |succ j=>simp only[lU,Nat.add_lt_add_iff_right] at h;rw[ends,List.getElem?_cons_succ,ih h,List.take_succ_cons,sizes];congr 1;omega
def Nd.up(d:Int)(n:Nd):Nd:={n with kids:=n.kids.map (· +d)}
def asC:∀(ks:List Tn) (b c:Nat),ends ks c=(ends ks b).map (· +((c:Int) - b))
 |[],_,_=>rfl
 |t::ts,b,c=>by rw[ends,ends,Rh,asC ts (b+t.size) (c+t.size)];have e:(((c+t.size:Nat):Int) - ((b+t.size:Nat):Int))=(c:Int) - b:=ak;rw[e];congr 1;omega
mutual
def Tn.al7:∀(t:Tn) (b c:Nat),t.flat c=(t.flat b).map (Nd.up ((c:Int) - b))
 | .mk k o x y ks,b,c=>by rw[Tn.flat,Tn.flat,List.map_append,anB ks b c,asC ks b c];rfl
def anB:∀(ks:List Tn) (b c:Nat),iW ks c=(iW ks b).map (Nd.up ((c:Int) - b))
 |[],_,_=>rfl
 |t::ts,b,c=>by rw[iW,iW,List.map_append,t.al7 b c,anB ts (b+t.size) (c+t.size)];have e:(((c+t.size:Nat):Int) - ((b+t.size:Nat):Int))=(c:Int) - b:=ak;rw[e]
end
def Lies(l:List Nd)(b:Nat)(t:Tn):Prop:=∃pre post,l=pre++(t.flat b++post)∧pre.length=b
def Lies.whole(t:Tn):Lies (t.flat 0) 0 t:=⟨[],[],by simp,rfl⟩
def Lies.root{l:List Nd}{b:Nat}{k o:Int}{x y:List UInt8}{ks:List Tn}(h:Lies l b (.mk k o x y ks)):l[b+sizes ks]? =some ⟨k,o,x,y,ends ks b⟩:=by obtain⟨pre,post,rfl,rfl⟩:=h;rw[Tn.flat,List.getElem?_append_right ak,Ad,List.getElem?_append_right (by rw[lH];omega),lH];simp
def Lies.kid{l:List Nd}{b:Nat}{k o:Int}{x y:List UInt8}{a c:List Tn}{t:Tn}(h:Lies l b (.mk k o x y (a++t::c))):Lies l (b+sizes a) t:=by obtain⟨pre,post,rfl,rfl⟩:=h;refine⟨pre++iW a pre.length,iW c (pre.length+sizes a+t.size)++[⟨k,o,x,y,ends (a++t::c) pre.length⟩]++post, ?_,by rw[pF,lH]⟩;rw[Tn.flat,O7,iW];simp only[Ad]
def Lies.lt{l:List Nd}{b:Nat}{t:Tn}(h:Lies l b t):b+t.size<=l.length:=by obtain⟨pre,post,rfl,rfl⟩:=h;simp only[pF,t.flat_length];omega
def Lies.part{l:List Nd}{b:Nat}{t:Tn}(h:Lies l b t):(l.drop b).take t.size=t.flat b:=by obtain⟨pre,post,rfl,rfl⟩:=h;rw[List.drop_left,<-t.flat_length pre.length,List.take_left]
def dU(st:List Int):List Int->Int->Option Int
 |[],at_=>some at_
 |k::ks,at_=>if at_<0∨k≠at_ then none else dU st ks ((st[k.toNat]?.getD 0) - 1)
def fM:List Int->List (List Int)->Option (List Int)
 |st,[]=>some st
 |st,n::l=>match dU st n.reverse ((st.length:Int) - 1) with
  |none=>none
  |some at_=>fM (st++[at_+1]) l
def qY(l:List (List Int)):Option (List Int):=if 1<=l.length∧l.length<=400 then fM [] l else none
def ks(l:List Nd):List (List Int):=l.map (·.kids)
def Jj(l:List Nd):Bool:=match qY (ks l) with
 |none=>false
 |some st=>st[l.length - 1]?.getD 0==0
def Rt(l:List Nd):(ks l).length=l.length:=by simp[ks]
def aun(a b:List Nd):ks (a++b)=ks a++ks b:=by simp[ks]
def Vb(st:List Int):List Tn->Prop
 |[]=>True
 |t::ts=>st[sizes (t::ts) - 1]? =some (sizes ts:Int)∧Vb st ts
def akw{st u:List Int}:∀{ts:List Tn},sizes ts<=st.length->(Vb (st++u) ts↔Vb st ts)
 |[],_=>Iff.rfl
 |t::ts,h=>by
  have hp:=t.size_pos;have h1:sizes ts<=st.length:=by rw[sizes] at h;omega
  rw[Vb,Vb,akw h1,List.getElem?_append_left (by rw[sizes] at h⊢;omega)]
def ahq{st:List Int}:∀{ks:List Int} {ts:List Tn} {a:Int},Vb st ts->dU st ks ((sizes ts:Int) - 1)=some a->
  ∃u v,ts=u++v∧ks.reverse=ends u.reverse (sizes v)∧a=(sizes v:Int) - 1
 |[],ts,a,_,h=>by rw[dU] at h;cases h;exact⟨[],ts,rfl,rfl,rfl⟩
 |k::ks,[],a,_,h=>by rw[dU,if_pos (.inl (by simp[sizes]))] at h;cases h
 |k::ks,t::ts,a,hr,h=>by
  have hp:=t.size_pos;have hs:sizes (t::ts)=t.size+sizes ts:=by rw[sizes]
  rw[dU] at h;split at h
  ·cases h
  ·rename_i hc;have hk:k=(sizes (t::ts):Int) - 1:=ak;have hk':k.toNat=sizes (t::ts) - 1:=ak;rw[hk',hr.1,Option.getD_some] at h;obtain⟨u,v,rfl,h1,h2⟩:=ahq hr.2 h;refine⟨t::u,v,rfl, ?_,h2⟩;rw[List.reverse_cons,List.reverse_cons,h1,VT,Ht,hk,hs,jP,ends,ends];congr 2;omega
def ahr{st:List Int}:∀{u v:List Tn},Vb st (u++v)->Vb st v
 |[],_,h=>h
 |_::u,_,h=>ahr (u:=u) h.2
def acs:∀(l pre:List Nd) (st r:List Int) (ts:List Tn),pre=iW ts.reverse 0->st.length=pre.length->Vb st ts->fM st (ks l)=some r->
  ∃us,pre++l=iW us.reverse 0∧r.length=(pre++l).length∧Vb r us
 |[],pre,st,r,ts,h1,h2,h3,h=>by rw[show ks []=[] from rfl,fM] at h;cases h;exact⟨ts,by simpa using h1,by simpa using h2,h3⟩
 |n::l,pre,st,r,ts,h1,h2,h3,h=>by
  have hk:ks (n::l)=n.kids::ks l:=rfl;have hpl:pre.length=sizes ts:=by rw[h1,lH,Ht]
  rw[hk,fM] at h;split at h
  ·cases h
  ·rename_i a ha;rw[h2,hpl] at ha;obtain⟨u,v,rfl,hu,rfl⟩:=ahq h3 ha;rw[List.reverse_reverse] at hu;have hz:sizes (Tn.mk n.kind n.op n.text n.other u.reverse::v)=sizes u+1+sizes v:=by rw[sizes,Tn.size,Ht]
   have:=acs l (pre++[n]) (st++[(sizes v:Int) - 1+1]) r (Tn.mk n.kind n.op n.text n.other u.reverse::v) (by
    rw[h1,List.reverse_append,List.reverse_cons,O7,O7,iW,iW,Tn.flat,List.append_nil,Ad,Ht,Nat.zero_add,<-hu]) (by simp[h2]) (by
    refine⟨?_, ?_⟩
    ·rw[hz,List.getElem?_append_right (by rw[h2,hpl,jP];omega),h2,hpl,jP];rw[show sizes u+1+sizes v - 1 - (sizes u+sizes v)=0 by omega];simp
    ·rw[akw (by rw[h2,hpl,jP];omega)];exact ahr h3) h
   obtain⟨us,k1,k2,k3⟩:=this;exact⟨us,by simpa using k1,by simpa using k2,k3⟩
def ahs{l:List Nd}(h:Jj l=true):∃t:Tn,l=t.flat 0∧t.size<=400:=by
 unfold Jj at h;cases hs:qY (ks l) with
 |none=>rw[hs] at h;cases h
 |some r=>
  rw[hs] at h;unfold qY at hs;split at hs
  ·rename_i hq;rw[Rt] at hq;obtain⟨us,k1,k2,k3⟩:=acs l [] [] r [] rfl rfl trivial hs;simp only[List.nil_append] at k1 k2;have hl:l.length=sizes us:=by rw[k1,lH,Ht]
   cases us with
   |nil=>rw[sizes] at hl;omega
   |cons t ts=>
    rw[Vb,<-hl] at k3;simp only[k3.1,Option.getD_some,beq_iff_eq] at h;have:ts=[]:=by
     cases ts with
     |nil=>rfl
     |cons u us=>have:=u.size_pos;rw[sizes] at h;omega
    subst this;refine⟨t,by simpa[iW] using k1, ?_⟩;rw[sizes,sizes] at hl;omega
  ·cases hs
mutual
def Tn.sts:Tn->Nat->List Int
 | .mk _ _ _ _ ks,b=>VF ks b++[(b:Int)]
def VF:List Tn->Nat->List Int
 |[],_=>[]
 |t::ts,b=>t.sts b++VF ts (b+t.size)
end
mutual
def Tn.aht:∀(t:Tn) (b:Nat),(t.sts b).length=t.size
 | .mk _ _ _ _ ks,b=>by rw[Tn.sts,Tn.size,pF,TL ks b];rfl
def TL:∀(ks:List Tn) (b:Nat),(VF ks b).length=sizes ks
 |[],_=>rfl
 |t::ts,b=>by rw[VF,sizes,pF,t.aht b,TL ts]
end
def Tn.ahu:∀(t:Tn) (b:Nat),∃u,t.sts b=u++[(b:Int)]∧u.length=t.size - 1
 | .mk _ _ _ _ ks,b=>⟨VF ks b,by rw[Tn.sts],by rw[TL,Tn.size];omega⟩
def auo{st:List Int}{b:Nat}(hb:st.length=b):∀(ks:List Tn) (u:List Int),dU (st++VF ks b++u) (ends ks b).reverse ((b:Int)+sizes ks - 1)=some ((b:Int) - 1):=by
 intro ks;induction hn:ks.length generalizing ks with
 |zero=>intro u;have:ks=[]:=List.length_eq_zero_iff.1 hn;subst this;simp[ends,dU,sizes]
 |succ n ih=>
  intro u;obtain⟨ts,t,rfl⟩:∃ts t,ks=ts++[t]:=by
   have hne:ks≠[]:=by intro e;simp[e] at hn
   exact⟨ks.dropLast,ks.getLast hne,(List.dropLast_concat_getLast hne).symm⟩
  have hp:=t.size_pos;have hss:VF (ts++[t]) b=VF ts b++t.sts (b+sizes ts):=by
   have:∀(ts:List Tn) (b:Nat),VF (ts++[t]) b=VF ts b++t.sts (b+sizes ts):=by
    intro ts;induction ts with
    |nil=>intro b;simp[VF,sizes]
    |cons v vs ihv=>intro b;rw[VE,VF,VF,ihv,sizes,Ad,Nat.add_assoc]
   exact this ts b
  have hsz:sizes (ts++[t])=sizes ts+t.size:=by rw[jP,sizes,sizes];omega
  rw[VT,List.reverse_append,ends,ends,List.reverse_singleton,List.singleton_append,dU,hsz];have hn':¬((b:Int)+((sizes ts+t.size:Nat):Int) - 1<0∨((b+sizes ts:Nat):Int)+t.size - 1≠(b:Int)+((sizes ts+t.size:Nat):Int) - 1):=ak;rw[if_neg hn'];obtain⟨w,hw,hwl⟩:=t.ahu (b+sizes ts);have hget:(st++VF (ts++[t]) b++u)[(((b+sizes ts:Nat):Int)+t.size - 1).toNat]? =some ((b+sizes ts:Nat):Int):=by
   rw[hss,hw];have e:(((b+sizes ts:Nat):Int)+t.size - 1).toNat=(st++VF ts b++w).length:=by simp only[pF,hb,TL,hwl];omega
   rw[e,show st++(VF ts b++(w++[((b+sizes ts:Nat):Int)]))++u=(st++VF ts b++w)++(((b+sizes ts:Nat):Int)::u) by simp,List.getElem?_append_right (Nat.le_refl _)];simp
  rw[hget,Option.getD_some,hss,show st++(VF ts b++t.sts (b+sizes ts))++u=st++VF ts b++(t.sts (b+sizes ts)++u) by simp];have:=ih ts (by simpa using hn) (t.sts (b+sizes ts)++u);rw[<-this];congr 1
mutual
def Tn.YV:∀(t:Tn) (st:List Int) (l:List Nd),fM st (ks (t.flat st.length++l))=fM (st++t.sts st.length) (ks l)
 | .mk k o x y us,st,l=>by rw[Tn.flat,Ad,acu us st];have e:ks ([⟨k,o,x,y,ends us st.length⟩]++l)=ends us st.length::ks l:=rfl;have hw:=auo (st:=st) rfl us [];rw[List.append_nil] at hw;rw[e,fM,pF,TL,Int.natCast_add,hw,Tn.sts];simp only;rw[Ad];congr 3;simp
def acu:∀(us:List Tn) (st:List Int) (l:List Nd),fM st (ks (iW us st.length++l))=fM (st++VF us st.length) (ks l)
 |[],st,l=>by simp[iW,VF]
 |t::us,st,l=>by rw[iW,Ad,t.YV st];have:=acu us (st++t.sts st.length) l;rw[pF,t.aht] at this;rw[this,VF,Ad]
end
def YW(t:Tn):fM [] (ks (t.flat 0))=some (t.sts 0):=by have:=t.YV [] [];simpa[ks,fM] using this
def Lies.sts{l:List Nd}{t:Tn}(hl:l=t.flat 0){b:Nat}{u:Tn}(h:Lies l b u):(t.sts 0)[b+u.size - 1]? =some (b:Int):=by
 obtain⟨pre,post,e,hb⟩:=h;have h0:=YW t;rw[<-hl,e,aun] at h0;have key:∀(a c:List (List Int)) (st r:List Int),fM st (a++c)=some r->∃m,fM st a=some m∧fM m c=some r∧m.length=st.length+a.length:=by
  intro a;induction a with
  |nil=>intro c st r h;exact⟨st,rfl,h,by simp⟩
  |cons x a ih=>
   intro c st r h;rw[VE,fM] at h;rw[fM];split at h
   ·cases h
   ·obtain⟨m,k1,k2,k3⟩:=ih c _ r h;exact⟨m,k1,k2,by rw[k3];simp;omega⟩
 obtain⟨m,k1,k2,k3⟩:=key _ _ _ _ h0;have hm:m.length=b:=by rw[k3,Rt,hb];simp
 subst hm;rw[u.YV m post] at k2;have pref:∀(a:List (List Int)) (st r:List Int),fM st a=some r->∃w,r=st++w:=by
  intro a;induction a with
  |nil=>intro st r h;cases h;exact⟨[],by simp⟩
  |cons x a ih=>
   intro st r h;rw[fM] at h;split at h
   ·cases h
   ·obtain⟨w,hw⟩:=ih _ r h;exact⟨_,by rw[hw,Ad]⟩
 obtain⟨w,hw⟩:=pref _ _ _ k2;obtain⟨v,hv,hvl⟩:=u.ahu m.length;have hp:=u.size_pos;rw[hw,hv,show m++(v++[(m.length:Int)])++w=(m++v)++((m.length:Int)::w) by simp,show m.length+u.size - 1=(m++v).length by rw[pF,hvl];omega,List.getElem?_append_right (Nat.le_refl _)];simp
def Ru(w:Bool):∀ts:List Tn,cZ w ts=ts.map (Tn.row w)
 |[]=>rfl
 |t::ts=>by rw[cZ,Ru w ts];rfl
mutual
def aER(w:Bool):∀t:Tn,qg (t.row w)=t.row false
 | .mk k o x y ts=>by have:=W9 w ts;simp only[Tn.row,qg,D.fz,this]
def W9(w:Bool):∀ts:List Tn,aP (cZ w ts)=cZ false ts
 |[]=>rfl
 |t::ts=>by rw[cZ,aP,aER w t,W9 w ts,cZ]
end
end Go.Vm
namespace Go.Vm
open Go
open Go.IntKind (i64)
mutual
def tyD(P:Program):Nat->TypeId->Row->Prop
 |0,_,_=>False
 |n+1,t,row=>match P.underlying t with
  |some .bool=>∃b,row=[.bool b]
  |some (.int k)=>∃x,row=[.int k x]∧(Lit.int k x).wf=true
  |some .string=>∃s,row=[.str s]∧s.length<=maxLen
  |some (.slice e)=>∃rows,row=[.sl false (nG P e) rows]∧rows.length<=maxLen∧∀r,r∈rows->tyD P n e r
  |some (.struct fs)=>ahv P n fs.toList row
  |_=>False
def ahv(P:Program):Nat->List Field->Row->Prop
 |_,[],row=>row=[]
 |n,f::fs,row=>∃r1 r2,row=r1++r2∧tyD P n f.type r1∧ahv P n fs r2
end
def adG(P:Program):Nat->List Field->Option Nat
 |o,[]=>some o
 |o,f::fs=>bif Nat.beq f.offset o then adG P (o+P.cellsOf f.type) fs else none
def aeZ(P:Program):Nat->TypeId->Bool
 |0,_=>false
 |n+1,t=>match P.underlying t with
  |some .bool|some (.int _)|some .string=>true
  |some (.slice e)=>aeZ P n e && Nat.ble 1 (nG P e)
  |some (.struct fs)=>(match adG P 0 fs.toList with|some o=>Nat.beq o (P.cellsOf t)|none=>false) && fs.toList.all λf=>aeZ P n f.type
  |_=>false
def aup(P:Program)(t:TypeId):nG P t=P.cellsOf t:=by unfold nG Program.cellsOf;cases P.info? t<;>rfl
def ahw{α β:Type}{f:α->Option β}:∀{l:List α} {r:List β},l.mapM f=some r->r.length=l.length∧∀(i:Nat) x,l[i]? =some x->∃y,f x=some y∧r[i]? =some y
 |[],r,h=>by simp at h;subst h;exact⟨rfl,λi x h=>by simp at h⟩
 |a::l,r,h=>by
  rw[List.mapM_cons] at h;simp only[Option.bind_eq_bind,Option.bind_eq_some_iff,Option.pure_def,iI] at h;obtain⟨y,h1,r',h2,rfl⟩:=h;obtain⟨h3,h4⟩:=ahw h2;refine⟨by simp[h3],λi x hx=> ?_⟩;cases i with
  |zero=>simp only[List.getElem?_cons_zero,iI] at hx;subst hx;exact⟨y,h1,rfl⟩
  |succ i=>simpa using h4 i x (by simpa using hx)
def asD{α:Type}{p:Nat->α->Prop}:∀(n k:Nat),(∀i,i<n->∃x,p (k+i) x)->∃l:List α,l.length=n∧∀(i:Nat) x,l[i]? =some x->p (k+i) x
 |0,_,_=>⟨[],rfl,λi x h=>by simp at h⟩
 |n+1,k,h=>by
  obtain⟨x,hx⟩:=h 0 ak;obtain⟨l,h1,h2⟩:=asD n (k+1) (λi hi=>by
   have:=h (i+1) ak
   rwa [show k+(i+1)=k+1+i by omega] at this)
  refine⟨x::l,by simp[h1],λi y hy=> ?_⟩;cases i with
  |zero=>simp only[List.getElem?_cons_zero,iI] at hy;subst hy;exact hx
  |succ i=>
   have:=h2 i y (by simpa using hy)
   rwa [show k+1+i=k+(i+1) by omega] at this
def anC{h:View}:∀(r:Row) (b o:Nat) (cs:List Value),(∀(j:Nat) v,cs[j]? =some v->h b (o+j)=some v)->jg h r cs->yx h r b o
 |[],_,_,_,_,_=>trivial
 |x::r,b,o,cs,hc,⟨v,cs',e,h1,h2⟩=>by
  subst e;exact⟨⟨v,by simpa using hc 0 v rfl,h1⟩,anC r b (o+1) cs' (λj u hj=>by
   have:=hc (j+1) u (by simpa using hj)
   rwa [show o+(j+1)=o+1+j by omega] at this) h2⟩
def akx{h:View}{s b:Nat}:∀(rs:List Row) (o:Nat),(∀(i:Nat) r,rs[i]? =some r->r.length=s∧yx h r b (o+i * s))->oM h s rs b o
 |[],_,_=>trivial
 |r::rs,o,hr=>by
  obtain⟨h1,h2⟩:=hr 0 r rfl;refine⟨h1,by simpa using h2,akx rs (o+s) λi q hq=> ?_⟩;obtain⟨h3,h4⟩:=hr (i+1) q (by simpa using hq);refine⟨h3, ?_⟩
  rwa [show o+(i+1) * s=o+s+i * s by rw[Nat.succ_mul];omega] at h4
def ae0{h:View}:∀{r1 r2:Row} {c1 c2:List Value},jg h r1 c1->r1.length=c1.length->jg h r2 c2->jg h (r1++r2) (c1++c2)
 |[],r2,c1,c2,_,hl,h2=>by have:c1=[]:=List.length_eq_zero_iff.1 hl.symm;subst this;exact h2
 |x::r1,r2,_,c2,⟨v,cs',e,h1,h3⟩,hl,h2=>by subst e;exact⟨v,cs'++c2,rfl,h1,ae0 h3 (by simpa using hl) h2⟩
def ahx{w:World}{base:Nat}{a:Addr}{n:Nat}{cs:List Value}(h:w.cells? base a n=some cs):cs.length=n∧∀j,j<n->∃v,w.cell? (a.add j)=some v∧cs[j]? =some v:=by
 unfold World.cells? at h;split at h
 ·obtain⟨h1,h2⟩:=ahw h;rw[List.length_range] at h1;refine⟨h1,λj hj=> ?_⟩;exact h2 j j (by simp[hj])
 ·cases h
section
variable {H:Type} {enc:TypeId×Value->H} {P:Program} {w:World} {base:Nat} {spare:Nat->Bool} {held:Bool}
def aky{n:Nat}(ih:∀(t:TypeId) (cs:List Value) (d:DataW H) (ps:List MemPlace),aeZ P n t=true->DataW.trod enc P w base spare held n t cs=some (d,ps)->∃row:Row,row.length=cs.length∧tyD P n t row∧jg (full w) row cs):
  ∀(fs:List Field) (o tot:Nat) (cs:List Value) (xs:List (DataW H×List MemPlace)),adG P o fs=some tot->(fs.all λf=>aeZ P n f.type)=true->tot<=cs.length->
   fs.mapM (λf=>DataW.trod enc P w base spare held n f.type ((cs.drop f.offset).take (P.cellsOf f.type)))=some xs->
   ∃row:Row,row.length=tot - o∧o<=tot∧ahv P n fs row∧jg (full w) row ((cs.drop o).take (tot - o))
 |[],o,tot,cs,xs,hc,_,_,_=>by simp only[adG,iI] at hc;subst hc;exact⟨[],by simp,Nat.le_refl _,by simp[ahv],trivial⟩
 |f::fs,o,tot,cs,xs,hc,hg,hle,hm=>by
  simp only[adG] at hc;cases hb:Nat.beq f.offset o with
  |false=>simp[hb] at hc
  |true=>
   simp only[hb,aI] at hc;have hbo:=Ac hb;simp only[List.all_cons,EU] at hg;rw[List.mapM_cons] at hm;simp only[Option.bind_eq_bind,Option.bind_eq_some_iff,Option.pure_def,iI] at hm;obtain⟨y,h1,ys,h2,rfl⟩:=hm;obtain⟨aI8,l2,le2,t2,s2⟩:=aky ih fs _ tot cs ys hc hg.2 hle h2;obtain⟨aI9,l1,t1,s1⟩:=ih _ _ y.1 y.2 hg.1 h1;rw[hbo] at l1 s1;have hl:((cs.drop o).take (P.cellsOf f.type)).length=P.cellsOf f.type:=by simp;omega
   rw[hl] at l1;refine⟨aI9++aI8,by simp[l1,l2];omega,ak,by simp only[ahv];exact⟨aI9,aI8,rfl,t1,t2⟩, ?_⟩;have e:(cs.drop o).take (tot - o)=(cs.drop o).take (P.cellsOf f.type)++(cs.drop (o+P.cellsOf f.type)).take (tot - (o+P.cellsOf f.type)):=by rw[<-List.drop_drop,show tot - o=P.cellsOf f.type+(tot - (o+P.cellsOf f.type)) by omega,List.take_add]
   rw[e];exact ae0 s1 (by rw[l1,hl]) s2
def al8:∀(n:Nat) (t:TypeId) (cs:List Value) (d:DataW H) (ps:List MemPlace),aeZ P n t=true->DataW.trod enc P w base spare held n t cs=some (d,ps)->
  ∃row:Row,row.length=cs.length∧tyD P n t row∧jg (full w) row cs
 |0,t,cs,d,ps,hg,_=>by simp[aeZ] at hg
 |n+1,t,cs,d,ps,hg,h=>by
  simp only[aeZ] at hg;unfold DataW.trod at h;cases hu:P.underlying t with
  |none=>simp[hu] at hg
  |some D=>
   rw[hu] at hg h;cases D with
   |bool=>split at h<;>simp_all;rename_i b;exact⟨[.bool b],by simp,by simp[tyD,hu],_,_,rfl,rfl,trivial⟩
   |int k=>split at h<;>simp_all;rename_i k' x _;obtain⟨⟨rfl,hw⟩,_⟩:=h;refine⟨[.int _ x],by simp, ?_,_,_,rfl,rfl,trivial⟩;simp only[tyD,hu];exact⟨x,rfl,hw⟩
   |string=>
    split at h<;>simp_all;rename_i s;refine⟨[.str s.data.toList],by simp, ?_,_,_,rfl, ?_,trivial⟩
    ·simp only[tyD,hu];refine⟨_,rfl, ?_⟩;simpa using h.1
    ·simp[ro]
   |slice e=>
    simp only[EU] at hg;split at h
    all_goals first
     |(rename_i e1;cases e1;done)
     |(cases h;done)
     |(exfalso;rename_i h21 _ _ _ _ _ _ _ _ _ _ _ _ _ _ _ _ _ _ _;exact h21 _ rfl)
     |skip
    case h_7=>
     rename_i e1;refine⟨[.sl false (nG P e) []],rfl, ?_,_,_,rfl, ?_,trivial⟩
     ·simp only[tyD,hu];exact⟨[],rfl,by simp,λr hr=>by simp at hr⟩
     ·simp only[ro];exact⟨none,0,rfl,by simp,λhn=>absurd rfl hn⟩
    case h_8=>
     rename_i _ e' a len cap e1;cases e1;split at h
     ·rename_i hb;rw[Option.bind_eq_some_iff] at h;obtain⟨elems,hel,_⟩:=h;obtain⟨hl,hget⟩:=ahw hel;rw[List.length_range] at hl;have hs:=aup P e;have hpos:1<=P.cellsOf e:=by rw[<-hs];exact Nat.le_of_ble_eq_true hg.2
      have hrow:∀i,i<len->∃r:Row,tyD P n e r∧r.length=nG P e∧a.spot=none∧yx (full w) r a.block (a.off+i * nG P e):=by
       intro i hi;obtain⟨y,hy,_⟩:=hget i i (by simp[hi]);rw[Option.bind_eq_some_iff] at hy;obtain⟨cs,hcs,hy⟩:=hy;obtain⟨row,l1,t1,s1⟩:=al8 n e cs y.1 y.2 hg.1 hy;obtain⟨hcl,hcg⟩:=ahx hcs;refine⟨row,t1,by rw[l1,hcl,hs], ?_, ?_⟩
       ·obtain⟨y0,hy0,_⟩:=hget 0 0 (List.getElem?_range ak);rw[Option.bind_eq_some_iff] at hy0;obtain⟨cs0,hcs0,_⟩:=hy0;obtain⟨u,hu1,_⟩:=(ahx hcs0).2 0 ak;simpa[Addr.add] using World.cell?_spot hu1
       ·refine anC row a.block _ cs (λj v hj=> ?_) s1;have hjn:j<P.cellsOf e:=by have:=(Md.1 hj).1;omega
        obtain⟨u,hu1,hu2⟩:=hcg j hjn;rw[hu2] at hj;cases hj;have hsp:=World.cell?_spot hu1;have e2:((a.add (i * P.cellsOf e)).add j)=⟨a.block,a.off+i * nG P e+j,none⟩:=by
         rw[hs];generalize i * P.cellsOf e=q at hsp⊢;obtain⟨ab,ao,as_⟩:=a;rcases Nat.eq_zero_or_pos q with h1|h1<;>rcases Nat.eq_zero_or_pos j with h2|h2
         ·subst h1;subst h2;have:as_=none:=hsp;subst this;rfl
         ·subst h1;simp[Addr.add,show j≠0 by omega]
         ·subst h2;simp[Addr.add,show q≠0 by omega]
         ·simp[Addr.add,show q≠0 by omega,show j≠0 by omega]
        rw[e2] at hu1;exact hu1
      obtain⟨rows,r1,r2⟩:=asD (p:=λi (r:Row)=>tyD P n e r∧r.length=nG P e∧a.spot=none∧yx (full w) r a.block (a.off+i * nG P e)) len 0 (λi hi=>by rw[Nat.zero_add];exact hrow i hi);refine⟨[.sl false (nG P e) rows],rfl, ?_,_,_,rfl, ?_,trivial⟩
      ·simp only[tyD,hu];refine⟨rows,rfl,ak,λr hr=> ?_⟩;obtain⟨i,hi⟩:=List.getElem?_of_mem hr;exact(r2 i r hi).1
      ·simp only[ro];refine⟨some a,cap,by rw[r1],ak,λhn=> ?_⟩;have h0:∃r0,rows[0]? =some r0:=by
        cases rows with
        |nil=>exact absurd rfl hn
        |cons r0 _=>exact⟨r0,rfl⟩
       obtain⟨r0,h0⟩:=h0;have hsp:=(r2 0 r0 h0).2.2.1;refine⟨a.block,a.off, ?_,akx rows a.off λi r hr=> ?_⟩
       ·obtain⟨ab,ao,as_⟩:=a;simp only at hsp;subst hsp;rfl
       ·obtain⟨_,h2,_,h4⟩:=r2 i r hr;rw[Nat.zero_add] at h4;exact⟨h2,h4⟩
     ·cases h
   |struct fs=>
    simp only[EU] at hg;split at h
    all_goals first
     |(rename_i e1;cases e1;done)
     |(cases h;done)
     |(exfalso;rename_i h21 _ _ _ _ _ _ _ _ _ _ _ _ _ _ _ _ _ _ _;exact h21 _ rfl)
     |skip
    case h_9=>
     rename_i _ fs' cs' e1;cases e1;split at h
     ·rename_i hcl;rw[Option.map_eq_some_iff] at h;obtain⟨xs,hxs,_⟩:=h;cases hc:adG P 0 fs.toList with
      |none=>simp[hc] at hg
      |some tot=>simp only[hc] at hg;have htot:=Ac hg.1;obtain⟨row,l1,_,t1,s1⟩:=aky (λt cs d ps hg h=>al8 n t cs d ps hg h) fs.toList 0 tot _ xs hc hg.2 ak hxs;refine⟨row,by rw[l1];omega,by simp only[tyD,hu];exact t1, ?_⟩;simpa[htot,<-hcl] using s1
     ·cases h
   |_=>simp at hg
end
end Go.Vm
namespace Go.Vm
open Go Go.RowKit
open Go.IntKind (i64)
def akz{A:Adv}{f:Nat}(hm:A.move f=[]){μ:Nat->Value}{m:Mem}{H:Heap}{h:View}:∀{vs:List V} {gs:List Value} (i:Nat),bV μ m h vs gs->Uy A f μ m H h i vs gs []
 |[],gs,i,q=>by simp only[bV] at q;simp only[Uy];exact⟨q,trivial⟩
 |v::vs,gs,i,q=>by
  simp only[bV] at q;obtain⟨g,gs',rfl,h1,h2⟩:=q;simp only[Uy];refine⟨g,gs',[],[],rfl,rfl, ?_,akz hm (i+1) h2⟩;split
  ·rename_i hmo;simp only[Fq,hm,mem?,aS] at hmo;cases hr:mem? i (A.ref f)<;>cases hr2:mem? i (A.raw f)<;>cases hr3:mem? i (A.look f)<;>simp[hr,hr2,hr3] at hmo
  ·exact⟨rfl,h1⟩
def auq{X:Ctx}(hp:alT X){f:Nat}{fn:Func}{t:TypeId}{args:List V}{gargs:List Value}{w:World}(hf:X.P.funcs[f]? =some fn)(hb:fn.body.isSome=true)(hr:fn.resultTypes=#[t])(ht:Oi X.P t=false)(hm:X.OU.move f=[])(hgl:aew X (full w))(htb:atF X w)
  (hs:bV (impμ []) [] (full w) args gargs) (h:call X f args []=some ([[.bool true]],[])):
  Calls X.P f gargs.toArray w λe w'=>e=.returned (.bool true)∧Below w.heap.size w w':=by
 have hG:Given X 0 (λ_=>True) w f args [] gargs [] [] []:=by
  have hv:(full w).le (view w (λ_=>True) (· ∈([]:List Nat)++[])):=by intro b o v h;exact aga trivial (by simp) h
  refine⟨by simp,by simp,λ_ _=>trivial,Nat.zero_le _, ?_,⟨rfl,rfl⟩,Jf hv hgl,htb⟩;exact WH (sG _ _) hv (λ_ _=>rfl) (akz (H:=dA w) hm 0 hs)
 refine(az5 hp f fn args [] [[.bool true]] [] hf hb h 0 (λ_=>True) w gargs [] [] [] hG).mono ?_;rintro e w' ⟨gs,M1,M2,rfl,D⟩;have hres:=D.res;rw[hr] at hres;simp only[VK] at hres;obtain⟨row,rows',g,gs',cs,N1,N2,e1,e2,_,hv,ho,hl,e3,e4,_⟩:=hres;simp only[List.cons.injEq] at e1;obtain⟨rfl,rfl⟩:=e1;subst e4;subst e2;simp only[valOf,ht,Bool.false_eq_true,if_false] at hv;subst hv;simp only[jd,ow] at ho;obtain⟨v,cs',N1,N2,e5,_,⟨rfl,_⟩,_⟩:=ho;simp only[List.cons.injEq] at e5;obtain⟨rfl,_⟩:=e5;refine⟨rfl,⟨D.keep.os,D.keep.tape,D.keep.output,D.keep.size,λk hk=>D.keep.block k hk (by simp)⟩⟩
section
variable {H:Type} {enc:TypeId×Value->H} {P:Program} {w:World} {base:Nat} {spare:Nat->Bool} {held:Bool} {t:TypeId} {v:Value} {d:DataW H} {ps:List MemPlace}
def aAc{μ:Nat->Value}{m:Mem}(h:DataW.Trod enc P w base spare held t v d ps)(hg:∀n,aeZ P (n+8) t=true)(hv:v.cells.toList=[v]):
  ∃n x,tyD P (n+8) t [x]∧aO μ m (full w) (.d x) v:=by
 obtain⟨n,hn⟩:=h;have hn':DataW.trod enc P w base spare held (n+8) t v.cells.toList=some (d,ps):=DataW.trod_le (Nat.le_add_right n 8) hn;obtain⟨row,hl,ht,hs⟩:=al8 (n+8) t _ d ps (hg n) hn';rw[hv] at hl hs;cases row with
 |nil=>simp at hl
 |cons x r=>
  cases r with
  |cons _ _=>simp at hl
  |nil=>obtain⟨u,cs',e,h1,_⟩:=hs;simp only[List.cons.injEq] at e;obtain⟨rfl,_⟩:=e;exact⟨_,x,ht,by simpa[aO] using h1⟩
end
section
variable {P:Program} {n:Nat} {t:TypeId} {row:Row}
def al9{k:IntKind}(hu:P.underlying t=some (.int k))(h:tyD P (n+1) t row):∃x,row=[.int k x]∧(Lit.int k x).wf=true:=by simpa[tyD,hu] using h
def asE(hu:P.underlying t=some .string)(h:tyD P (n+1) t row):∃s,row=[.str s]∧s.length<=maxLen:=by simpa[tyD,hu] using h
def avZ{e:TypeId}(hu:P.underlying t=some (.slice e))(h:tyD P (n+1) t row):∃rows,row=[.sl false (nG P e) rows]∧rows.length<=maxLen∧∀r,r∈rows->tyD P n e r:=by simpa[tyD,hu] using h
def arw{fs:Array Field}(hu:P.underlying t=some (.struct fs))(h:tyD P (n+1) t row):ahv P n fs.toList row:=by simpa[tyD,hu] using h
def Xa{f:Field}{fs:List Field}(h:ahv P n (f::fs) row):∃r1 r2,row=r1++r2∧tyD P n f.type r1∧ahv P n fs r2:=by simpa[ahv] using h
def av1(h:ahv P n [] row):row=[]:=by simpa[ahv] using h
def ahy{α:Type}{f:α->Row}{p:α->Prop}:∀{rows:List Row},(∀r,r∈rows->∃x,r=f x∧p x)->∃l:List α,rows=l.map f∧∀x,x∈l->p x
 |[],_=>⟨[],rfl,λx h=>by simp at h⟩
 |r::rows,h=>by
  obtain⟨x,hx,hp⟩:=h r (by simp);obtain⟨l,hl,hq⟩:=ahy (rows:=rows) (λr hr=>h r (by simp[hr]));refine⟨x::l,by simp[hx,hl],λy hy=> ?_⟩;rcases List.mem_cons.1 hy with rfl|hy
  ·exact hp
  ·exact hq y hy
end
end Go.Vm
namespace Go.Vm
open Go
open Go.IntKind (i64)
section
variable {H:Type} {enc:TypeId×Value->H}
def ahz{a:Assume}{C:Checked}{os:Os}{f:FuncId}{fn:Func}{s:ChangeSpec}{conds:List PathCond}{apart fresh handsOn again:Bool}{X:World->Array Value->Prop}
  (hX:∀(w w':World) (args:Array Value),w.heap=w'.heap->X w args->X w' args)
  (own:ownKnob C.prog.godebug=none) (started:os.Started) (noInit:C.prog.inits.idxOf? f=none) (hfn:C.prog.funcs[f]? =some fn)
  (witness:∃(w:World) (tape:Tape) (i:Input),w.os=os∧(w.forCall tape i).Shaped C.prog∧i.vars=[]∧Input.okWide C.prog (w.forCall tape i) .any w.heap.size f i∧
   ((s.pre enc C.prog fn conds apart (w.forCall tape i).memory i.args∧X (w.forCall tape i).memory i.args)∧sizedMet enc C.prog fn (OpenSpec.ofChange s) apart (w.forCall tape i).memory i.args)∧a.holds C.prog (lone (Frame.enter C.prog f i.args .normal) [] (w.forCall tape i)))
  (contract:∀(W:World) (base:Nat) (args:Array Value) (ds gs:List (DataW H)) (before:List MemPlace),
   (∀(j:Nat) t v,fn.params[j]? =some t->args[j]? =some v->Value.okWide C.prog W .any base t v)->
   DataW.Whole enc C.prog fn.params.toList s.vars apart W args.toList ds gs before->X W args->W.ShapedOpen C.prog->
   Calls C.prog f args W λe W'=>∃v,e=.returned v∧s.post enc C.prog fn apart fresh handsOn again W args v W'):
  ReturnsInHanded a C os f .any (λw args=>(s.pre enc C.prog fn conds apart w args∧X w args)∧sizedMet enc C.prog fn (OpenSpec.ofChange s) apart w args) (s.post enc C.prog fn apart fresh handsOn again):=by
 refine returnsInHanded_of_calls own started noInit witness ?_;rintro w tape i _ shp _ ⟨_,_,_,g,hg,_,_,_,_,val⟩ ⟨⟨⟨ds,gs,before,whole,_⟩,hx⟩,_⟩ _;have e:g=fn:=Option.some.inj (hg.symm.trans hfn);rw[e] at val;have c:=contract (w.forCall tape i) w.heap.size i.args ds gs before val (DataW.Whole.of_heap (w':=w.forCall tape i) (by rfl) whole) (hX _ _ _ (by rfl) hx) shp;refine c.mono ?_;rintro e W' ⟨v,rfl,hp⟩;exact ChangeSpec.post_blind hp
end
def a1e:DataW Unit->Value
 | .lit (.int k n)=> .int k n
 | .lit (.bool b)=> .bool b
 | .lit (.string b)=> .string ⟨b.toArray⟩
 |_=> .tuple #[]
def akA:Nat->DataW Unit->List Value
 |0,_=>[]
 |n+1,d=>match d with
  | .agg ds=>ds.flatMap (akA n)
  |d=>[a1e d]
def aJa(h:Array Obj)(g:Nat)(d:DataW Unit):Array Obj:=h.modify g λo=>match o with
 | .cells _ t fr=> .cells (akA 4 d).toArray t fr
 |o=>o
def layAll(h:Array Obj):List (Nat×DataW Unit)->Array Obj
 |[]=>h
 |(g,d)::l=>layAll (aJa h g d) l
noncomputable def laidWorld(P:Program)(l:List (Nat×DataW Unit))(os:Os):World:=
 let w:=World.holding P os ⟨#[],#[],[]⟩
 {w with heap:=layAll w.heap l}
def anD{h:View}{g:Nat}:∀(row:Row) (o:Nat),(∀(j:Nat) x,row[j]? =some x->∃v,h g (o+j)=some v∧ro h x v)->yx h row g o
 |[],_,_=>trivial
 |x::row,o,q=>⟨by simpa using q 0 x rfl,anD row (o+1) λj y hj=>by
   have:=q (j+1) y (by simpa using hj)
   rwa [show o+(j+1)=o+1+j by omega] at this⟩
def adH{P:Program}{w:World}{nm:String}{g t e n fuel:Nat}{cs:Array Value}{ss:List (List UInt8)}{p:List MemPlace}(hu:P.underlying t=some (.array n e))(he:P.underlying e=some .string)(hc:P.cellsOf e=1)
  (hg:P.globalNamed nm=some g) (hv:w.var? P nm=some cs) (h:DataW.trod (λ_=>()) P w 0 (λ_=>true) false fuel t cs.toList=some (.agg (ss.map λs=> .lit (.string s)),p)):yx (full w) (ss.map D.str) g 0:=by
 obtain⟨xs,m,rfl,hx,hcl,hxl,hel⟩:=DataW.trod_array hu h;simp only[jY,DataW.agg.injEq] at hx;refine anD _ 0 λj x hj=> ?_
 rw[List.getElem?_map] at hj;cases hs:ss[j]? with
 |none=>rw[hs] at hj;cases hj
 |some s=>
  rw[hs] at hj;cases hj;have hjl:j<ss.length:=(Md.1 hs).1;have hlen:ss.length=xs.length:=by have:=congrArg List.length hx.1;simpa using this
  obtain⟨y,hy⟩:∃y,xs[j]? =some y:=⟨xs[j]'ak,by simp⟩
  have hh:=hel j ak;rw[hy] at hh;obtain⟨b,hb1,hb2,_⟩:=DataW.trod_string he hh;have hyx:y.1=.lit (.string s):=by have:=congrArg (λl=>l[j]?) hx.1;simp only[List.getElem?_map,hs,hy,Jb,iI] at this;exact this.symm
  rw[hb2] at hyx;simp only[DataW.lit.injEq,Lit.string.injEq] at hyx;rw[hc,Nat.mul_one] at hb1;have hcell:cs[j]? =some (.string b):=by have:=congrArg (λl=>l[0]?) hb1;simpa using this
  refine⟨.string b, ?_, ?_⟩
  ·have:=World.var?_cell hg hv j;rw[Nat.zero_add];show w.cell? ⟨g,j,none⟩=_;rw[this];exact hcell
  ·simp only[ro];rw[<-hyx]
end Go.Vm
