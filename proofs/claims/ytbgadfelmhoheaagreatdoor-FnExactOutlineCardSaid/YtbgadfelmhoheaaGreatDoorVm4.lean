import Derived.Test.YtbgadfelmhoheaaGreatDoorVm3
import Derived.IntWalk
import Derived.ChangeShapes
import Derived.ChangeOld
import Derived.Carry
import Derived.WideShapes
import Derived.ProofKit
import Derived.Handed
import Derived.LaidLaws
import Derived.LaidHandle
import Derived.Shelf.Vars
import Derived.OpenShut
import Derived.ChangeArms
import Derived.LaidMore
set_option linter.defProp false
set_option linter.unusedVariables false
set_option linter.unusedSimpArgs false
namespace Go.Vm
open Go
open Go.IntKind (i64)
section
variable {base:Nat} {U:Nat->Prop} {w:World} {X:Ctx} {P:Program}
def aef(tmps:Array Value):ResultVar->Sem Value
 | .tmp t=>pure (tmps.getD t undef)
 | .cell a t=>do loadVar t (<-asAddr (tmps.getD a undef))
def Uc{α:Type}(f:α->Sem Value):∀(l:List α) (gs:List Value),(∀(i:Nat) x,l[i]? =some x->∃g,gs[i]? =some g∧(f x).run P w=.ok g w)->l.length=gs.length->(l.mapM f).run P w=.ok gs w
 |[],gs,_,hl=>by have:gs=[]:=List.length_eq_zero_iff.1 hl.symm;subst this;rfl
 |x::l,gs,h,hl=>by
  cases gs with
  |nil=>simp at hl
  |cons g gs=>obtain⟨g',h1,h2⟩:=h 0 x rfl;simp only[List.getElem?_cons_zero,eX] at h1;subst h1;have ih:=Uc f l gs (λi y hy=>by simpa using h (i+1) y (by simpa using hy)) (by simpa using hl);rw[List.mapM_cons];simp only[Sem.run_bind,h2,Result.andThen_ok,ih];rfl
def YO{fn:Func}{tmps:Array Value}{gs:List Value}(h:∀(i:Nat) x,fn.results.toList[i]? =some x->∃g,gs[i]? =some g∧(aef tmps x).run P w=.ok g w)(hl:fn.results.toList.length=gs.length):
  (results fn tmps).run P w=.ok (V9 gs) w:=by
 have hm:=Uc (P:=P) (w:=w) (aef tmps) fn.results.toList gs h hl;have e:results fn tmps=(do
  let vs<-fn.results.mapM (aef tmps)
  pure (if h:vs.size=1 then vs[0] else .tuple vs)):=by
  unfold results
  first
   |rfl
   |(congr 1;done)
   |(congr 1;congr 1;done)
 rw[e,Array.mapM_eq_mapM_toList];simp only[map_eq_pure_bind,Sem.run_bind,hm,Result.andThen_ok,Sem.run_pure];congr 1;unfold V9;cases gs with
 |nil=>rfl
 |cons g gs=>cases gs with
  |nil=>simp
  |cons _ _=>simp
def alh{m:Mem}{G:GS}{tm:jv}{a:Act}{r:ResultVar}{t:TypeId}(hg:BL base U w m G)(ho:G.out=[])(hT:V3 G.μ m (Gh U w G) tm a){row:Row}{m':Mem}{l l':Log}(h:(ad5 P tm r t).run m l=some (row,m',l')):
  ∃G' N g cs,I8 base U w m G m' G' N∧(aef a.tmps r).run P w=.ok g w∧valOf P t cs g∧fK (bT w) (Gh U w G') row cs N∧row.length=cs.length:=by
 cases r with
 |tmp x=>
  simp only[ad5] at h;have hx:=O6 (P:=P) hT 0 (.tmp x);simp only[ev] at hx;have hgo:∀v:V,aF G.μ m (Gh U w G) v (a.eval (.tmp x))->Gj P t=false->(Jb [v]).run m l=some (row,m',l')->
    ∃G' N g cs,I8 base U w m G m' G' N∧(aef a.tmps (.tmp x)).run P w=.ok g w∧valOf P t cs g∧fK (bT w) (Gh U w G') row cs N∧row.length=cs.length:=by
   intro v hv ht h;obtain⟨G',N,t1,q1,hl⟩:=O1 hg (vs:=[v]) (gs:=[a.eval (.tmp x)]) (by simp only[bF];exact⟨_,_,rfl,hv,rfl⟩) ho h;exact⟨G',N,a.eval (.tmp x),[a.eval (.tmp x)],t1,rfl,by simp[valOf,ht],q1,by rw[hl];rfl⟩
  cases ht:Gj P t with
  |true=>
   rw[ht] at h;cases hv:PX x tm with
   |agg cs=>rw[hv] at h hx;simp only[aF] at hx;obtain⟨arr,e,hs⟩:=hx;obtain⟨G',N,t1,q1,hl⟩:=O1 hg hs ho h;refine⟨G',N,_,arr.toList,t1,rfl, ?_,q1,by rw[hl,jy hs]⟩;simp only[valOf,ht,if_true];exact e
   |_=>rw[hv] at h;exact(ak h).elim
  |false=>
   rw[ht] at h;cases hv:PX x tm with
   |agg cs=>rw[hv] at h;exact(ak h).elim
   |_=>rw[hv] at h hx;exact hgo _ hx ht h
 |cell y T=>
  simp only[ad5] at h;have hx:=O6 (P:=P) hT 0 (.tmp y);simp only[ev] at hx;split at h
  ·rename_i r he;rw[he] at hx;replace h:=aj h;obtain⟨c,m2,l2,h2,h⟩:=h;rw[rW] at h2;cases h2;cases hc:get r m with
   |none=>rw[hc] at h;exact(ak h).elim
   |some c=>
    rw[hc] at h;cases c with
    |arr _ _ _ _ _=>exact(ak h).elim
    |dead=>exact(ak h).elim
    |D5 _ _ _=>exact(ak h).elim
    |mF _ _=>exact(ak h).elim
    |box T' cs=>
     simp only at h;replace h:=aj h;obtain⟨_,m2,l2,h2,h⟩:=h;obtain⟨hck,rfl,rfl⟩:=cZ h2;simp only[zq,Bool.or_eq_true] at hck;obtain⟨⟨hTt,hlen⟩,hok,hagg⟩:=hck;have hTt:=uY hTt;have hlen:=uY hlen;subst hTt;simp only[aF,hc] at hx;obtain⟨_,b,hμ,hg0⟩:=hx;obtain⟨b',arr,e1,e2,e3,e4⟩:=hg.cell r _ hc (by rw[ho];simp);rw[hμ] at e1;cases e1;obtain⟨G',N,t1,q1,hl⟩:=O1 hg e3 ho h;have hal:=jy e3;obtain⟨g,hvg⟩:∃g,valOf P T arr.toList g:=by
      unfold valOf;cases ha:Gj P T with
      |true=>exact⟨_,rfl⟩
      |false=>
       have h1:cs.length=1:=by
        rcases hagg with h1|h1
        ·rw[ha] at h1;cases h1
        ·exact uY h1
       cases hr:arr.toList with
       |nil=>rw[hr] at hal;simp[h1] at hal
       |cons g r=>
        cases r with
        |nil=>exact⟨g,rfl⟩
        |cons _ _=>rw[hr] at hal;simp[h1] at hal
     refine⟨G',N,g,arr.toList,t1, ?_,hvg,q1,by rw[hl,hal]⟩;have hrun:=Gp (P:=P) (w:=w) (t:=T) (b:=b) (off:=0) (cs:=arr.toList) (g:=g) hok (by rw[hal,hlen]) (by intro j v hj;have hH:w.heap[b]? =some (.cells arr T' (0,0)):=e2;simp only[World.cell?,hH,Nat.zero_add];simpa using hj) hvg;simp only[aef];have hg0:a.tmps.getD y undef=.pointer (some ⟨b,0,none⟩):=hg0;rw[hg0];simpa[Instr.loadAt,Instr.sureAddr,asAddr] using hrun
  ·exact(ak h).elim
def aaQ{tm:jv}{a:Act}:∀{rs:List ResultVar} {ts:List TypeId} {m:Mem} {G:GS} (_:BL base U w m G) (_:G.out=[]) (_:V3 G.μ m (Gh U w G) tm a) {rows:List Row} {m':Mem} {l l':Log}
  (_:(SN P tm rs ts).run m l=some (rows,m',l')),∃G' N gs,I8 base U w m G m' G' N∧(∀(i:Nat) x,rs[i]? =some x->∃g,gs[i]? =some g∧(aef a.tmps x).run P w=.ok g w)∧rs.length=gs.length∧
   N7 P (bT w) (Gh U w G') ts rows gs N
 |[],[],m,G,hg,ho,hT,rows,m',l,l',h=>by simp only[SN,run_pure,eX,iL] at h;obtain⟨rfl,rfl,rfl⟩:=h;exact⟨G,[],[],I8.same hg,λi x h=>by simp at h,rfl,rfl,rfl,rfl⟩
 |r::rs,t::ts,m,G,hg,ho,hT,rows,m',l,l',h=>by
  simp only[SN] at h;replace h:=aj h;obtain⟨row,m1,l1,h1,h⟩:=h;replace h:=aj h;obtain⟨rows',m2,l2,h2,h⟩:=h;simp only[run_pure,eX,iL] at h;obtain⟨rfl,rfl,rfl⟩:=h;obtain⟨G1,N1,g,cs,t1,r1,v1,q1,e1⟩:=alh hg ho hT h1;obtain⟨G2,N2,gs,t2,r2,e2,q2⟩:=aaQ t1.ok (t1.out.trans ho) (λt v hv=>⟨(hT t v hv).1,t1.le.aF (hT t v hv).2⟩) h2;refine⟨G2,N1++N2,g::gs,t1.trans t2, ?_,by simp[e2],row,rows',g,gs,cs,N1,N2,rfl,rfl,rfl,v1,P6 t2.le.view q1,e1,q2⟩;intro i x hx;cases i with
  |zero=>simp only[List.getElem?_cons_zero,eX] at hx;subst hx;exact⟨g,rfl,r1⟩
  |succ i=>simpa using r2 i x (by simpa using hx)
 |[],_::_,_,_,_,_,_,_,_,_,_,h=>(ak h).elim
 |_::_,[],_,_,_,_,_,_,_,_,_,h=>(ak h).elim
def ali{μ μ':Nat->Value}{r:Nat}{c c' d:Cell}(hc:sameKind c c)(h:ES μ μ' r c c')(k:sameKind c' d):μ' r=μ r∧sameKind c d:=by
 cases c<;>cases c'<;>cases d<;>simp only[sameKind,ES] at hc h k⊢
 ·exact⟨h.2,h.1.symm.trans k⟩
 ·obtain⟨a1,a2,a3,a4⟩:=k;obtain⟨b1,b2,b3⟩:=h;obtain⟨c1,_,_,_⟩:=hc;have:=b3 (c1.trans a1.symm);exact⟨this.1,c1,a2,b2.symm.trans a3,this.2.symm.trans a4⟩
 all_goals trivial
def ac8{μ μ':Nat->Value}{m0 m1:Mem}(hle:Dl μ m0 μ' m1):∀{rs:List Nat} {cs ds:List Cell},kinds m0 rs cs->kinds m1 rs ds->(∀c,c∈cs->sameKind c c)->(∀(i r:Nat) c,rs[i]? =some r->cs[i]? =some c->get r m0=some c)->rs.map μ'=rs.map μ∧aj6 cs ds
 |[],cs,ds,h,k,_,_=>by simp only[kinds] at h k;subst h;subst k;exact⟨rfl,rfl⟩
 |r::rs,cs,ds,⟨c,c',cs',e1,h1,h2,h3⟩,⟨d,d',ds',e2,k1,k2,k3⟩,hs,hg=>by subst e1;subst e2;have hc:=hg 0 r c' rfl rfl;obtain⟨c2,q1,q2⟩:=hle r c' hc;rw[k1] at q1;cases q1;obtain⟨p1,p2⟩:=ali (hs c' (by simp)) q2 k2;obtain⟨r1,r2⟩:=ac8 hle h3 k3 (λc hc=>hs c (by simp[hc])) (λi r c hr hc=>hg (i+1) r c (by simpa using hr) (by simpa using hc));exact⟨by simp[p1,r1],d',ds',rfl,p2,r2⟩
def YP{H:Heap}{h:View}:∀{cs:List Cell} {gs:List Value} {N:List Nat},cellsB H h cs gs N->∀c,c∈cs->sameKind c c
 |[],_,_,_,c,hc=>by simp at hc
 |c::cs,_,_,⟨g,gs',N1,N2,e,_,q1,q2⟩,d,hd=>by
  rcases List.mem_cons.1 hd with rfl|hd
  ·exact aaN q1
  ·exact YP q2 d hd
def amS{f:Nat}{fn:Func}{args:List V}{cells outs:List Cell}{gargs iy:List Value}{N1 N2:List Nat}{w':World}(hG:Given X base U w f args cells gargs iy N1 N2){S:St}{G:GS}{a:Act}{nt:Nat}
  (R:Rel base U (N1++N2) w (impμ iy) (nZ 0 cells) nt w' S G a) {rows:List Row} (h:leave X fn cells.length S=some (rows,outs)):
  ∃gs M1 M2,(results fn a.tmps).run X.P w'=.ok (V9 gs) w'∧Did X.P U w w' (N1++N2) fn.resultTypes.toList cells outs iy rows gs M1 M2:=by
 simp only[leave] at h;split at h
 ·rename_i r m' l' hr;simp only[eX] at h;subst h;replace hr:=aj hr;obtain⟨aQw,m1,l1,h1,hr⟩:=hr;replace hr:=aj hr;obtain⟨cs1,m2,l2,h2,hr⟩:=hr;simp only[run_pure,eX,iL] at hr;obtain⟨⟨rfl,rfl⟩,rfl,rfl⟩:=hr;obtain⟨G1,Nr,gs,t1,r1,e1,q1⟩:=aaQ R.at_.ok R.at_.out R.tm h1;have ho1:G1.out=[]:=t1.out.trans R.at_.out;obtain⟨G2,Nc,t2,q2,kd2⟩:=Xl t1.ok (Ub cells.length) (λr hr=>⟨hr,by rw[ho1];simp⟩) (λr hr=>by rw[ho1] at hr;simp at hr) h2;have hE2:G2.E=Nr++Nc:=by rw[t2.E,t1.E,R.at_.E];rfl
  have hlen:=OA hG.cells;have hk0:kinds (nZ 0 cells) (rH cells.length) cells:=by rw[aaO];exact Xu (λi=>by rw[Nat.zero_add];exact KJ cells i) hG.cells
  obtain⟨b1,b2⟩:=ac8 (qQ R.imp t1.le.mem) hk0 kd2 (YP hG.cells) (by intro i r c hr hc;have hi:i<cells.length:=(G9.1 hc).1;rw[YM hi] at hr;cases hr;rw[KJ];exact hc);have hv:(Gh U w' G2).le (view w' U (· ∈Nc++Nr)):=LM (λ_ x=>x) (λb hb=> .inl (by rw[hE2];simp only[List.mem_append] at hb⊢;exact hb.symm));refine⟨gs,Nc,Nr,YO r1 e1,R.at_.fr.keep, ?_, ?_,b2, ?_, ?_⟩
  ·have:=t2.ok.ndE;rw[hE2] at this;exact(List.perm_append_comm.nodup_iff).1 this
  ·intro b hb;have hbE:b∈G2.E:=by rw[hE2];simp only[List.mem_append] at hb⊢;exact hb.symm
   exact⟨R.at_.fr.fr b (t1.le.ex b (t2.le.ex b (.inl hbE))),(t2.ok.lt b (.inl hbE)).1⟩
  ·rw[b1,<-hlen,YN] at q2;exact GK hv q2
  ·exact MQ (t2.le.view.trans' hv) (λ_ _=>rfl) q1
 ·cases h
def apX{K:iE}(hK:Sound X K){f:FuncId}{fn:Func}{args:List V}{cells:List Cell}{rows:List Row}{outs:List Cell}(hf:X.P.funcs[f]? =some fn)(h:body X K f args cells=some (rows,outs))
  {gargs iy:List Value} {N1 N2:List Nat} (hG:Given X base U w f args cells gargs iy N1 N2):
  Calls X.P f gargs.toArray w λe w'=>∃gs M1 M2,e=.returned (V9 gs)∧Did X.P U w w' (N1++N2) fn.resultTypes.toList cells outs iy rows gs M1 M2:=by
 simp only[body,hf] at h;cases hb:fn.body with
 |none=>simp[hb] at h
 |some c=>
  simp only[hb] at h;cases hn:(Nat.ble cells.length kN && Nat.ble args.length fn.ntmps) with
  |false=>simp[hn] at h
  |true=>
   simp only[hn,Bool.not_true,cu] at h;simp only[zq] at hn;have hn1:=Nat.le_of_ble_eq_true hn.1;have hn2:=Nat.le_of_ble_eq_true hn.2;split at h
   ·rename_i tm m' l' he;obtain⟨G,R⟩:=amR hG he hn2;have hM:∀r c,get r (nZ 0 cells)=some c->Jf r=true:=by intro r c hr;obtain⟨i,e,hi⟩:=Le hr;have hil:i<cells.length:=(G9.1 hi).1;subst e;simp only[Jf,zq];exact⟨Nat.ble_eq_true_of_le (by omega),by rw[Nat.blt_eq];omega⟩
    have hnt:D7 X.P f=fn.ntmps:=by simp[D7,hf]
    have awY:=alf (base:=base) (U:=U) (M0:=N1++N2) (w0:=w) (ν:=impμ iy) ⟨hK,hG.gl,hG.tab⟩ hnt hM;have hfin:∀ex S,leave X fn cells.length S=some (rows,outs)->(ex=Ex.normal∨ex=Ex.ret)->∀w' G' a',Rel base U (N1++N2) w (impμ iy) (nZ 0 cells) fn.ntmps w' S G' a'->(Gh U w G).le (Gh U w' G')->
      bodyPost X.P fn (λe w'=>∃gs M1 M2,e=.returned (V9 gs)∧Did X.P U w w' (N1++N2) fn.resultTypes.toList cells outs iy rows gs M1 M2) (asI ex) a' w':=by
     intro ex S hl hex w' G' a' R' _;obtain⟨gs,M1,M2,hr,hd⟩:=amS hG R' hl;rcases hex with rfl|rfl<;>exact⟨R'.defers,_,hr,gs,M1,M2,rfl,hd⟩
    split at h
    ·rename_i S hd;exact calls_of_wp hf hb (amO awY c R hd (hfin _ _ h (.inl rfl)))
    ·rename_i S hd;exact calls_of_wp hf hb (amO awY c R hd (hfin _ _ h (.inr rfl)))
    ·cases h
   ·cases h
end
def aeg(X:Ctx):Prop:=∀(f:FuncId) (p:List V->List Cell->Option (List Row×List Cell)) (fn:Func) (args:List V) (cells:List Cell) (rows:List Row) (outs:List Cell),X.Tz f=some p->X.P.funcs[f]? =some fn->fn.body.isSome=true->p args cells=some (rows,outs)->
 ∀(base:Nat) (U:Nat->Prop) (w:World) (gargs iy:List Value) (N1 N2:List Nat),Given X base U w f args cells gargs iy N1 N2->
  Calls X.P f gargs.toArray w λe w'=>∃gs M1 M2,e=.returned (V9 gs)∧Did X.P U w w' (N1++N2) fn.resultTypes.toList cells outs iy rows gs M1 M2
def afD{X:Ctx}(hp:aeg X):∀n,Sound X (Q7 X n)
 |0=>by intro f fn args cells rows outs hf hb h;simp[Q7] at h
 |n+1=>by
  intro f fn args cells rows outs hf hb h base U w gargs iy N1 N2 hG;simp only[Q7] at h;cases hx:X.Tz f with
  |some p=>rw[hx] at h;exact hp f p fn args cells rows outs hx hf hb h base U w gargs iy N1 N2 hG
  |none=>rw[hx] at h;exact apX (afD hp n) hf h hG
def apY{X:Ctx}(hp:aeg X):Sound X (call X):=by intro f fn args cells rows outs hf hb h base U w gargs iy N1 N2 hG;obtain⟨n,hn⟩:=Pq h;exact afD hp n f fn args cells rows outs hf hb hn base U w gargs iy N1 N2 hG
end Go.Vm
namespace Go.Vm
open Go
open Go.IntKind (i64)
def KLe(K K':iE):Prop:=∀f args cells r,K f args cells=some r->K' f args cells=some r
def KLe.refl(K:iE):KLe K K:=λ_ _ _ _ h=>h
def KLe.trans{K1 K2 K3:iE}(h:KLe K1 K2)(k:KLe K2 K3):KLe K1 K3:=λf a c r q=>k f a c r (h f a c r q)
def jg{α:Type}(A:iE->Acc α):Prop:=∀K K',KLe K K'->∀m l r,(A K).run m l=some r->(A K').run m l=some r
def jg.const{α:Type}(a:Acc α):jg λ_=>a:=λ_ _ _ _ _ _ h=>h
def jg.bind{α β:Type}{A:iE->Acc α}{B:iE->α->Acc β}(h:jg A)(k:∀x,jg λK=>B K x):jg λK=>A K>>=B K:=by intro K K' hK m l r hr;obtain⟨y,m',l'⟩:=r;obtain⟨x,m1,l1,h1,h2⟩:=aj hr;rw[run_bind,h K K' hK m l _ h1];exact k x K K' hK m1 l1 _ h2
def jg.op{f:Nat}{args:List V}{cells:List Cell}:jg λK=>op' (K f args cells):=by intro K K' hK m l r hr;obtain⟨x,m',l'⟩:=r;obtain⟨h1,rfl,rfl⟩:=eU hr;simp only;rw[hK f args cells x h1];rfl
def KX{α:Type}(Kn:Nat->iE)(K:iE)(A:iE->Acc α):Prop:=∀m l r,(A K).run m l=some r->∃n,(A (Kn n)).run m l=some r
def Chain(Kn:Nat->iE):Prop:=∀n,KLe (Kn n) (Kn (n+1))
def Chain.le{Kn:Nat->iE}(h:Chain Kn){n k:Nat}(hk:n<=k):KLe (Kn n) (Kn k):=by
 induction hk with
 |refl=>exact KLe.refl _
 |step _ ih=>exact ih.trans (h _)
section
variable {Kn:Nat->iE} {K:iE} (hc:Chain Kn)
def KX.const{α:Type}(a:Acc α):KX Kn K λ_=>a:=λ_ _ _ h=>⟨0,h⟩
include hc in
theorem KX.bind{α β:Type}{A:iE->Acc α}{B:iE->α->Acc β}(hu:jg A)(ku:∀x,jg λK=>B K x)(h:KX Kn K A)(k:∀x,KX Kn K λK=>B K x):KX Kn K λK=>A K>>=B K:=by intro m l r hr;obtain⟨y,m',l'⟩:=r;obtain⟨x,m1,l1,h1,h2⟩:=aj hr;obtain⟨n1,q1⟩:=h m l _ h1;obtain⟨n2,q2⟩:=k x m1 l1 _ h2;refine⟨max n1 n2, ?_⟩;rw[run_bind,hu _ _ (hc.le (Nat.le_max_left n1 n2)) m l _ q1];exact ku x _ _ (hc.le (Nat.le_max_right n1 n2)) m1 l1 _ q2
theorem KX.op(hK:∀f args cells r,K f args cells=some r->∃n,Kn n f args cells=some r){f:Nat}{args:List V}{cells:List Cell}:KX Kn K λK=>op' (K f args cells):=by intro m l r hr;obtain⟨x,m',l'⟩:=r;obtain⟨h1,rfl,rfl⟩:=eU hr;obtain⟨n,hn⟩:=hK f args cells x h1;refine⟨n, ?_⟩;simp only;rw[hn];rfl
end
def amT(X:Ctx)(fn dst f:Nat)(args:List V):jg λK=>VJ X K fn dst f args:=by unfold VJ;refine jg.bind (jg.const _) λg=>jg.bind (jg.const _) λ_=>jg.bind (jg.const _) λargs=>jg.bind (jg.const _) λcells=>jg.bind (jg.const _) fun⟨args,KI⟩=>jg.bind (jg.const _) λ_=>jg.bind jg.op λout=>jg.const _
def amU{Kn:Nat->iE}{K:iE}(hc:Chain Kn)(hK:∀f args cells r,K f args cells=some r->∃n,Kn n f args cells=some r)(X:Ctx)(fn dst f:Nat)(args:List V):KX Kn K λK=>VJ X K fn dst f args:=by
 unfold VJ;refine KX.bind hc (jg.const _) ?_ (KX.const _) λg=> ?_
 ·exact λg=>jg.bind (jg.const _) λ_=>jg.bind (jg.const _) λargs=>jg.bind (jg.const _) λcells=>jg.bind (jg.const _) fun⟨args,KI⟩=>jg.bind (jg.const _) λ_=>jg.bind jg.op λout=>jg.const _
 refine KX.bind hc (jg.const _) ?_ (KX.const _) λ_=> ?_
 ·exact λg=>jg.bind (jg.const _) λargs=>jg.bind (jg.const _) λcells=>jg.bind (jg.const _) fun⟨args,KI⟩=>jg.bind (jg.const _) λ_=>jg.bind jg.op λout=>jg.const _
 refine KX.bind hc (jg.const _) ?_ (KX.const _) λargs=> ?_
 ·exact λg=>jg.bind (jg.const _) λcells=>jg.bind (jg.const _) fun⟨args,KI⟩=>jg.bind (jg.const _) λ_=>jg.bind jg.op λout=>jg.const _
 refine KX.bind hc (jg.const _) ?_ (KX.const _) λcells=> ?_
 ·exact λg=>jg.bind (jg.const _) fun⟨args,KI⟩=>jg.bind (jg.const _) λ_=>jg.bind jg.op λout=>jg.const _
 refine KX.bind hc (jg.const _) ?_ (KX.const _) fun⟨args,KI⟩=> ?_
 ·exact fun⟨args,KI⟩=>jg.bind (jg.const _) λ_=>jg.bind jg.op λout=>jg.const _
 refine KX.bind hc (jg.const _) ?_ (KX.const _) λ_=> ?_
 ·exact λ_=>jg.bind jg.op λout=>jg.const _
 exact KX.bind hc jg.op (λout=>jg.const _) (KX.op hK) λout=>KX.const _
def asP(X:Ctx)(fn:Nat)(tm:jv)(o:Oper):jg λK=>vop X K fn tm o:=by
 obtain⟨dst,op,type,pos,after,guard⟩:=o;cases op<;>try exact jg.const _
 case call c=>
  obtain⟨callee,args,tys⟩:=c;cases callee with
  |value f=>
   simp only[vop];split
   ·exact amT X fn _ _ _
   ·exact jg.const _
  |invoke r m=>exact jg.const _
  |builtin b=>cases b<;>exact jg.const _
 case makeFunc f a b=>cases f<;>exact jg.const _
 case slice a b c d e=>cases e<;>exact jg.const _
def asQ{Kn:Nat->iE}{K:iE}(hc:Chain Kn)(hK:∀f args cells r,K f args cells=some r->∃n,Kn n f args cells=some r)(X:Ctx)(fn:Nat)(tm:jv)(o:Oper):KX Kn K λK=>vop X K fn tm o:=by
 obtain⟨dst,op,type,pos,after,guard⟩:=o;cases op<;>try exact KX.const _
 case call c=>
  obtain⟨callee,args,tys⟩:=c;cases callee with
  |value f=>
   simp only[vop];split
   ·exact amU hc hK X fn _ _ _
   ·exact KX.const _
  |invoke r m=>exact KX.const _
  |builtin b=>cases b<;>exact KX.const _
 case makeFunc f a b=>cases f<;>exact KX.const _
 case slice a b c d e=>cases e<;>exact KX.const _
def Up{β:Type}(E:iE->Option β):Prop:=∀K K',KLe K K'->∀r,E K=some r->E K'=some r
def Ct{β:Type}(Kn:Nat->iE)(K:iE)(E:iE->Option β):Prop:=∀r,E K=some r->∃n,E (Kn n)=some r
def Up.const{β:Type}(e:Option β):Up λ_=>e:=λ_ _ _ _ h=>h
def Ct.const{β:Type}{Kn:Nat->iE}{K:iE}(e:Option β):Ct Kn K λ_=>e:=λ_ h=>⟨0,h⟩
def Up.bind{α β:Type}{E:iE->Option α}{F:iE->α->Option β}(h:Up E)(k:∀x,Up λK=>F K x):Up λK=>(E K).bind (F K):=by intro K K' hK r hr;simp only[Option.bind_eq_some_iff] at hr⊢;obtain⟨x,h1,h2⟩:=hr;exact⟨x,h K K' hK x h1,k x K K' hK r h2⟩
def Ct.bind{α β:Type}{Kn:Nat->iE}{K:iE}(hc:Chain Kn){E:iE->Option α}{F:iE->α->Option β}(hu:Up E)(ku:∀x,Up λK=>F K x)(h:Ct Kn K E)(k:∀x,Ct Kn K λK=>F K x):Ct Kn K λK=>(E K).bind (F K):=by intro r hr;simp only[Option.bind_eq_some_iff] at hr⊢;obtain⟨x,h1,h2⟩:=hr;obtain⟨n1,q1⟩:=h x h1;obtain⟨n2,q2⟩:=k x r h2;exact⟨max n1 n2,x,hu _ _ (hc.le (Nat.le_max_left n1 n2)) x q1,ku x _ _ (hc.le (Nat.le_max_right n1 n2)) r q2⟩
def afE(X:Ctx)(fn:Nat)(ops:Array Oper)(i:Nat)(S:St):Up λK=>yh X K fn ops i S:=by
 intro K K' hK r hr;simp only[yh] at hr⊢;cases ho:ops[i]? with
 |none=>simp[ho] at hr
 |some o=>
  simp only[ho] at hr⊢;cases hw:zW ops S.tm o with
  |none=>simp[hw] at hr
  |some bt=>
   obtain⟨b,tm⟩:=bt;cases b with
   |false=>simpa[hw] using hr
   |true=>
    simp only[hw] at hr⊢;cases hv:(vop X K fn tm o).run S.mem .none with
    |none=>simp[hv] at hr
    |some q=>rw[asP X fn tm o K K' hK S.mem .none q hv];rw[hv] at hr;exact hr
def amV{Kn:Nat->iE}{K:iE}(hc:Chain Kn)(hK:∀f args cells r,K f args cells=some r->∃n,Kn n f args cells=some r)(X:Ctx)(fn:Nat)(ops:Array Oper)(i:Nat)(S:St):Ct Kn K λK=>yh X K fn ops i S:=by
 intro r hr;simp only[yh] at hr⊢;cases ho:ops[i]? with
 |none=>simp[ho] at hr
 |some o=>
  simp only[ho] at hr⊢;cases hw:zW ops S.tm o with
  |none=>simp[hw] at hr
  |some bt=>
   obtain⟨b,tm⟩:=bt;cases b with
   |false=>exact⟨0,by simpa[hw] using hr⟩
   |true=>
    simp only[hw] at hr⊢;cases hv:(vop X K fn tm o).run S.mem .none with
    |none=>simp[hv] at hr
    |some q=>obtain⟨n,hn⟩:=asQ hc hK X fn tm o S.mem .none q hv;exact⟨n,by rw[hn];rw[hv] at hr;exact hr⟩
def Xv(X:Ctx)(fn:Nat)(ops:Array Oper)(i:Nat)(is:List Nat)(S:St)(L:List (Nat×Log))(K:iE):
  uz X K fn ops (i::is) S L=(yh X K fn ops i S).bind λr=>uz X K fn ops is r.1 ((i,r.2)::L):=by
 simp only[uz];cases yh X K fn ops i S with
 |none=>rfl
 |some r=>rfl
def GL(X:Ctx)(fn:Nat)(ops:Array Oper):∀(is:List Nat) (S:St) (L:List (Nat×Log)),Up λK=>uz X K fn ops is S L
 |[],S,L=>Up.const _
 |i::is,S,L=>by simp only[Xv];exact Up.bind (afE X fn ops i S) λr=>GL X fn ops is r.1 _
def Tc{Kn:Nat->iE}{K:iE}(hc:Chain Kn)(hK:∀f args cells r,K f args cells=some r->∃n,Kn n f args cells=some r)(X:Ctx)(fn:Nat)(ops:Array Oper):∀(is:List Nat) (S:St) (L:List (Nat×Log)),Ct Kn K λK=>uz X K fn ops is S L
 |[],S,L=>Ct.const _
 |i::is,S,L=>by simp only[Xv];exact Ct.bind hc (afE X fn ops i S) (λr=>GL X fn ops is r.1 _) (amV hc hK X fn ops i S) λr=>Tc hc hK X fn ops is r.1 _
def ac9(X:Ctx)(tm:jv)(o1 o2 o3:Oper):jg λK=>KZ X K tm o1 o2 o3:=by
 unfold KZ;split
 ·refine jg.bind (jg.const _) λ_=>jg.bind (jg.const _) λe=> ?_
  split
  ·refine jg.bind (jg.const _) λc=> ?_
   split
   ·exact jg.bind (jg.const _) λ_=>jg.bind (jg.const _) λrow=>jg.bind (jg.const _) λrs=>jg.bind (jg.const _) λ_=>jg.bind jg.op λout=>jg.const _
   ·exact jg.const _
  ·exact jg.const _
 ·exact jg.const _
def alj{Kn:Nat->iE}{K:iE}(hc:Chain Kn)(hK:∀f args cells r,K f args cells=some r->∃n,Kn n f args cells=some r)(X:Ctx)(tm:jv)(o1 o2 o3:Oper):KX Kn K λK=>KZ X K tm o1 o2 o3:=by
 unfold KZ;split
 ·refine KX.bind hc (jg.const _) ?_ (KX.const _) λ_=>KX.bind hc (jg.const _) ?_ (KX.const _) λe=> ?_
  ·intro _;refine jg.bind (jg.const _) λe=> ?_
   split
   ·refine jg.bind (jg.const _) λc=> ?_
    split
    ·exact jg.bind (jg.const _) λ_=>jg.bind (jg.const _) λrow=>jg.bind (jg.const _) λrs=>jg.bind (jg.const _) λ_=>jg.bind jg.op λout=>jg.const _
    ·exact jg.const _
   ·exact jg.const _
  ·intro e;split
   ·refine jg.bind (jg.const _) λc=> ?_
    split
    ·exact jg.bind (jg.const _) λ_=>jg.bind (jg.const _) λrow=>jg.bind (jg.const _) λrs=>jg.bind (jg.const _) λ_=>jg.bind jg.op λout=>jg.const _
    ·exact jg.const _
   ·exact jg.const _
  ·split
   ·refine KX.bind hc (jg.const _) ?_ (KX.const _) λc=> ?_
    ·intro c;split
     ·exact jg.bind (jg.const _) λ_=>jg.bind (jg.const _) λrow=>jg.bind (jg.const _) λrs=>jg.bind (jg.const _) λ_=>jg.bind jg.op λout=>jg.const _
     ·exact jg.const _
    ·split
     ·refine KX.bind hc (jg.const _) ?_ (KX.const _) λ_=>KX.bind hc (jg.const _) ?_ (KX.const _) λrow=>KX.bind hc (jg.const _) ?_ (KX.const _) λrs=>KX.bind hc (jg.const _) ?_ (KX.const _) λ_=>KX.bind hc jg.op (λout=>jg.const _) (KX.op hK) λout=>KX.const _
      ·exact λ_=>jg.bind (jg.const _) λrow=>jg.bind (jg.const _) λrs=>jg.bind (jg.const _) λ_=>jg.bind jg.op λout=>jg.const _
      ·exact λrow=>jg.bind (jg.const _) λrs=>jg.bind (jg.const _) λ_=>jg.bind jg.op λout=>jg.const _
      ·exact λrs=>jg.bind (jg.const _) λ_=>jg.bind jg.op λout=>jg.const _
      ·exact λ_=>jg.bind jg.op λout=>jg.const _
     ·exact KX.const _
   ·exact KX.const _
 ·exact KX.const _
def UU(X:Ctx)(fn:Nat)(ops:Array Oper)(p:Nat)(S:St)(K:iE):D8 X K fn ops p S=
  match ops[p]?,ops[p+1]?,ops[p+2]? with
  |some o1,some o2,some o3=>((KZ X K S.tm o1 o2 o3).run S.mem .none).bind λr=>bif Nat.blt r.1.1 (D7 X.P fn) &&(Nat.blt r.1.2.1 (D7 X.P fn) && Jc (D7 X.P fn) o3.dst) then some ⟨Ur o3.dst r.1.2.2.2 (put r.1.2.1 r.1.2.2.1 (put r.1.1 .undef S.tm)),r.2.1⟩ else none
  |_,_,_=>none:=by
 simp only[D8];cases ops[p]? with
 |none=>rfl
 |some o1=>cases ops[p+1]? with
  |none=>rfl
  |some o2=>cases ops[p+2]? with
   |none=>rfl
   |some o3=>
    simp only;cases(KZ X K S.tm o1 o2 o3).run S.mem .none with
    |none=>rfl
    |some r=>rfl
def UW(X:Ctx)(fn:Nat)(ops:Array Oper)(p:Nat)(S:St):Up λK=>D8 X K fn ops p S:=by
 simp only[UU];cases ops[p]? with
 |none=>exact Up.const _
 |some o1=>cases ops[p+1]? with
  |none=>exact Up.const _
  |some o2=>cases ops[p+2]? with
   |none=>exact Up.const _
   |some o3=>exact Up.bind (λK K' hK r hr=>ac9 X S.tm o1 o2 o3 K K' hK S.mem .none r hr) λr=>Up.const _
def ai4{Kn:Nat->iE}{K:iE}(hc:Chain Kn)(hK:∀f args cells r,K f args cells=some r->∃n,Kn n f args cells=some r)(X:Ctx)(fn:Nat)(ops:Array Oper)(p:Nat)(S:St):Ct Kn K λK=>D8 X K fn ops p S:=by
 simp only[UU];cases ops[p]? with
 |none=>exact Ct.const _
 |some o1=>cases ops[p+1]? with
  |none=>exact Ct.const _
  |some o2=>cases ops[p+2]? with
   |none=>exact Ct.const _
   |some o3=>exact Ct.bind hc (λK K' hK r hr=>ac9 X S.tm o1 o2 o3 K K' hK S.mem .none r hr) (λr=>Up.const _) (λr hr=>alj hc hK X S.tm o1 o2 o3 S.mem .none r hr) λr=>Ct.const _
def Qi(X:Ctx)(fn id:Nat)(ops:Array Oper)(draw:Bool)(S:St)(K:iE):yJ X K fn id ops draw S=
  match X.G8.fuse fn id with
  |0=>uz X K fn ops (List.range ops.size) S []
  |p+1=>match draw with
   |true=>none
   |false=>(uz X K fn ops (List.range p) S []).bind λr=>(D8 X K fn ops p r.1).bind λS2=>uz X K fn ops ((List.range ops.size).drop (p+3)) S2 []:=by
 simp only[yJ];cases X.G8.fuse fn id with
 |zero=>rfl
 |succ p=>
  cases draw with
  |true=>rfl
  |false=>
   simp only;cases uz X K fn ops (List.range p) S [] with
   |none=>rfl
   |some r=>simp only[Option.bind_some];cases D8 X K fn ops p r.1<;>rfl
def Wj(X:Ctx)(fn id:Nat)(ops:Array Oper)(draw:Bool)(S:St):Up λK=>yJ X K fn id ops draw S:=by
 simp only[Qi];cases X.G8.fuse fn id with
 |zero=>exact GL X fn ops _ S _
 |succ p=>
  cases draw with
  |true=>exact Up.const _
  |false=>exact Up.bind (GL X fn ops _ S _) λr=>Up.bind (UW X fn ops p r.1) λS2=>GL X fn ops _ S2 _
def aeh{Kn:Nat->iE}{K:iE}(hc:Chain Kn)(hK:∀f args cells r,K f args cells=some r->∃n,Kn n f args cells=some r)(X:Ctx)(fn id:Nat)(ops:Array Oper)(draw:Bool)(S:St):Ct Kn K λK=>yJ X K fn id ops draw S:=by
 simp only[Qi];cases X.G8.fuse fn id with
 |zero=>exact Tc hc hK X fn ops _ S _
 |succ p=>
  cases draw with
  |true=>exact Ct.const _
  |false=>exact Ct.bind hc (GL X fn ops _ S _) (λr=>Up.bind (UW X fn ops p r.1) λS2=>GL X fn ops _ S2 _) (Tc hc hK X fn ops _ S _) λr=>Ct.bind hc (UW X fn ops p r.1) (λS2=>GL X fn ops _ S2 _) (ai4 hc hK X fn ops p r.1) λS2=>Tc hc hK X fn ops _ S2 _
def Xw(X:Ctx)(fn id:Nat)(ops:Array Oper)(draw:Bool)(S:St)(K:iE):
  region X K fn id ops draw S=(yJ X K fn id ops draw S).bind λr=>bif(match draw with|false=>true|true=>X.P.follows .mixedOrders &&(backOk ops && QZ ops (Region.before ops) r.2)) then prune (X.G8.keep fn id) r.1 else none:=by
 simp only[region];cases yJ X K fn id ops draw S with
 |none=>rfl
 |some r=>rfl
def ada(X:Ctx)(fn id:Nat)(ops:Array Oper)(draw:Bool)(S:St):Up λK=>region X K fn id ops draw S:=by simp only[Xw];exact Up.bind (Wj X fn id ops draw S) λr=>Up.const _
def alk{Kn:Nat->iE}{K:iE}(hc:Chain Kn)(hK:∀f args cells r,K f args cells=some r->∃n,Kn n f args cells=some r)(X:Ctx)(fn id:Nat)(ops:Array Oper)(draw:Bool)(S:St):Ct Kn K λK=>region X K fn id ops draw S:=by simp only[Xw];exact Ct.bind hc (Wj X fn id ops draw S) (λr=>Up.const _) (aeh hc hK X fn id ops draw S) λr=>Ct.const _
def Xx{b:St->Option (Ex×St)}:∀{n k:Nat} {S:St} {r:Ex×St},iter b n S=some r->n<=k->iter b k S=some r
 |0,_,_,_,h,_=>by simp[iter] at h
 |n+1,0,_,_,_,hk=>by omega
 |n+1,k+1,S,r,h,hk=>by
  simp only[iter] at h⊢;cases hb:b S with
  |none=>simp[hb] at h
  |some q=>
   obtain⟨e,S'⟩:=q;rw[hb] at h;cases e with
   |normal=>exact Xx h (by omega)
   |exit id=>exact h
   |ret=>exact h
def Jl{α:Type}{f:Nat->Option α}{x:α}{n:Nat}(hn:f n=some x)(h:∀m y,f m=some y->y=x):lim f=some x:=by unfold lim;rw[dif_pos ⟨x,n,hn⟩];congr 1;obtain⟨m,hm⟩:=Classical.choose_spec (⟨x,n,hn⟩:∃a n,f n=some a);exact h m _ hm
def Wn{b:St->Option (Ex×St)}{S:St}{r:Ex×St}{n:Nat}(h:iter b n S=some r):NY b S=some r:=by
 refine Jl h λm y hy=> ?_
 have h1:=Xx h (Nat.le_max_left n m);rw[Xx hy (Nat.le_max_right n m)] at h1;exact Option.some.inj h1
def UY{b:St->Option (Ex×St)}{S:St}{r:Ex×St}(h:NY b S=some r):∃n,iter b n S=some r:=Pq h
def iter_eq{b:St->Option (Ex×St)}{n:Nat}{S:St}:iter b (n+1) S=(b S).bind λq=>match q with|(.normal,S')=>iter b n S'|(e,S')=>some (e,S'):=by
 simp only[iter];cases b S with
 |none=>rfl
 |some q=>obtain⟨e,S'⟩:=q;cases e<;>rfl
def aei{B:iE->St->Option (Ex×St)}(h:∀S,Up λK=>B K S):∀(n:Nat) (S:St),Up λK=>iter (B K) n S
 |0,S=>Up.const _
 |n+1,S=>by
  simp only[iter_eq];refine Up.bind (h S) λq=> ?_
  obtain⟨e,S'⟩:=q;cases e with
  |normal=>exact aei h n S'
  |exit id=>exact Up.const _
  |ret=>exact Up.const _
def akb{Kn:Nat->iE}{K:iE}(hc:Chain Kn){B:iE->St->Option (Ex×St)}(hu:∀S,Up λK=>B K S)(h:∀S,Ct Kn K λK=>B K S):∀(n:Nat) (S:St),Ct Kn K λK=>iter (B K) n S
 |0,S=>Ct.const _
 |n+1,S=>by
  simp only[iter_eq];refine Ct.bind hc (hu S) (λq=> ?_) (h S) λq=> ?_
  all_goals
   obtain⟨e,S'⟩:=q;cases e
  ·exact aei hu n S'
  ·exact Up.const _
  ·exact Up.const _
  ·exact akb hc hu h n S'
  ·exact Ct.const _
  ·exact Ct.const _
def amW{B:iE->St->Option (Ex×St)}(h:∀S,Up λK=>B K S)(S:St):Up λK=>NY (B K) S:=by intro K K' hK r hr;obtain⟨n,hn⟩:=UY hr;exact Wn (aei h n S K K' hK r hn)
def amX{Kn:Nat->iE}{K:iE}(hc:Chain Kn){B:iE->St->Option (Ex×St)}(hu:∀S,Up λK=>B K S)(h:∀S,Ct Kn K λK=>B K S)(S:St):Ct Kn K λK=>NY (B K) S:=by intro r hr;obtain⟨n,hn⟩:=UY hr;obtain⟨k,hk⟩:=akb hc hu h n S r hn;exact⟨k,Wn hk⟩
def aej(X:Ctx)(fn:Nat)(c:Code):∀S,Up λK=>den X K fn c S:=by
 induction c with
 |region id ops draw=>
  intro S K K' hK r hr;simp only[den] at hr⊢;cases h:region X K fn id ops draw S with
  |none=>simp[h] at hr
  |some S'=>have he0:=ada X fn id ops draw S K K' hK S' h;dsimp only at he0;rw[he0];rw[h] at hr;exact hr
 |seq a b iha ihb=>
  intro S K K' hK r hr;simp only[den] at hr⊢;cases h:den X K fn a S with
  |none=>simp[h] at hr
  |some q=>
   have he0:=iha S K K' hK q h;dsimp only at he0;rw[he0];rw[h] at hr;obtain⟨e,S'⟩:=q;cases e with
   |normal=>exact ihb S' K K' hK r hr
   |exit id=>exact hr
   |ret=>exact hr
 |cond c a b iha ihb=>
  intro S K K' hK r hr;simp only[den] at hr⊢;cases h:TR X.P S.tm c with
  |none=>simp[h] at hr
  |some q=>
   rw[h] at hr;cases q with
   |true=>exact iha S K K' hK r hr
   |false=>exact ihb S K K' hK r hr
 |block id c ih=>
  intro S K K' hK r hr;simp only[den] at hr⊢;cases h:den X K fn c S with
  |none=>simp[h] at hr
  |some q=>have he0:=ih S K K' hK q h;dsimp only at he0;rw[he0];rw[h] at hr;exact hr
 |loop c ih=>intro S;exact amW ih S
 |_=>intro S;exact Up.const _
def asR{Kn:Nat->iE}{K:iE}(hc:Chain Kn)(hK:∀f args cells r,K f args cells=some r->∃n,Kn n f args cells=some r)(X:Ctx)(fn:Nat)(c:Code):∀S,Ct Kn K λK=>den X K fn c S:=by
 induction c with
 |region id ops draw=>
  intro S r hr;simp only[den] at hr⊢;cases h:region X K fn id ops draw S with
  |none=>simp[h] at hr
  |some S'=>obtain⟨n,hn⟩:=alk hc hK X fn id ops draw S S' h;dsimp only at hn;exact⟨n,by rw[hn];rw[h] at hr;exact hr⟩
 |seq a b iha ihb=>
  intro S r hr;simp only[den] at hr⊢;cases h:den X K fn a S with
  |none=>simp[h] at hr
  |some q=>
   obtain⟨n,hn⟩:=iha S q h;dsimp only at hn;rw[h] at hr;obtain⟨e,S'⟩:=q;cases e with
   |normal=>obtain⟨k,hk⟩:=ihb S' r hr;dsimp only at hk;refine⟨max n k, ?_⟩;have he0:=aej X fn a S _ _ (hc.le (Nat.le_max_left n k)) _ hn;dsimp only at he0;rw[he0];exact aej X fn b S' _ _ (hc.le (Nat.le_max_right n k)) _ hk
   |exit id=>exact⟨n,by rw[hn];exact hr⟩
   |ret=>exact⟨n,by rw[hn];exact hr⟩
 |cond c a b iha ihb=>
  intro S r hr;simp only[den] at hr⊢;cases h:TR X.P S.tm c with
  |none=>simp[h] at hr
  |some q=>
   rw[h] at hr;cases q with
   |true=>exact iha S r hr
   |false=>exact ihb S r hr
 |block id c ih=>
  intro S r hr;simp only[den] at hr⊢;cases h:den X K fn c S with
  |none=>simp[h] at hr
  |some q=>obtain⟨n,hn⟩:=ih S q h;dsimp only at hn;exact⟨n,by rw[hn];rw[h] at hr;exact hr⟩
 |loop c ih=>intro S;exact amX hc (aej X fn c) ih S
 |_=>intro S;exact Ct.const _
def akc(X:Ctx)(f:Nat)(args:List V)(cells:List Cell):Up λK=>body X K f args cells:=by
 intro K K' hK r hr;simp only[body] at hr⊢;cases hg:X.P.funcs[f]? with
 |none=>simp[hg] at hr
 |some g=>
  simp only[hg] at hr⊢;cases hcd:g.body with
  |none=>simp[hcd] at hr
  |some c=>
   simp only[hcd] at hr⊢;revert hr;generalize (!(Nat.ble cells.length kN && Nat.ble args.length g.ntmps))=q;cases q with
   |true=>exact id
   |false=>
    simp only[cu];intro hr;split at hr
    ·rename_i tm m l he;cases h:den X K f c ⟨tm,m⟩ with
     |none=>simp[h] at hr
     |some q=>have he0:=aej X f c ⟨tm,m⟩ K K' hK q h;dsimp only at he0;rw[he0];rw[h] at hr;exact hr
    ·cases hr
def apZ{Kn:Nat->iE}{K:iE}(hc:Chain Kn)(hK:∀f args cells r,K f args cells=some r->∃n,Kn n f args cells=some r)(X:Ctx)(f:Nat)(args:List V)(cells:List Cell):Ct Kn K λK=>body X K f args cells:=by
 intro r hr;simp only[body] at hr⊢;cases hg:X.P.funcs[f]? with
 |none=>simp[hg] at hr
 |some g=>
  simp only[hg] at hr⊢;cases hcd:g.body with
  |none=>simp[hcd] at hr
  |some c=>
   simp only[hcd] at hr⊢;revert hr;generalize (!(Nat.ble cells.length kN && Nat.ble args.length g.ntmps))=q;cases q with
   |true=>exact λh=>⟨0,h⟩
   |false=>
    simp only[cu];intro hr;split at hr
    ·rename_i tm m l he;cases h:den X K f c ⟨tm,m⟩ with
     |none=>simp[h] at hr
     |some q=>obtain⟨n,hn⟩:=asR hc hK X f c ⟨tm,m⟩ q h;dsimp only at hn;exact⟨n,by rw[hn];rw[h] at hr;exact hr⟩
    ·cases hr
def Ob(X:Ctx):Chain (Q7 X)
 |0=>λf args cells r h=>by simp[Q7] at h
 |n+1=>λf args cells r h=>by
  simp only[Q7] at h⊢;cases hp:X.Tz f with
  |some p=>simpa[hp] using h
  |none=>simp only[hp] at h⊢;exact akc X f args cells _ _ (Ob X n) r h
def adb{X:Ctx}{n:Nat}{f:Nat}{args:List V}{cells:List Cell}{r:List Row×List Cell}(h:Q7 X n f args cells=some r):call X f args cells=some r:=by
 refine Jl h λm y hy=> ?_
 have h1:=(Ob X).le (Nat.le_max_left n m) f args cells r h;rw[(Ob X).le (Nat.le_max_right n m) f args cells y hy] at h1;exact Option.some.inj h1
def ap0{X:Ctx}{K:iE}(hK:KLe K (call X)){f:Nat}{args:List V}{cells:List Cell}{r:List Row×List Cell}(hp:X.Tz f=none)(h:body X K f args cells=some r):call X f args cells=some r:=by have h1:=akc X f args cells K (call X) hK r h;obtain⟨n,hn⟩:=apZ (Ob X) (λf a c r hr=>Pq hr) X f args cells r h1;dsimp only at hn;refine adb (n:=n+1) ?_;simp only[Q7,hp];exact hn
def aek{X:Ctx}{f:Nat}{p:List V->List Cell->Option (List Row×List Cell)}{args:List V}{cells:List Cell}{r:List Row×List Cell}(hp:X.Tz f=some p)(h:p args cells=some r):call X f args cells=some r:=
 adb (n:=1) (by simp only[Q7,hp];exact h)
end Go.Vm
namespace Go.Vm
open Go
open Go.IntKind (i64)
abbrev Loops:=Nat->St->Option (Ex×St)
def lid:Code->Nat
 | .region id _ _=>id
 | .seq a b=>match lid a with
  |0=>lid b
  |n=>n
 | .block _ c=>lid c
 | .loop c=>lid c
 | .cond _ a b=>match lid a with
  |0=>lid b
  |n=>n
 |_=>0
def loops:Code->List Code
 | .seq a b=>loops a++loops b
 | .cond _ a b=>loops a++loops b
 | .block _ c=>loops c
 | .loop c=>[c]
 |_=>[]
def EU(X:Ctx)(K:iE)(L:Loops)(fn:Nat):Code->St->Option (Ex×St)
 | .skip,S=>some (.normal,S)
 | .region id ops draw,S=>match region X K fn id ops draw S with
  |some S'=>some (.normal,S')
  |none=>none
 | .seq a b,S=>match EU X K L fn a S with
  |some (.normal,S')=>EU X K L fn b S'
  |r=>r
 | .cond c a b,S=>match TR X.P S.tm c with
  |some true=>EU X K L fn a S
  |some false=>EU X K L fn b S
  |none=>none
 | .block id c,S=>match EU X K L fn c S with
  |some (.exit j,S')=>bif Nat.beq j id then some (.normal,S') else some (.exit j,S')
  |r=>r
 | .loop c,S=>L (lid c) S
 | .exit id,S=>some (.exit id,S)
 | .ret,S=>some (.ret,S)
 |_,_=>none
def codeOf(P:Program)(f:Nat):Code:=match P.funcs[f]? with
 |some g=>match g.body with
  |some c=>c
  |none=> .skip
 |none=> .skip
def YQ(X:Ctx)(K:iE)(L:Loops)(f:Nat)(args:List V)(cells:List Cell):Option (List Row×List Cell):=
 match X.P.funcs[f]? with
 |some g=>match g.body with
  |some c=>bif !(Nat.ble cells.length kN && Nat.ble args.length g.ntmps) then none else match(entry X f g args cells).run (nZ 0 cells) .none with
   |some (tm,m,_)=>(match EU X K L f c ⟨tm,m⟩ with
    |some (.normal,S)=>leave X g cells.length S
    |some (.ret,S)=>leave X g cells.length S
    |_=>none)
   |none=>none
  |none=>none
 |none=>none
def LOk(X:Ctx)(K:iE)(fn:Nat)(L:Loops)(cs:List Code):Prop:=∀c,c∈cs->∀S r,L (lid c) S=some r->NY (den X K fn c) S=some r
def LOk.nil{X:Ctx}{K:iE}{fn:Nat}{L:Loops}:LOk X K fn L []:=λ_ h=>by simp at h
def LOk.cons{X:Ctx}{K:iE}{fn:Nat}{L:Loops}{c:Code}{cs:List Code}(h:∀S r,L (lid c) S=some r->NY (den X K fn c) S=some r)(k:LOk X K fn L cs):LOk X K fn L (c::cs):=by
 intro d hd;rcases List.mem_cons.1 hd with rfl|hd
 ·exact h
 ·exact k d hd
def amY{X:Ctx}{K:iE}{L:Loops}{fn:Nat}:∀{c:Code} {S:St} {r:Ex×St},LOk X K fn L (loops c)->EU X K L fn c S=some r->den X K fn c S=some r:=by
 intro c;induction c with
 |seq a b iha ihb=>
  intro S r hL h;have hLa:LOk X K fn L (loops a):=λd hd=>hL d (by simp[loops,hd])
  have hLb:LOk X K fn L (loops b):=λd hd=>hL d (by simp[loops,hd])
  simp only[EU] at h;simp only[den];cases ha:EU X K L fn a S with
  |none=>simp[ha] at h
  |some q=>
   rw[iha hLa ha];rw[ha] at h;obtain⟨e,S'⟩:=q;cases e with
   |normal=>exact ihb hLb h
   |exit id=>exact h
   |ret=>exact h
 |cond c a b iha ihb=>
  intro S r hL h;have hLa:LOk X K fn L (loops a):=λd hd=>hL d (by simp[loops,hd])
  have hLb:LOk X K fn L (loops b):=λd hd=>hL d (by simp[loops,hd])
  simp only[EU] at h;simp only[den];cases hc:TR X.P S.tm c with
  |none=>simp[hc] at h
  |some q=>
   rw[hc] at h;cases q with
   |true=>exact iha hLa h
   |false=>exact ihb hLb h
 |block id c ih=>
  intro S r hL h;simp only[EU] at h;simp only[den];cases ha:EU X K L fn c S with
  |none=>simp[ha] at h
  |some q=>rw[ih hL ha];rw[ha] at h;exact h
 |loop c ih=>intro S r hL h;exact hL c (by simp[loops]) S r h
 |region id ops draw=>intro S r hL h;exact h
 |skip=>intro S r hL h;exact h
 |exit id=>intro S r hL h;exact h
 |ret=>intro S r hL h;exact h
 |_=>intro S r hL h;simp[EU] at h
def akd(X:Ctx)(L:Loops)(fn:Nat)(c:Code):∀S,Up λK=>EU X K L fn c S:=by
 induction c with
 |region id ops draw=>
  intro S K K' hK r hr;simp only[EU] at hr⊢;cases h:region X K fn id ops draw S with
  |none=>simp[h] at hr
  |some S'=>have he0:=ada X fn id ops draw S K K' hK S' h;dsimp only at he0;rw[he0];rw[h] at hr;exact hr
 |seq a b iha ihb=>
  intro S K K' hK r hr;simp only[EU] at hr⊢;cases h:EU X K L fn a S with
  |none=>simp[h] at hr
  |some q=>
   have he0:=iha S K K' hK q h;dsimp only at he0;rw[he0];rw[h] at hr;obtain⟨e,S'⟩:=q;cases e with
   |normal=>exact ihb S' K K' hK r hr
   |exit id=>exact hr
   |ret=>exact hr
 |cond c a b iha ihb=>
  intro S K K' hK r hr;simp only[EU] at hr⊢;cases h:TR X.P S.tm c with
  |none=>simp[h] at hr
  |some q=>
   rw[h] at hr;cases q with
   |true=>exact iha S K K' hK r hr
   |false=>exact ihb S K K' hK r hr
 |block id c ih=>
  intro S K K' hK r hr;simp only[EU] at hr⊢;cases h:EU X K L fn c S with
  |none=>simp[h] at hr
  |some q=>have he0:=ih S K K' hK q h;dsimp only at he0;rw[he0];rw[h] at hr;exact hr
 |_=>intro S;exact Up.const _
def amZ(X:Ctx)(L:Loops)(f:Nat)(args:List V)(cells:List Cell):Up λK=>YQ X K L f args cells:=by
 intro K K' hK r hr;simp only[YQ] at hr⊢;cases hg:X.P.funcs[f]? with
 |none=>simp[hg] at hr
 |some g=>
  simp only[hg] at hr⊢;cases hcd:g.body with
  |none=>simp[hcd] at hr
  |some c=>
   simp only[hcd] at hr⊢;revert hr;generalize (!(Nat.ble cells.length kN && Nat.ble args.length g.ntmps))=q;cases q with
   |true=>exact id
   |false=>
    simp only[cu];intro hr;split at hr
    ·rename_i tm m l he;cases h:EU X K L f c ⟨tm,m⟩ with
     |none=>simp[h] at hr
     |some q=>have he0:=akd X L f c ⟨tm,m⟩ K K' hK q h;dsimp only at he0;rw[he0];rw[h] at hr;exact hr
    ·cases hr
def ap1{X:Ctx}{K:iE}{L:Loops}{f:Nat}{args:List V}{cells:List Cell}{r:List Row×List Cell}(hL:LOk X K f L (loops (codeOf X.P f)))(h:YQ X K L f args cells=some r):body X K f args cells=some r:=by
 simp only[YQ] at h;simp only[body];cases hg:X.P.funcs[f]? with
 |none=>simp[hg] at h
 |some g=>
  simp only[hg] at h⊢;cases hcd:g.body with
  |none=>simp[hcd] at h
  |some c=>
   simp only[hcd] at h⊢;have hcode:codeOf X.P f=c:=by simp[codeOf,hg,hcd]
   rw[hcode] at hL;revert h;generalize (!(Nat.ble cells.length kN && Nat.ble args.length g.ntmps))=q;cases q with
   |true=>exact id
   |false=>
    simp only[cu];intro h;split at h
    ·rename_i tm m l he;simp only[he];cases hd:EU X K L f c ⟨tm,m⟩ with
     |none=>simp[hd] at h
     |some q=>rw[amY hL hd];rw[hd] at h;exact h
    ·cases h
def am0{X:Ctx}{K:iE}{L:Loops}{f:Nat}{args:List V}{cells:List Cell}{r:List Row×List Cell}(hp:X.Tz f=none)(hK:KLe K (call X))(hL:LOk X (call X) f L (loops (codeOf X.P f)))
  (h:YQ X K L f args cells=some r):call X f args cells=some r:=by
 exact ap0 (KLe.refl _) hp (ap1 hL (amZ X L f args cells K (call X) hK r h))
def ap2{X:Ctx}{K:iE}{L:Loops}{fn:Nat}{c:Code}{S:St}{r:Ex×St}(hK:KLe K (call X))(hL:LOk X (call X) fn L (loops c))(h:EU X K L fn c S=some r):den X (call X) fn c S=some r:=
 amY hL (akd X L fn c S K (call X) hK r h)
end Go.Vm
namespace Go.Vm
open Go
open Go.IntKind (i64)
structure Res(α:Type) where
 β:Type
 o:Option β
 enc:β->α
def Res.val{α:Type}(r:Res α):Option α:=r.o.map r.enc
abbrev I9:=Nat->List V->List Cell->Res (List Row×List Cell)
inductive Alt(α:Type):Type 1 where
 |leaf (β:Type) (enc:β->α)
 |sum (a b:Alt α)
def Alt.T{α:Type}:Alt α->Type
 | .leaf β _=>β
 | .sum a b=>a.T⊕b.T
def Alt.enc{α:Type}:(a:Alt α)->a.T->α
 | .leaf _ enc,x=>enc x
 | .sum a _,.inl x=>a.enc x
 | .sum _ b,.inr x=>b.enc x
structure UZ(α:Type) where
 alt:Alt α
 o:Option alt.T
def UZ.val{α:Type}(r:UZ α):Option α:=r.o.map r.alt.enc
def UZ.none{α:Type}:UZ α:=⟨.leaf Empty Empty.elim,.none⟩
abbrev Oc:=Nat->St->UZ (Ex×St)
def I9.to(K:I9):iE:=λf a c=>(K f a c).val
def Oc.to(L:Oc):Loops:=λn S=>(L n S).val
def Res.none{α:Type}:Res α:=⟨Empty,.none,Empty.elim⟩
section
variable {R:Type}
def qR{α β γ:Type}(r:α⊕β)(f:α->Option γ)(g:β->Option γ):Option γ:=match r with
 | .inl x=>f x
 | .inr y=>g y
def Alt.go{α:Type}:(a:Alt α)->a.T->(α->Option R)->Option R
 | .leaf _ enc=>λx k=>k (enc x)
 | .sum a b=>λx k=>qR x (λx=>a.go x k) (λy=>b.go y k)
def Alt.go_eq{α:Type}(k:α->Option R):∀(a:Alt α) (x:a.T),a.go x k=k (a.enc x)
 | .leaf _ enc,x=>rfl
 | .sum a _,.inl x=>Alt.go_eq k a x
 | .sum _ b,.inr x=>Alt.go_eq k b x
def UZ.aaR{α:Type}{r:UZ α}{x:α}(h:r.val=some x):∃y,r.o=some y∧r.alt.enc y=x:=by simpa[UZ.val,Option.map_eq_some_iff] using h
def Res.aaR{α:Type}{r:Res α}{x:α}(h:r.val=some x):∃y,r.o=some y∧r.enc y=x:=by simpa[Res.val,Option.map_eq_some_iff] using h
def Acc.ael{α:Type}:Acc α->Mem->Log->(α->Mem->Log->Option R)->Option R
 | .ret a,m,l,k=>k a m l
 | .fail,_,_,_=>none
 | .get i c,m,l,k=>(c (Vm.get i m)).ael m (l.rd i) k
 | .set i x c,m,l,k=>c.ael (put i x m) (l.wr i) k
 | .opt o c,m,l,k=>match o with|some b=>(c b).ael m l k|none=>none
 | .guard b c,m,l,k=>match b with|true=>c.ael m l k|false=>none
def ai5(X:Ctx)(K:I9)(fn dst f:Nat)(args:List V):Acc V:=do
 let g<-op' X.P.funcs[f]?
 ck (g.body.isSome && !(g.name == "runtime.NumGoroutine"))
 let imp:=LK X.G8 f 0 [] args
 let args<-OW X.G8 f 0 args
 let cells<-QW X.G8 imp imp
 let(args,KI)<-OY X.G8 imp f 0 args
 ck (KI.all λr=> !(mem? r imp))
 let b<-op' (K f args cells).o
 let out:=(K f args cells).enc b
 ck (Nat.beq out.1.length g.resultTypes.size)
 let need:= !(KI.isEmpty) &&(SL X.P (X.G8.Zc fn dst) 0 g.resultTypes.toList && imp.isEmpty)
 ck (bif need then out.1.all eY else true)
 freeze (bif need then[] else KI)
 Yk X dst out.2 0 imp
 let vs<-Ux X (X.G8.Zc fn dst) dst out.1 0 g.resultTypes.toList
 match vs with
 |[v]=>pure v
 |vs=>pure (.yu vs)
def asT(X:Ctx)(K:I9)(fn:Nat)(tm:jv)(o:Oper):Acc V:=
 match o.op with
 | .call {callee:=.value f,args,argTypes}=>match ev X.P tm 0 f with
  | .clo g first caps=>ai5 X K fn (o.dst.getD 0) g (first++qP X.P tm args.toList argTypes.toList++caps)
  |_=> .fail
 |_=>vop X (λ_ _ _=>none) fn tm o
def am1(x:D)(k:D->Option R):Option R:=match x with
 | .int j n=>k (.int j n)
 | .bool b=>k (.bool b)
 | .str s=>k (.str s)
 | .MN=>k .MN
 | .sl o s rows=>match o with
  |true=>k (.sl true s rows)
  |false=>k (.sl false s rows)
mutual
def Dq(v:V)(k:V->Option R):Option R:=match v with
 | .d x=>am1 x λx=>k (.d x)
 | .nil s=>k (.nil s)
 | .own r v=>k (.own r v)
 | .ptr r o=>k (.ptr r o)
 | .rZ r v i o=>k (.rZ r v i o)
 | .pU row o=>k (.pU row o)
 | .yt v=>Dq v λv=>k (.yt v)
 | .clo f a b=>LW a λa=>LW b λb=>k (.clo f a b)
 | .agg cs=>LW cs λcs=>k (.agg cs)
 | .yu cs=>LW cs λcs=>k (.yu cs)
 | .undef=>k .undef
def LW(vs:List V)(k:List V->Option R):Option R:=match vs with
 |[]=>k []
 |v::vs=>Dq v λv=>LW vs λvs=>k (v::vs)
end
def Td(tm:jv)(k:jv->Option R):Option R:=match tm with
 |[]=>k []
 |(t,v)::tm=>Dq v λv=>Td tm λtm=>k ((t,v)::tm)
def Tf(c:Cell)(k:Cell->Option R):Option R:=match c with
 | .box t cs=>LW cs λcs=>k (.box t cs)
 | .arr fz fl ver s rows=>k (.arr fz fl ver s rows)
 | .dead=>k .dead
 | .D5 ver s rows=>k (.D5 ver s rows)
 | .mF t v=>Dq v λv=>k (.mF t v)
def MX(m:Mem)(k:Mem->Option R):Option R:=match m with
 |[]=>k []
 |(r,c)::m=>Tf c λc=>MX m λm=>k ((r,c)::m)
def alm(L:List (Nat×Nat))(r:Nat)(k:Nat->Option R):Option R:=match get r L with
 |some j=>k j
 |none=>k r
mutual
def LC(L:List (Nat×Nat))(v:V)(k:V->Option R):Option R:=match v with
 | .d x=>k (.d x)
 | .nil s=>k (.nil s)
 | .own r v=>alm L r λr=>k (.own r v)
 | .ptr r o=>alm L r λr=>k (.ptr r o)
 | .rZ r v i o=>alm L r λr=>k (.rZ r v i o)
 | .pU row o=>k (.pU row o)
 | .yt v=>LC L v λv=>k (.yt v)
 | .clo f a b=>Qj L a λa=>Qj L b λb=>k (.clo f a b)
 | .agg cs=>Qj L cs λcs=>k (.agg cs)
 | .yu vs=>Qj L vs λvs=>k (.yu vs)
 | .undef=>k .undef
def Qj(L:List (Nat×Nat))(vs:List V)(k:List V->Option R):Option R:=match vs with
 |[]=>k []
 |v::vs=>LC L v λv=>Qj L vs λvs=>k (v::vs)
end
def aem(L:List (Nat×Nat))(tm:jv)(k:jv->Option R):Option R:=match tm with
 |[]=>k []
 |(t,v)::tm=>LC L v λv=>aem L tm λtm=>k ((t,v)::tm)
def ake(L:List (Nat×Nat))(c:Cell)(k:Cell->Option R):Option R:=match c with
 | .box t cs=>Qj L cs λcs=>k (.box t cs)
 | .arr fz fl ver s rows=>k (.arr fz fl ver s rows)
 | .dead=>k .dead
 | .D5 ver s rows=>k (.D5 ver s rows)
 | .mF t v=>LC L v λv=>k (.mF t v)
def ZM(L:List (Nat×Nat))(m:Mem)(k:Mem->Option R):Option R:=match m with
 |[]=>k []
 |(r,c)::m=>alm L r λr=>ake L c λc=>ZM L m λm=>MX (put r c m) k
def aen(l:List Nat)(k:List Nat->Option R):Option R:=match l with
 |[]=>k []
 |x::l=>aen l λl=>k (x::l)
def ZN(l:List (Nat×Nat))(k:List (Nat×Nat)->Option R):Option R:=match l with
 |[]=>k []
 |(x,y)::l=>ZN l λl=>k ((x,y)::l)
def aeo(S:St)(k:St->Option R):Option R:=aen (apE S.tm S.mem) λo=>match o with
 |[]=>k S
 |a::o=>ZN (apF names (a::o)) λL=>match VL L (S.mem.map (·.1)) with
  |true=>aem L S.tm λtm=>ZM L S.mem λm=>k ⟨tm,m⟩
  |false=>k S
def aep(ops:Array Oper)(tm:jv)(o:Oper)(k:Bool->jv->Option R):Option R:=
 match o.guard with
 |none=>k true tm
 |some (j,want)=>match ops[j]? with
  |some oj=>match oj.dst with
   |some d=>match PX d tm with
    | .d (.bool b)=>match b with
     |true=>k want (put d (.d (.bool true)) tm)
     |false=>k (!want) (put d (.d (.bool false)) tm)
    | .yu vs=>match vs with
     |[]=>k false (put d (.yu []) tm)
     |_::_=>none
    |_=>none
   |none=>none
  |none=>none
def ai6(X:Ctx)(K:I9)(fn:Nat)(ops:Array Oper)(i:Nat)(S:St)(k:St->Log->Option R):Option R:=
 match ops[i]? with
 |none=>none
 |some o=>aep ops S.tm o λb tm=>match b with
  |false=>k ⟨Yl (D7 X.P fn) o.dst tm,S.mem⟩ .none
  |true=>(asT X K fn tm o).ael S.mem .none λv m l=>bif Jc (D7 X.P fn) o.dst then Dq v λv=>k ⟨Ur o.dst v tm,m⟩ l else none
def Ti(X:Ctx)(K:I9)(fn:Nat)(ops:Array Oper):List Nat->St->List (Nat×Log)->(St->List (Nat×Log)->Option R)->Option R
 |[],S,L,k=>k S L
 |i::is,S,L,k=>ai6 X K fn ops i S λS' l=>Ti X K fn ops is S' ((i,l)::L) k
def arL(X:Ctx)(ops:Array Oper)(L:List (Nat×Log)):Bool->Bool
 |false=>true
 |true=>X.P.follows .mixedOrders &&(backOk ops && QZ ops (Region.before ops) L)
def aer(X:Ctx)(K:I9)(tm:jv)(o1 o2 o3:Oper):Acc (Nat×Nat×V×V):=
 match o1,o2,o3 with
 |⟨some d1,.load t (.tmp ta),_,_,_,none⟩,⟨some d2,.move x,ty2,_,_,none⟩,⟨_,.call ⟨.value (.func f),args,_⟩,_,_,_,none⟩=>do
  ck (!(Nat.beq d1 d2) &&(ajV args d1 d2 &&(asy d1 x &&(Az X.P t &&(Nat.beq (kK X.P t) 1 &&(!(Gj X.P t) && amq X f))))))
  let e<-op' (elT X.P t)
  match PX ta tm,ev X.P tm ty2 x with
  | .rZ r ver i off,.d (.int k n)=>do
   match<-rd r with
   |some (.arr false false gI s rows)=>do
    ck (Nat.beq ver gI && Nat.ble (off+1) s)
    let row<-op' rows[i]?
    let rs<-op' (aiE (kK X.P e) row off)
    ck (TP (pq X.P e) rs)
    let b<-op' (K f [.own kN 0,.d (.int k n)] [.arr false (pq X.P e) 0 (kK X.P e) rs]).o
    let out:=(K f [.own kN 0,.d (.int k n)] [.arr false (pq X.P e) 0 (kK X.P e) rs]).enc b
    let q<-op' (VN out)
    ck (aai (kK X.P e) (pq X.P e) q)
    wr r (.arr false false gI s (rows.set i (splice row off [.sl true (kK X.P e) q.2.2.2.2])))
    pure (d1,d2,.d (.int k n),.d (.int q.1 q.2.1))
   |_=> .fail
  |_,_=> .fail
 |_,_,_=> .fail
def aaS(X:Ctx)(K:I9)(fn:Nat)(ops:Array Oper)(p:Nat)(S:St)(k:St->Option R):Option R:=
 match ops[p]?,ops[p+1]?,ops[p+2]? with
 |some o1,some o2,some o3=>(aer X K S.tm o1 o2 o3).ael S.mem .none λr m _=>bif Nat.blt r.1 (D7 X.P fn) &&(Nat.blt r.2.1 (D7 X.P fn) && Jc (D7 X.P fn) o3.dst) then k ⟨Ur o3.dst r.2.2.2 (put r.2.1 r.2.2.1 (put r.1 .undef S.tm)),m⟩ else none
 |_,_,_=>none
def U0(X:Ctx)(K:I9)(fn id:Nat)(ops:Array Oper)(draw:Bool)(S:St)(k:St->List (Nat×Log)->Option R):Option R:=
 match X.G8.fuse fn id with
 |0=>Ti X K fn ops (List.range ops.size) S [] k
 |p+1=>match draw with
  |true=>none
  |false=>Ti X K fn ops (List.range p) S [] λS1 _=>aaS X K fn ops p S1 λS2=>Ti X K fn ops ((List.range ops.size).drop (p+3)) S2 [] k
def aes(X:Ctx)(K:I9)(fn id:Nat)(ops:Array Oper)(draw:Bool)(S:St)(k:St->Option R):Option R:=
 U0 X K fn id ops draw S λS' L=>
  bif arL X ops L draw then(match UA (X.G8.keep fn id) S' with
   |some S''=>Td S''.tm λtm=>MX S''.mem λm=>aeo ⟨tm,m⟩ k
   |none=>none) else none
def rep(k:Nat)(x:V):jv->jv
 |[]=>[]
 |(j,y)::l=>match Nat.beq k j with
  |true=>(j,x)::l
  |false=>(j,y)::rep k x l
def ap3(c:Operand)(b:Bool)(S:St):St:=match c with
 | .tmp i=>⟨rep i (.d (.bool b)) S.tm,S.mem⟩
 |_=>S
def akf{k:Nat}{x:V}:∀{l:jv},get k l=some x->rep k x l=l
 |[],h=>rfl
 |(j,y)::l,h=>by
  simp only[get] at h;rw[rep];cases hb:Nat.beq k j with
  |true=>rw[hb] at h;simp only[aT,eX] at h;rw[h]
  |false=>rw[hb] at h;simp only;rw[akf h]
def akg{P:Program}{c:Operand}{b:Bool}{S:St}(h:ev P S.tm 0 c=.d (.bool b)):ap3 c b S=S:=by
 cases c with
 |tmp i=>
  simp only[ev,PX] at h;cases hg:get i S.tm with
  |none=>rw[hg] at h;cases h
  |some v=>rw[hg] at h;simp only at h;subst h;rw[ap3,akf hg]
 |_=>rfl
def U1(X:Ctx)(K:I9)(L:Oc)(fn:Nat):Code->St->(Ex->St->Option R)->Option R
 | .skip,S,k=>k .normal S
 | .region id ops draw,S,k=>aes X K fn id ops draw S λS'=>k .normal S'
 | .seq a b,S,k=>U1 X K L fn a S λe S'=>match e with
  | .normal=>U1 X K L fn b S' k
  |e=>k e S'
 | .cond c a b,S,k=>match ev X.P S.tm 0 c with
  | .d (.bool t)=>(match t with
   |true=>U1 X K L fn a (ap3 c true S) k
   |false=>U1 X K L fn b (ap3 c false S) k)
  |_=>none
 | .block id c,S,k=>U1 X K L fn c S λe S'=>match e with
  | .exit j=>bif Nat.beq j id then k .normal S' else k (.exit j) S'
  |e=>k e S'
 | .loop c,S,k=>match(L (lid c) S).o with
  |some b=>(L (lid c) S).alt.go b λr=>k r.1 r.2
  |none=>none
 | .exit id,S,k=>k (.exit id) S
 | .ret,S,k=>k .ret S
 |_,_,_=>none
def aeu(X:Ctx)(g:Func)(n:Nat)(S:St)(k:List Row->List Cell->Option R):Option R:=
 (do
  let rows<-SN X.P S.tm g.results.toList g.resultTypes.toList
  let cells<-QW X.G8 (rH n) (rH n)
  pure (rows,cells):Acc (List Row×List Cell)).ael S.mem .none λr _ _=>k r.1 r.2
def bodyC(X:Ctx)(K:I9)(L:Oc)(f:Nat)(args:List V)(cells:List Cell)(k:List Row->List Cell->Option R):Option R:=
 match X.P.funcs[f]? with
 |some g=>match g.body with
  |some c=>bif !(Nat.ble cells.length kN && Nat.ble args.length g.ntmps) then none else(entry X f g args cells).ael (nZ 0 cells) .none λtm m _=>
   Td tm λtm=>MX m λm=>U1 X K L f c ⟨tm,m⟩ λe S=>match e with
    | .normal=>aeu X g cells.length S k
    | .ret=>aeu X g cells.length S k
    | .exit _=>none
  |none=>none
 |none=>none
def ZO{α:Type}(A:Acc α):∀(m:Mem) (l:Log) (k:α->Mem->Log->Option R),A.ael m l k=(A.run m l).bind λr=>k r.1 r.2.1 r.2.2:=by
 induction A with
 |ret a=>intro m l k;rfl
 |fail=>intro m l k;rfl
 |get i c ih=>intro m l k;exact ih _ _ _ _
 |set i x c ih=>intro m l k;exact ih _ _ _
 |opt o c ih=>intro m l k;cases o with
  |none=>rfl
  |some b=>exact ih b _ _ _
 |guard b c ih=>intro m l k;cases b with
  |false=>rfl
  |true=>exact ih _ _ _
def aln(x:D)(k:D->Option R):am1 x k=k x:=by
 cases x with
 |sl o s rows=>cases o<;>rfl
 |_=>rfl
mutual
def Pv:∀(v:V) (k:V->Option R),Dq v k=k v
 | .d x,k=>by simp only[Dq,aln]
 | .nil s,k=>by simp only[Dq]
 | .own r v,k=>by simp only[Dq]
 | .ptr r o,k=>by simp only[Dq]
 | .rZ r v i o,k=>by simp only[Dq]
 | .pU row o,k=>by simp only[Dq]
 | .yt v,k=>by simp only[Dq];rw[Pv v]
 | .clo f a b,k=>by simp only[Dq];rw[Jm a,Jm b]
 | .agg cs,k=>by simp only[Dq];rw[Jm cs]
 | .yu cs,k=>by simp only[Dq];rw[Jm cs]
 | .undef,k=>by simp only[Dq]
def Jm:∀(vs:List V) (k:List V->Option R),LW vs k=k vs
 |[],k=>by simp only[LW]
 |v::vs,k=>by simp only[LW];rw[Pv v,Jm vs]
end
def U2:∀(tm:jv) (k:jv->Option R),Td tm k=k tm
 |[],k=>rfl
 |(t,v)::tm,k=>by simp only[Td];rw[Pv v,U2 tm]
def aev(c:Cell)(k:Cell->Option R):Tf c k=k c:=by
 cases c with
 |box t cs=>simp only[Tf,Jm]
 |mF t v=>simp only[Tf,Pv]
 |_=>rfl
def Oe:∀(m:Mem) (k:Mem->Option R),MX m k=k m
 |[],k=>rfl
 |(t,v)::m,k=>by simp only[MX];rw[aev v,Oe m]
def ZP(L:List (Nat×Nat))(r:Nat)(k:Nat->Option R):alm L r k=k (ren L r):=by unfold alm ren;cases get r L<;>rfl
mutual
def Wp(L:List (Nat×Nat)):∀(v:V) (k:V->Option R),LC L v k=k (KY L v)
 | .d x,k=>by simp only[LC,KY]
 | .nil s,k=>by simp only[LC,KY]
 | .own r v,k=>by simp only[LC,KY,ZP]
 | .ptr r o,k=>by simp only[LC,KY,ZP]
 | .rZ r v i o,k=>by simp only[LC,KY,ZP]
 | .pU row o,k=>by simp only[LC,KY]
 | .yt v,k=>by simp only[LC,KY];rw[Wp L v]
 | .clo f a b,k=>by simp only[LC,KY];rw[MH L a,MH L b]
 | .agg cs,k=>by simp only[LC,KY];rw[MH L cs]
 | .yu vs,k=>by simp only[LC,KY];rw[MH L vs]
 | .undef,k=>by simp only[LC,KY]
def MH(L:List (Nat×Nat)):∀(vs:List V) (k:List V->Option R),Qj L vs k=k (QY L vs)
 |[],k=>by simp only[Qj,QY]
 |v::vs,k=>by simp only[Qj,QY];rw[Wp L v,MH L vs]
end
def ade(L:List (Nat×Nat)):∀(tm:jv) (k:jv->Option R),aem L tm k=k (aah L tm)
 |[],k=>rfl
 |(t,v)::tm,k=>by simp only[aem,aah];rw[Wp L v,ade L tm]
def am2(L:List (Nat×Nat))(c:Cell)(k:Cell->Option R):ake L c k=k (aag L c):=by
 cases c with
 |box t cs=>simp only[ake,aag,MH]
 |mF t v=>simp only[ake,aag,Wp]
 |_=>rfl
def aaT(L:List (Nat×Nat)):∀(m:Mem) (k:Mem->Option R),ZM L m k=k (MO L m)
 |[],k=>rfl
 |(r,c)::m,k=>by simp only[ZM,MO,ZP,am2];rw[aaT L m,Oe]
def adf:∀(l:List Nat) (k:List Nat->Option R),aen l k=k l
 |[],k=>rfl
 |x::l,k=>by simp only[aen];rw[adf l]
def aaU:∀(l:List (Nat×Nat)) (k:List (Nat×Nat)->Option R),ZN l k=k l
 |[],k=>rfl
 |(x,y)::l,k=>by simp only[ZN];rw[aaU l]
def alo(S:St)(k:St->Option R):aeo S k=k (canon S):=by
 unfold aeo canon;rw[adf];cases apE S.tm S.mem with
 |nil=>rfl
 |cons a o=>
  simp only[aaU,ad4];cases VL (apF names (a::o)) (S.mem.map (·.1)) with
  |true=>simp only[ade,aaT]
  |false=>rfl
def Fa{α:Type}(a b:Acc α):Prop:=∀m l,a.run m l=b.run m l
def Fa.refl{α:Type}(a:Acc α):Fa a a:=λ_ _=>rfl
def Fa.bind{α β:Type}{a:Acc α}{f g:α->Acc β}(h:∀x,Fa (f x) (g x)):Fa (a>>=f) (a>>=g):=by
 intro m l;rw[run_bind,run_bind];cases a.run m l with
 |none=>rfl
 |some r=>obtain⟨x,m,l⟩:=r;exact h x m l
def Fa.enc{α β γ:Type}{o:Option β}{enc:β->α}{f:α->Acc γ}:Fa (op' o>>=λb=>f (enc b)) (op' (o.map enc)>>=f):=by intro m l;rw[run_bind,run_bind];cases o<;>rfl
def ai7{X:Ctx}{K:I9}{fn dst f:Nat}{args:List V}{m:Mem}{l:Log}:(ai5 X K fn dst f args).run m l=(VJ X K.to fn dst f args).run m l:=by
 revert m l;show Fa _ _;unfold ai5 VJ;refine Fa.bind λg=>Fa.bind λ_=>Fa.bind λargs=>Fa.bind λcells=>Fa.bind fun⟨args,KI⟩=>Fa.bind λ_=> ?_
 exact Fa.enc (o:=(K f args cells).o) (enc:=(K f args cells).enc) (f:=λout=>do
  ck (Nat.beq out.1.length g.resultTypes.size)
  ck (bif(!(KI.isEmpty) &&(SL X.P (X.G8.Zc fn dst) 0 g.resultTypes.toList &&(LK X.G8 _ 0 [] _).isEmpty)) then out.1.all eY else true)
  freeze (bif(!(KI.isEmpty) &&(SL X.P (X.G8.Zc fn dst) 0 g.resultTypes.toList &&(LK X.G8 _ 0 [] _).isEmpty)) then[] else KI)
  Yk X dst out.2 0 (LK X.G8 _ 0 [] _)
  let vs<-Ux X (X.G8.Zc fn dst) dst out.1 0 g.resultTypes.toList
  match vs with
  |[v]=>pure v
  |vs=>pure (.yu vs))
def am3{X:Ctx}{K:I9}{fn:Nat}{tm:jv}{o:Oper}{m:Mem}{l:Log}:(asT X K fn tm o).run m l=(vop X K.to fn tm o).run m l:=by
 obtain⟨dst,op,type,pos,after,guard⟩:=o;cases op<;>try rfl
 case call c=>
  obtain⟨callee,args,tys⟩:=c;cases callee with
  |value f=>
   simp only[asT,vop];cases ev X.P tm 0 f with
   |clo g a b=>exact ai7
   |_=>rfl
  |invoke r m=>rfl
  |builtin b=>cases b<;>rfl
 case makeFunc f a b=>cases f<;>rfl
 case slice a b c d e=>cases e<;>rfl
def ai8(ops:Array Oper)(tm:jv)(o:Oper)(k:Bool->jv->Option R):aep ops tm o k=(zW ops tm o).bind λr=>k r.1 r.2:=by
 unfold aep zW;cases o.guard with
 |none=>rfl
 |some jw=>
  obtain⟨j,want⟩:=jw;simp only;cases ops[j]? with
  |none=>rfl
  |some oj=>
   simp only;cases oj.dst with
   |none=>rfl
   |some d=>
    simp only;cases PX d tm with
    |d x=>cases x with
     |bool b=>cases b<;>rfl
     |_=>rfl
    |yu vs=>cases vs<;>rfl
    |_=>rfl
def alp(X:Ctx)(K:I9)(fn:Nat)(ops:Array Oper)(i:Nat)(S:St)(k:St->Log->Option R):ai6 X K fn ops i S k=(yh X K.to fn ops i S).bind λr=>k r.1 r.2:=by
 unfold ai6 yh;cases ops[i]? with
 |none=>rfl
 |some o=>
  simp only[ai8];cases zW ops S.tm o with
  |none=>rfl
  |some r=>
   obtain⟨b,tm⟩:=r;cases b with
   |false=>rfl
   |true=>
    simp only[Option.bind_some,ZO,am3];cases(vop X K.to fn tm o).run S.mem .none with
    |none=>rfl
    |some r=>
     obtain⟨v,m,l⟩:=r;simp only[Option.bind_some];cases Jc (D7 X.P fn) o.dst with
     |false=>rfl
     |true=>simp only[aT,Pv];rfl
def U3(X:Ctx)(K:I9)(fn:Nat)(ops:Array Oper):∀(is:List Nat) (S:St) (L:List (Nat×Log)) (k:St->List (Nat×Log)->Option R),Ti X K fn ops is S L k=(uz X K.to fn ops is S L).bind λr=>k r.1 r.2
 |[],S,L,k=>rfl
 |i::is,S,L,k=>by
  simp only[Ti,Xv,alp];cases yh X K.to fn ops i S with
  |none=>rfl
  |some r=>simp only[Option.bind_some];exact U3 X K fn ops is _ _ k
def afF{X:Ctx}{K:I9}{tm:jv}{o1 o2 o3:Oper}{m:Mem}{l:Log}:(aer X K tm o1 o2 o3).run m l=(KZ X K.to tm o1 o2 o3).run m l:=by
 revert m l;show Fa _ _;unfold aer KZ;split
 ·rename_i d1 t ta _ _ _ d2 x ty2 _ _ _ f args _ _ _ _;refine Fa.bind λ_=>Fa.bind λe=> ?_
  generalize PX ta tm=ga;generalize ev X.P tm ty2 x=kv;cases ga with
  |rZ r ver i off=>
   cases kv with
   |d y=>
    cases y with
    |int k n=>
     refine Fa.bind λc=> ?_
     cases c with
     |none=>exact Fa.refl _
     |some c=>cases c with
      |arr fz fl gI s rows=>cases fz with
       |true=>exact Fa.refl _
       |false=>cases fl with
        |true=>exact Fa.refl _
        |false=>
         refine Fa.bind λ_=>Fa.bind λrow=>Fa.bind λrs=>Fa.bind λ_=> ?_
         exact Fa.enc (o:=(K f [.own kN 0,.d (.int k n)] [.arr false (pq X.P e) 0 (kK X.P e) rs]).o) (enc:=(K f [.own kN 0,.d (.int k n)] [.arr false (pq X.P e) 0 (kK X.P e) rs]).enc) (f:=λout=>do
          let q<-op' (VN out)
          ck (aai (kK X.P e) (pq X.P e) q)
          wr r (.arr false false gI s (rows.set i (splice row off [.sl true (kK X.P e) q.2.2.2.2])))
          pure (d1,d2,V.d (.int k n),V.d (.int q.1 q.2.1)))
      |_=>exact Fa.refl _
    |_=>exact Fa.refl _
   |_=>exact Fa.refl _
  |_=>exact Fa.refl _
 ·rename_i hno;split
  ·exfalso;apply hno<;>rfl
  ·exact Fa.refl _
def afG(X:Ctx)(K:I9)(fn:Nat)(ops:Array Oper)(p:Nat)(S:St)(k:St->Option R):aaS X K fn ops p S k=(D8 X K.to fn ops p S).bind k:=by
 simp only[aaS,UU];cases ops[p]? with
 |none=>rfl
 |some o1=>cases ops[p+1]? with
  |none=>rfl
  |some o2=>cases ops[p+2]? with
   |none=>rfl
   |some o3=>
    simp only[ZO,afF];cases(KZ X K.to S.tm o1 o2 o3).run S.mem .none with
    |none=>rfl
    |some r=>simp only[Option.bind_some];cases(Nat.blt r.1.1 (D7 X.P fn) &&(Nat.blt r.1.2.1 (D7 X.P fn) && Jc (D7 X.P fn) o3.dst))<;>rfl
def acy(X:Ctx)(K:I9)(fn id:Nat)(ops:Array Oper)(draw:Bool)(S:St)(k:St->List (Nat×Log)->Option R):U0 X K fn id ops draw S k=(yJ X K.to fn id ops draw S).bind λr=>k r.1 r.2:=by
 simp only[U0,Qi];cases X.G8.fuse fn id with
 |zero=>simp only[U3]
 |succ p=>
  cases draw with
  |true=>rfl
  |false=>
   simp only[U3,afG];cases uz X K.to fn ops (List.range p) S [] with
   |none=>rfl
   |some r=>simp only[Option.bind_some];cases D8 X K.to fn ops p r.1<;>rfl
def ai9(X:Ctx)(K:I9)(fn id:Nat)(ops:Array Oper)(draw:Bool)(S:St)(k:St->Option R):aes X K fn id ops draw S k=(region X K.to fn id ops draw S).bind k:=by
 simp only[aes,Xw,acy];cases yJ X K.to fn id ops draw S with
 |none=>rfl
 |some r=>
  simp only[Option.bind_some];have hp:(match UA (X.G8.keep fn id) r.1 with
   |some S''=>Td S''.tm λtm=>MX S''.mem λm=>aeo ⟨tm,m⟩ k
   |none=>none)=(prune (X.G8.keep fn id) r.1).bind k:=by
   unfold prune;cases UA (X.G8.keep fn id) r.1 with
   |none=>rfl
   |some S''=>simp only[U2,Oe,alo];rfl
  rw[hp];cases draw with
  |false=>rfl
  |true=>simp only[arL];cases(X.P.follows .mixedOrders &&(backOk ops && QZ ops (Region.before ops) r.2))<;>rfl
def akh(X:Ctx)(K:I9)(L:Oc)(fn:Nat)(c:Code):∀(S:St) (k:Ex->St->Option R),U1 X K L fn c S k=(EU X K.to L.to fn c S).bind λr=>k r.1 r.2:=by
 induction c with
 |skip=>intro S k;rfl
 |region id ops draw=>intro S k;simp only[U1,EU,ai9];cases region X K.to fn id ops draw S<;>rfl
 |seq a b iha ihb=>
  intro S k;simp only[U1,EU,iha];cases EU X K.to L.to fn a S with
  |none=>rfl
  |some r=>
   obtain⟨e,S'⟩:=r;cases e with
   |normal=>exact ihb S' k
   |exit id=>rfl
   |ret=>rfl
 |cond c a b iha ihb=>
  intro S k;simp only[U1,EU,TR];cases hev:ev X.P S.tm 0 c with
  |d x=>cases x with
   |bool t=>cases t with
    |true=>simp only[akg hev];exact iha S k
    |false=>simp only[akg hev];exact ihb S k
   |_=>rfl
  |_=>rfl
 |block id c ih=>
  intro S k;simp only[U1,EU,ih];cases EU X K.to L.to fn c S with
  |none=>rfl
  |some r=>
   obtain⟨e,S'⟩:=r;cases e with
   |normal=>rfl
   |ret=>rfl
   |exit j=>simp only[Option.bind_some];cases Nat.beq j id<;>rfl
 |loop c ih=>intro S k;simp only[U1,EU,Oc.to,UZ.val,Alt.go_eq];cases(L (lid c) S).o<;>rfl
 |exit id=>intro S k;rfl
 |ret=>intro S k;rfl
 |_=>intro S k;rfl
def adg(X:Ctx)(g:Func)(n:Nat)(S:St)(k:List Row->List Cell->Option R):aeu X g n S k=(leave X g n S).bind λr=>k r.1 r.2:=by
 simp only[aeu,leave,ZO];split
 ·rename_i r m l he;simp only[he];rfl
 ·rename_i he;simp only[he];rfl
def am4(X:Ctx)(K:I9)(L:Oc)(f:Nat)(args:List V)(cells:List Cell)(k:List Row->List Cell->Option R):bodyC X K L f args cells k=(YQ X K.to L.to f args cells).bind λr=>k r.1 r.2:=by
 simp only[bodyC,YQ];cases X.P.funcs[f]? with
 |none=>rfl
 |some g=>
  simp only;cases g.body with
  |none=>rfl
  |some c=>
   simp only;generalize (!(Nat.ble cells.length kN && Nat.ble args.length g.ntmps))=q;cases q with
   |true=>rfl
   |false=>
    simp only[cu,ZO];cases(entry X f g args cells).run (nZ 0 cells) .none with
    |none=>rfl
    |some r=>
     obtain⟨tm,m,l⟩:=r;simp only[Option.bind_some,U2,Oe,akh];cases EU X K.to L.to f c ⟨tm,m⟩ with
     |none=>rfl
     |some r=>
      obtain⟨e,S⟩:=r;cases e with
      |normal=>simp only[Option.bind_some,adg]
      |ret=>simp only[Option.bind_some,adg]
      |exit j=>rfl
end
def am5{X:Ctx}{K:I9}{L:Oc}{f:Nat}{args:List V}{cells:List Cell}{r:List Row×List Cell}(hp:X.Tz f=none)(hK:KLe K.to (call X))(hL:LOk X (call X) f L.to (loops (codeOf X.P f)))
  (h:bodyC X K L f args cells (λa b=>some (a,b))=some r):call X f args cells=some r:=by
 refine am0 hp hK hL ?_;rw[am4] at h;cases hb:YQ X K.to L.to f args cells with
 |none=>rw[hb] at h;cases h
 |some q=>rw[hb] at h;exact h
def ap4{X:Ctx}{K:I9}{L:Oc}{fn:Nat}{c:Code}{S:St}{r:Ex×St}(hK:KLe K.to (call X))(hL:LOk X (call X) fn L.to (loops c))(h:U1 X K L fn c S (λa b=>some (a,b))=some r):den X (call X) fn c S=some r:=by
 refine ap2 hK hL ?_;rw[akh] at h;cases hb:EU X K.to L.to fn c S with
 |none=>rw[hb] at h;cases h
 |some q=>rw[hb] at h;exact h
end Go.Vm
namespace Go.Vm
open Go
open Go.IntKind (i64)
def iterM{σ τ:Type}(b:σ->Option (σ⊕τ)):Nat->σ->Option τ
 |0,_=>none
 |n+1,s=>match b s with
  |some (.inl s')=>iterM b n s'
  |some (.inr t)=>some t
  |none=>none
def U4{σ τ:Type}{b:σ->Option (σ⊕τ)}:∀{n k:Nat} {s:σ} {t:τ},iterM b n s=some t->n<=k->iterM b k s=some t
 |0,_,_,_,h,_=>by simp[iterM] at h
 |n+1,0,_,_,_,hk=>by omega
 |n+1,k+1,s,t,h,hk=>by
  simp only[iterM] at h⊢;cases hb:b s with
  |none=>simp[hb] at h
  |some q=>
   rw[hb] at h;cases q with
   |inl s'=>exact U4 h (by omega)
   |inr t'=>exact h
noncomputable def eF{σ τ:Type}(b:σ->Option (σ⊕τ))(s:σ):Option τ:=lim λn=>iterM b n s
def Wq{σ τ:Type}{b:σ->Option (σ⊕τ)}{s:σ}{t:τ}{n:Nat}(h:iterM b n s=some t):eF b s=some t:=by
 refine Jl h λm y hy=> ?_
 have h1:=U4 h (Nat.le_max_left n m);rw[U4 hy (Nat.le_max_right n m)] at h1;exact Option.some.inj h1
def U5{σ τ:Type}{b:σ->Option (σ⊕τ)}{s:σ}{t:τ}(h:eF b s=some t):∃n,iterM b n s=some t:=Pq h
def gQ{σ τ:Type}{b:σ->Option (σ⊕τ)}{s s':σ}(h:b s=some (.inl s')):eF b s=eF b s':=by
 cases hl:eF b s' with
 |some t=>obtain⟨n,hn⟩:=U5 hl;exact Wq (n:=n+1) (by simp only[iterM,h];exact hn)
 |none=>
  cases hs:eF b s with
  |none=>rfl
  |some t=>
   obtain⟨n,hn⟩:=U5 hs;cases n with
   |zero=>simp[iterM] at hn
   |succ n=>simp only[iterM,h] at hn;rw[Wq hn] at hl;cases hl
def dP{σ τ:Type}{b:σ->Option (σ⊕τ)}{s:σ}{t:τ}(h:b s=some (.inr t)):eF b s=some t:=
 Wq (n:=1) (by simp only[iterM,h])
def fF{σ τ:Type}{b:σ->Option (σ⊕τ)}{t:τ}(st:Nat->σ)(n:Nat)(h:∀i,i<n->b (st i)=some (.inl (st (i+1))))(he:b (st n)=some (.inr t)):∀i,i<=n->eF b (st i)=some t:=by
 intro i hi;obtain⟨d,rfl⟩:∃d,n=i+d:=⟨n - i,by omega⟩
 induction d generalizing i with
 |zero=>exact dP he
 |succ d ih=>rw[gQ (h i (by omega)),ih (i+1) (λj hj=>h j (by omega)) (by rw[show i+1+d=i+(d+1) by omega];exact he) (by omega)]
def aja{σ τ:Type}{b:σ->Option (σ⊕τ)}{D:St->Option (Ex×St)}{tm:σ->St}{tx:τ->Ex×St}
  (h:∀s r,b s=some r->D (tm s)=some (match r with| .inl s'=>(.normal,tm s')| .inr t=>tx t)) (hx:∀t,(tx t).1≠.normal) {s:σ} {t:τ} (hl:eF b s=some t):NY D (tm s)=some (tx t):=by
 obtain⟨n,hn⟩:=U5 hl;induction n generalizing s with
 |zero=>simp[iterM] at hn
 |succ n ih=>
  simp only[iterM] at hn;cases hb:b s with
  |none=>simp[hb] at hn
  |some q=>
   rw[hb] at hn;have hd:=h s q hb;cases q with
   |inl s'=>have hl':=ih (Wq hn) hn;obtain⟨k,hk⟩:=UY hl';refine Wn (n:=k+1) ?_;simp only[iter,hd];exact hk
   |inr t'=>
    simp only[eX] at hn;subst hn;refine Wn (n:=1) ?_;simp only[iter,hd];have:=hx t';cases ht:tx t' with
    |mk e S=>cases e with
     |normal=>rw[ht] at this;exact absurd rfl this
     |exit id=>rfl
     |ret=>rfl
def awZ(X:Ctx)(f n:Nat)(c:Code)(P:St->UZ (Ex×St)):Prop:=lid c=n∧∀S r,(P S).val=some r->NY (den X (call X) f c) S=some r
def findLoop(n:Nat):Code->Option Code
 | .seq a b=>match findLoop n a with
  |some c=>some c
  |none=>findLoop n b
 | .cond _ a b=>match findLoop n a with
  |some c=>some c
  |none=>findLoop n b
 | .block _ c=>findLoop n c
 | .loop c=>bif Nat.beq (lid c) n then some c else findLoop n c
 |_=>none
def Rt(P:Program)(f n:Nat):Code:=match findLoop n (codeOf P f) with
 |some c=>c
 |none=> .skip
def am6{X:Ctx}{K:I9}{L:Oc}{f:Nat}{args:List V}{cells:List Cell}{ρ:Type}{o:Option ρ}{enc:ρ->List Row×List Cell}(hp:X.Tz f=none)(hK:KLe K.to (call X))(hL:LOk X (call X) f L.to (loops (codeOf X.P f)))
  (h:bodyC X K L f args cells (λa b=>some (a,b))=o.bind λr=>some (enc r)) {r:ρ} (hr:o=some r):call X f args cells=some (enc r):=by
 refine am5 hp hK hL ?_;rw[h,hr];rfl
def am7{X:Ctx}{K:I9}{L:Oc}{f:Nat}{c:Code}{σ τ:Type}{b:σ->Option (σ⊕τ)}{tm:σ->St}{tx:τ->Ex×St}(hK:KLe K.to (call X))(hL:LOk X (call X) f L.to (loops c))
  (h:∀s,U1 X K L f c (tm s) (λa b=>some (a,b))=(b s).bind λr=>some (match r with| .inl s'=>(.normal,tm s')| .inr t=>tx t)) (hx:∀t,(tx t).1≠.normal) {s:σ} {t:τ} (hl:eF b s=some t):
  NY (den X (call X) f c) (tm s)=some (tx t):=by
 refine aja (λs r hr=> ?_) hx hl;refine ap4 hK hL ?_;rw[h s,hr];rfl
def am8{α β:Type}(c:Bool)(a b:Option α)(f:α->Option β):(bif c then a else b).bind f=bif c then a.bind f else b.bind f:=by cases c<;>rfl
def alq{α β γ:Type}(o:Option α)(g:α->Option β)(f:β->Option γ):(o.bind g).bind f=o.bind λx=>(g x).bind f:=by cases o<;>rfl
def ah{α β:Type}(a:α)(f:α->Option β):(some a).bind f=f a:=rfl
def alr{α β:Type}(f:α->Option β):(none:Option α).bind f=none:=rfl
def als{α β:Type}(o:Option α)(n:Option β)(f:α->Option β):Option β:=match o with
 |none=>n
 |some x=>f x
def letE{α β:Type}(x:α)(f:α->Option β):Option β:=f x
def adh{α β γ:Type}(o:Option α)(n:Option β)(f:α->Option β)(g:β->Option γ):(als o n f).bind g=als o (n.bind g) λx=>(f x).bind g:=by cases o<;>rfl
def adi{α β γ δ:Type}(r:α⊕β)(f:α->Option γ)(g:β->Option γ)(k:γ->Option δ):(qR r f g).bind k=qR r (λx=>(f x).bind k) (λy=>(g y).bind k):=by cases r<;>rfl
def adk{α β γ:Type}(x:α)(f:α->Option β)(g:β->Option γ):(letE x f).bind g=letE x λy=>(f y).bind g:=rfl
def awZ.at{X:Ctx}{f n:Nat}{c:Code}{P:St->UZ (Ex×St)}{L:Oc}(h:awZ X f n c P)(hL:∀S,L n S=P S):∀S r,L.to (lid c) S=some r->NY (den X (call X) f c) S=some r:=by intro S r hr;rw[h.1,Oc.to,hL] at hr;exact h.2 S r hr
end Go.Vm
namespace Go.Vm
open Go
open Go.IntKind (i64)
set_option linter.unusedVariables false
structure Pt(β:Type) where
 α:Type
 enc:α->β
 dec:β->Option α
 ok:∀b x,dec b=some x->b=enc x
noncomputable section
def pS:Pt V:=⟨List UInt8,λs=> .d (.str s),λv=>match v with| .d (.str s)=>some s|_=>none,by intro b x h;split at h<;>simp_all⟩
def pK(k:IntKind):Pt V:=⟨Int,λn=> .d (.int k n),λv=>match v with| .d (.int k' n)=>(match decEq k' k with| .isTrue _=>some n| .isFalse _=>none)|_=>none,by
 intro b x h;split at h
 ·split at h<;>simp_all
 ·cases h⟩
def pI:Pt V:=pK .i64
def pB:Pt V:=⟨Bool,λs=> .d (.bool s),λv=>match v with| .d (.bool s)=>some s|_=>none,by intro b x h;split at h<;>simp_all⟩
def pL(o:Bool)(s:Nat):Pt V:=⟨List Row,λr=> .d (.sl o s r),λv=>match v with| .d (.sl o' s' r)=>bif(o==o') && Nat.beq s s' then some r else none|_=>none,by
 intro b x h;split at h
 ·rename_i o' s' r;cases ho:(o==o')<;>cases hs:Nat.beq s s'<;>simp only[ho,hs,Bool.and_true,Bool.and_false,Bool.false_and,aT,cu,eX] at h
  all_goals first|cases h;done|skip
  cases h;rw[beq_iff_eq] at ho;rw[uY hs,ho]
 ·cases h⟩
def pZ{β:Type}(v:β)(t:β->Bool)(h:∀b,t b=true->b=v):Pt β:=⟨Unit,λ_=>v,λb=>bif t b then some () else none,by
 intro b x e;cases ht:t b with
 |true=>exact h b ht
 |false=>rw[ht] at e;cases e⟩
def aew(s:Nat):Pt V:=pZ (.nil s) (λv=>match v with| .nil t=>Nat.beq s t|_=>false) (by
 intro b h;split at h
 ·rw[uY h]
 ·cases h)
def am9{a b:Bool}(h:(a && b)=true):a=true∧b=true:=by simpa using h
def pO(r n:Nat):Pt V:=pZ (.own r n) (λv=>match v with| .own a b=>Nat.beq r a && Nat.beq n b|_=>false) (by
 intro b h;split at h
 ·obtain⟨h1,h2⟩:=am9 h;rw[uY h1,uY h2]
 ·cases h)
def pP(r n:Nat):Pt V:=pZ (.ptr r n) (λv=>match v with| .ptr a b=>Nat.beq r a && Nat.beq n b|_=>false) (by
 intro b h;split at h
 ·obtain⟨h1,h2⟩:=am9 h;rw[uY h1,uY h2]
 ·cases h)
def aw0{β:Type}(p:Pt β)(q:Pt (List β)):Pt (List β):=⟨p.α×q.α,λx=>p.enc x.1::q.enc x.2,λl=>match l with|a::b=>(match p.dec a with|some x=>(match q.dec b with|some y=>some (x,y)|none=>none)|none=>none)|[]=>none,by
 intro b x h;split at h
 ·split at h
  ·rename_i hp;split at h
   ·rename_i hq;cases h;rw[p.ok _ _ hp,q.ok _ _ hq]
   ·cases h
  ·cases h
 ·cases h⟩
def aGe{β:Type}:Pt (List β):=pZ [] (λl=>match l with|[]=>true|_=>false) (by intro b h;split at h<;>simp_all)
def pl{β:Type}(l:List (Pt β)):Pt (List β):=List.rec aGe (λp _ q=>aw0 p q) l
def aw1(f:Nat)(a b:List (Pt V)):Pt V:=⟨(pl a).α×(pl b).α,λx=> .clo f ((pl a).enc x.1) ((pl b).enc x.2),λv=>match v with| .clo g x y=>bif Nat.beq f g then(match(pl a).dec x with|some x=>(match(pl b).dec y with|some y=>some (x,y)|none=>none)|none=>none) else none|_=>none,by
 intro v x h;split at h
 ·rename_i g u w;cases ht:Nat.beq f g with
  |false=>rw[ht] at h;cases h
  |true=>
   rw[ht,aT] at h;split at h
   ·rename_i hp;split at h
    ·rename_i hq;cases h;rw[(pl a).ok _ _ hp,(pl b).ok _ _ hq,uY ht]
    ·cases h
   ·cases h
 ·cases h⟩
def jD(a:List (Pt V)):Pt V:=⟨(pl a).α,λx=> .agg ((pl a).enc x),λv=>match v with| .agg x=>(pl a).dec x|_=>none,by
 intro v x h;split at h
 ·rw[(pl a).ok _ _ h]
 ·cases h⟩
def cB(t:TypeId)(a:List (Pt V)):Pt Cell:=⟨(pl a).α,λx=> .box t ((pl a).enc x),λv=>match v with| .box u x=>bif Nat.beq t u then(pl a).dec x else none|_=>none,by
 intro v x h;split at h
 ·rename_i u y;cases ht:Nat.beq t u with
  |false=>rw[ht] at h;cases h
  |true=>rw[ht,aT] at h;rw[(pl a).ok _ _ h,uY ht]
 ·cases h⟩
def cA(z l:Bool)(n s:Nat):Pt Cell:=⟨List Row,λr=> .arr z l n s r,λv=>match v with| .arr z' l' n' s' r=>bif(z==z') &&((l==l') &&(Nat.beq n n' && Nat.beq s s')) then some r else none|_=>none,by
 intro b x h;split at h
 ·rename_i z' l' n' s' r;cases ht:((z==z') &&((l==l') &&(Nat.beq n n' && Nat.beq s s'))) with
  |false=>rw[ht] at h;cases h
  |true=>rw[ht] at h;obtain⟨h1,h2⟩:=am9 ht;obtain⟨h2,h3⟩:=am9 h2;obtain⟨h3,h4⟩:=am9 h3;cases h;rw[beq_iff_eq] at h1 h2;rw[h1,h2,uY h3,uY h4]
 ·cases h⟩
def dG{β:Type}(n:Nat)(p:Pt β):Pt (Nat×β):=⟨p.α,λx=>(n,p.enc x),λy=>bif Nat.beq n y.1 then p.dec y.2 else none,by
 intro y x h;cases ht:Nat.beq n y.1 with
 |false=>rw[ht] at h;cases h
 |true=>rw[ht,aT] at h;rw[<-p.ok _ _ h,uY ht]⟩
def GN(t:List (Pt (Nat×V)))(m:List (Pt (Nat×Cell))):Pt St:=⟨(pl t).α×(pl m).α,λx=>⟨(pl t).enc x.1,(pl m).enc x.2⟩,λS=>match(pl t).dec S.tm with|some x=>(match(pl m).dec S.mem with|some y=>some (x,y)|none=>none)|none=>none,by
 intro S x h;split at h
 ·rename_i hp;split at h
  ·rename_i hq;cases h;cases S;have e1:=(pl t).ok _ _ hp;have e2:=(pl m).ok _ _ hq;simp only at e1 e2;rw[e1,e2]
  ·cases h
 ·cases h⟩
def pOr{β:Type}(p q:Pt β):Pt β:=⟨p.α⊕q.α,λx=>match x with| .inl x=>p.enc x| .inr y=>q.enc y,λb=>match p.dec b with|some x=>some (.inl x)|none=>(match q.dec b with|some y=>some (.inr y)|none=>none),by
 intro b x h;split at h
 ·rename_i hp;cases h;exact p.ok _ _ hp
 ·split at h
  ·rename_i hq;cases h;exact q.ok _ _ hq
  ·cases h⟩
structure eP where
 f:Nat
 p:Pt (List V)
 q:Pt (List Cell)
 ρ:Type
 enc:ρ->List Row×List Cell
@[reducible] def sg(f:Nat)(a:List (Pt V))(c:List (Pt Cell)){ρ:Type}(enc:ρ->List Row×List Cell):eP:=⟨f,pl a,pl c,ρ,enc⟩
abbrev eP.α(S:eP):Type:=S.p.α×S.q.α
def eP.ok(S:eP)(X:Ctx)(o:S.α->Option S.ρ):Prop:=∀x r,o x=some r->call X S.f (S.p.enc x.1) (S.q.enc x.2)=some (S.enc r)
structure FE(X:Ctx) where
 f:Nat
 P:List V->List Cell->Option (Res (List Row×List Cell))
 ok:∀a c q r,P a c=some q->q.val=some r->call X f a c=some r
def fe{X:Ctx}{S:eP}{o:S.α->Option S.ρ}(h:S.ok X o):FE X:=⟨S.f,λa c=>match S.p.dec a with|some x=>(match S.q.dec c with|some y=>some ⟨S.ρ,o (x,y),S.enc⟩|none=>none)|none=>none,by
 intro a c q r hq hr;split at hq
 ·rename_i x hx;split at hq
  ·rename_i y hy;cases hq;obtain⟨z,hz,rfl⟩:=Res.aaR hr;rw[S.p.ok _ _ hx,S.q.ok _ _ hy];exact h (x,y) z hz
  ·cases hq
 ·cases hq⟩
def kt{X:Ctx}(l:List (FE X)):I9:=List.rec (λ_ _ _=> .none) (λe _ K g a c=>bif Nat.beq g e.f then(match e.P a c with|some r=>r|none=>K g a c) else K g a c) l
def arM{X:Ctx}(l:List (FE X)):KLe (kt l).to (call X):=by
 induction l with
 |nil=>exact λ_ _ _ _ h=>by simp[I9.to,kt,Res.none,Res.val] at h
 |cons e l ih=>
  intro g a c r hr;have hr':(bif Nat.beq g e.f then(match e.P a c with|some r=>r|none=>kt l g a c) else kt l g a c).val=some r:=hr
  by_cases h:g=e.f
  ·subst h;simp only[Nat.beq_refl,aT] at hr';split at hr'
   ·rename_i q hq;exact e.ok a c q r hq hr'
   ·exact ih _ a c r hr'
  ·rw[rV h] at hr';exact ih g a c r hr'
structure LE(X:Ctx)(f:Nat) where
 n:Nat
 c:Code
 P:St->Option (UZ (Ex×St))
 hn:lid c=n
 ok:∀S q r,P S=some q->q.val=some r->NY (den X (call X) f c) S=some r
def lt{X:Ctx}{f:Nat}(l:List (LE X f)):Oc:=List.rec (λ_ _=> .none) (λe _ L n S=>bif Nat.beq n e.n then(match e.P S with|some r=>r|none=> .none) else L n S) l
def apart(l:List Nat):Bool:=match l with
 |[]=>true
 |x::l=>l.all (λy=> !(Nat.beq x y)) && apart l
def ana{X:Ctx}{f:Nat}:∀(l:List (LE X f)),apart (l.map LE.n)=true->∀e,e∈l->∀S r,(lt l e.n S).val=some r->NY (den X (call X) f e.c) S=some r
 |[],_,e,h,_,_,_=>by cases h
 |d::l,hd,e,he,S,r,hr=>by
  have hr':(bif Nat.beq e.n d.n then(match d.P S with|some r=>r|none=> .none) else lt l e.n S).val=some r:=hr;simp only[TN,apart,zq] at hd;rcases List.mem_cons.1 he with rfl|he
  ·simp only[Nat.beq_refl,aT] at hr';split at hr'
   ·rename_i q hq;exact e.ok S q r hq hr'
   ·simp[UZ.none,UZ.val] at hr'
  ·have h1:=List.all_eq_true.1 hd.1 e.n (List.mem_map_of_mem he);have h2:e.n≠d.n:=by intro h;rw[h,Nat.beq_refl] at h1;cases h1
   rw[rV h2] at hr';exact ana l hd.2 e he S r hr'
def arN{X:Ctx}{f:Nat}{l:List (LE X f)}{cs:List Code}(h:cs=l.map LE.c)(hd:apart (l.map LE.n)=true):LOk X (call X) f (lt l).to cs:=by intro c hc S r hr;rw[h] at hc;obtain⟨e,he,rfl⟩:=List.mem_map.1 hc;rw[e.hn] at hr;exact ana l hd e he S r hr
def fnS{X:Ctx}{S:eP}{o:S.α->Option S.ρ}(C:∀{R:Type},S.α->(S.ρ->Option R)->Option R)(K:List (FE X))(L:List (LE X S.f))(hn:∀{R:Type} x (k:S.ρ->Option R),C x k=(C x some).bind k)
  (hE:∀{R:Type} x (k:List Row->List Cell->Option R),bodyC X (kt K) (lt L) S.f (S.p.enc x.1) (S.q.enc x.2) k=C x (λr=>k (S.enc r).1 (S.enc r).2):=by intros;kernel_rfl)
  (hL:loops (codeOf X.P S.f)=L.map LE.c:=by kernel_rfl) (hd:apart (L.map LE.n)=true:=by kernel_rfl) (hp:X.Tz S.f=none:=by kernel_rfl) (ho:∀x,o x=C x some:=by intros;rfl):S.ok X o:=by
 intro x r h;rw[ho] at h;exact am6 hp (arM K) (arN hL hd) (by rw[hE,hn]) h
def eP.lim{X:Ctx}{S:eP}{o:Nat->S.α->Option S.ρ}(h:∀n,S.ok X (o n)):S.ok X λx=>Vm.lim λn=>o n x:=by intro x r hr;obtain⟨n,hn⟩:=Pq hr;exact h n x r hn
def eP.zero{X:Ctx}{S:eP}:S.ok X λ_=>none:=λ_ _ h=>by cases h
def eP.Jl{X:Ctx}{S:eP}{o:Nat->S.α->Option S.ρ}(h:∀n,S.ok X (o n))(hi:∀a b,S.enc a=S.enc b->a=b){x:S.α}{n:Nat}{r:S.ρ}(hr:o n x=some r):(Vm.lim λn=>o n x)=some r:=by
 refine Vm.Jl hr λm y hy=> ?_
 have h1:=h n x r hr;have h2:=h m x y hy;rw[h1] at h2;exact(hi _ _ (Option.some.inj h2)).symm
def eP.Tz{X:Ctx}{S:eP}{o:S.α->Option S.ρ}{p:List V->List Cell->Option (List Row×List Cell)}(h:∀x,p (S.p.enc x.1) (S.q.enc x.2)=(o x).map S.enc:=by intros;rfl)(hp:X.Tz S.f=some p:=by kernel_rfl):S.ok X o:=by intro x r hr;exact aek hp (by rw[h,hr];rfl)
def le{X:Ctx}{f:Nat}(n:Nat)(p:Pt St){σ:Type}(v:p.α->σ)(g:p.α->σ->p.α)(A:p.α->Alt (Ex×St))(C:∀{R:Type} (x:p.α),σ->(σ->Option R)->((A x).T->Option R)->Option R)(K:List (FE X))(L:List (LE X f))
  (hn:∀{R:Type} x s (kn:σ->Option R) (ke:(A x).T->Option R),C x s kn ke=(C x s (λs=>some (Sum.inl s)) (λt=>some (Sum.inr t))).bind λr=>match r with| .inl s=>kn s| .inr t=>ke t)
  (hE:∀{R:Type} x s (k:Ex->St->Option R),U1 X (kt K) (lt L) f (Rt X.P f n) (p.enc (g x s)) k=C x s (λs=>k .normal (p.enc (g x s))) (λt=>(A x).go t λr=>k r.1 r.2):=by intros;kernel_rfl)
  (hx:∀x t,((A x).enc t).1≠.normal:=by first|(intro x t h;cases h;done)|(intro x t;rcases t with t|t<;>first|(intro h;cases h;done)|(rcases t with t|t<;>first|(intro h;cases h;done)|(rcases t with t|t<;>(intro h;cases h)))))
  (hv:∀x,g x (v x)=x:=by first|(intros;rfl)|(rintro(_|_)<;>rfl))
  (hL:loops (Rt X.P f n)=L.map LE.c:=by kernel_rfl) (hd:apart (L.map LE.n)=true:=by kernel_rfl) (hi:lid (Rt X.P f n)=n:=by kernel_rfl):LE X f:=
 ⟨n,Rt X.P f n,λS=>match p.dec S with|some x=>some ⟨A x,eF (λs=>C x s (λs=>some (Sum.inl s)) (λt=>some (Sum.inr t))) (v x)⟩|none=>none,hi,by
  intro S q r hq hr;split at hq
  ·rename_i x hp;cases hq;obtain⟨t,ht,rfl⟩:=UZ.aaR hr;rw[p.ok _ _ hp];have h:=am7 (X:=X) (f:=f) (c:=Rt X.P f n) (K:=kt K) (L:=lt L) (tm:=λs=>p.enc (g x s)) (tx:=(A x).enc) (arM K) (arN hL hd) (λs=>by
    rw[hE,hn];congr 1;funext r;cases r
    ·rfl
    ·exact Alt.go_eq _ _ _) (hx x) ht
   rwa [hv] at h
  ·cases hq⟩
def nb:(∀(α β:Type) (c:Bool) (a b:Option α) (f:α->Option β),(bif c then a else b).bind f=bif c then a.bind f else b.bind f)∧(∀(α β γ:Type) (o:Option α) (g:α->Option β) (f:β->Option γ),(o.bind g).bind f=o.bind λx=>(g x).bind f)∧
  (∀(α β:Type) (a:α) (f:α->Option β),(some a).bind f=f a)∧(∀(α β:Type) (f:α->Option β),(none:Option α).bind f=none)∧
  (∀(α β γ:Type) (o:Option α) (n:Option β) (f:α->Option β) (g:β->Option γ),(als o n f).bind g=als o (n.bind g) λx=>(f x).bind g)∧
  (∀(α β γ δ:Type) (r:α⊕β) (f:α->Option γ) (g:β->Option γ) (k:γ->Option δ),(qR r f g).bind k=qR r (λx=>(f x).bind k) (λy=>(g y).bind k))∧
  (∀(α β γ:Type) (x:α) (f:α->Option β) (g:β->Option γ),(letE x f).bind g=letE x λy=>(f y).bind g):=
 ⟨λ_ _=>am8,λ_ _ _=>alq,λ_ _=>ah,λ_ _=>alr,λ_ _ _=>adh,λ_ _ _ _=>adi,λ_ _ _=>adk⟩
section
variable {α β ρ R:Type} {k:ρ->Option R}
def iw{c:Bool}{x y:Option R}{u v:Option ρ}(h1:x=u.bind k)(h2:y=v.bind k):(bif c then x else y)=(bif c then u else v).bind k:=by cases c<;>assumption
def Lh{o:Option α}{f:α->Option R}{g:α->Option ρ}(h:∀a,f a=(g a).bind k):o.bind f=(o.bind g).bind k:=by cases o with
 |none=>rfl
 |some a=>exact h a
def Lj{o:Option α}{n:Option R}{m:Option ρ}{f:α->Option R}{g:α->Option ρ}(h1:n=m.bind k)(h:∀a,f a=(g a).bind k):als o n f=(als o m g).bind k:=by rw[adh,h1,funext h]
def Ll{o:α⊕β}{f:α->Option R}{g:β->Option R}{f':α->Option ρ}{g':β->Option ρ}(h1:∀a,f a=(f' a).bind k)(h2:∀a,g a=(g' a).bind k):qR o f g=(qR o f' g').bind k:=by rw[adi,funext h1,funext h2]
def Lm{x:α}{f:α->Option R}{g:α->Option ρ}(h:∀a,f a=(g a).bind k):letE x f=(letE x g).bind k:=by rw[adk,funext h]
end
end
end Go.Vm
namespace Go.Vm
open Go
open Go.IntKind (i64)
def aC{n:Int}(h1: -9223372036854775808<=n)(h2:n<=9223372036854775807):i64.wrap n=n:=IntWalk.i64_in n ⟨h1,h2⟩
def ZQ{α β:Type}(f:α->β)(l:List α)(i:Int):idx (l.map f) i=(idx l i).map f:=by unfold idx;cases decide (0<=i)<;>simp
def bU{α:Type}(l:List α)(i:Nat):idx l (i:Int)=l[i]? :=by simp[idx]
structure Nd where
 kind:Int
 op:Int
 text:List UInt8
 other:List UInt8
 kids:List Int
 deriving DecidableEq,Inhabited
def encI(l:List Int):List Row:=l.map λk=>[.int .i64 k]
def encS(l:List (List UInt8)):List Row:=l.map λs=>[.str s]
def KN(o:Bool)(n:Nd):Row:=[.int .i64 n.kind,.int .i64 n.op,.str n.text,.str n.other,.sl o 1 (encI n.kids)]
def aQ(o:Bool)(l:List Nd):List Row:=l.map (KN o)
structure Tk where
 kind:Int
 text:List UInt8
 at_:Int
 deriving DecidableEq,Inhabited
def aaV(n:Tk):Row:=[.int .i64 n.kind,.str n.text,.int .i64 n.at_]
def jJ(l:List Tk):List Row:=l.map aaV
section
variable (o:Bool) (n:Nd) (l:List Nd) (k:List Int) (i:Int) (t:Tk) (ts:List Tk)
@[simp] theorem aU:(encI k).length=k.length:=by simp[encI]
@[simp] theorem dn:(aQ o l).length=l.length:=by simp[aQ]
@[simp] theorem fB:(jJ ts).length=ts.length:=by simp[jJ]
@[simp] theorem aaW:idx (encI k) i=(idx k i).map λk=>[D.int .i64 k]:=ZQ _ _ _
@[simp] theorem aww:idx (aQ o l) i=(idx l i).map (KN o):=ZQ _ _ _
@[simp] theorem awx:idx (jJ ts) i=(idx ts i).map aaV:=ZQ _ _ _
@[simp] theorem kU(j:Nat):(encI k)[j]? =(k[j]?).map λk=>[D.int .i64 k]:=by simp[encI]
@[simp] theorem jK(j:Nat):(aQ o l)[j]? =(l[j]?).map (KN o):=by simp[aQ]
@[simp] theorem awy(j:Nat):(jJ ts)[j]? =(ts[j]?).map aaV:=by simp[jJ]
@[simp] theorem Lp:fQ .i64 (KN o n) 0=some n.kind:=rfl
@[simp] theorem NR:fQ .i64 (KN o n) 1=some n.op:=rfl
@[simp] theorem NQ:cStr (KN o n) 2=some n.text:=rfl
@[simp] theorem NS:cStr (KN o n) 3=some n.other:=rfl
@[simp] theorem Jo:SK 1 (KN o n) 4=some (encI n.kids):=rfl
@[simp] theorem cT0:fQ .i64 (aaV t) 0=some t.kind:=rfl
@[simp] theorem cT1:cStr (aaV t) 1=some t.text:=rfl
@[simp] theorem cT2:fQ .i64 (aaV t) 2=some t.at_:=rfl
@[simp] theorem MI:fQ .i64 [D.int .i64 i] 0=some i:=rfl
@[simp] theorem aki:bJ (encI k)=encI k:=by
 induction k with
 |nil=>rfl
 |cons x l ih=>simp only[encI,TN,bJ] at ih⊢;rw[ih];rfl
@[simp] theorem aaX:bJ (aQ o l)=aQ false l:=by
 induction l with
 |nil=>rfl
 |cons x l ih=>simp only[aQ,TN,bJ] at ih⊢;rw[ih];simp[KN,uw,D.fz,aki]
@[simp] theorem aw2:bJ (jJ ts)=jJ ts:=by
 induction ts with
 |nil=>rfl
 |cons x l ih=>simp only[jJ,TN,bJ] at ih⊢;rw[ih];simp[aaV,uw,D.fz]
@[simp] theorem Bh:ay (encI k)=true:=by simp only[ay,encI,List.all_map,List.all_eq_true];intro x _;rfl
def anb(j:Nat):(encI k).set j [D.int .i64 i]=encI (k.set j i):=by simp[encI,List.map_set]
end
def I64(n:Int):Prop:= -9223372036854775808<=n∧n<=9223372036854775807
structure Fit(n:Nd):Prop where
 kind:I64 n.kind
 op:I64 n.op
 text:n.text.length<=maxLen
 other:n.other.length<=maxLen
 kids:n.kids.length<=maxLen
 kid:∀k,k∈n.kids->I64 k
structure aQO(n:Tk):Prop where
 kind:I64 n.kind
 text:n.text.length<=maxLen
 at_:I64 n.at_
def aaY{α ω τ:Type}(f:ω->α->ω⊕τ)(fin:ω->τ):List α->ω->τ
 |[],w=>fin w
 |x::l,w=>match f w x with
  | .inl w'=>aaY f fin l w'
  | .inr t=>t
def ajb{σ τ α ω:Type}(b:σ->Option (σ⊕τ))(l:List α)(st:Nat->ω->σ)(f:ω->α->ω⊕τ)(fin:ω->τ)(I:Nat->ω->Prop)
  (hstep:∀i x w,l[i]? =some x->I i w->b (st i w)=some (match f w x with| .inl w'=> .inl (st (i+1) w')| .inr t=> .inr t))
  (hI:∀i x w w',l[i]? =some x->I i w->f w x=.inl w'->I (i+1) w')
  (hend:∀w,I l.length w->b (st l.length w)=some (.inr (fin w))) (w:ω) (h0:I 0 w):eF b (st 0 w)=some (aaY f fin l w):=by
 have key:∀(t:List α) (i:Nat) (w:ω),l.drop i=t->i<=l.length->I i w->eF b (st i w)=some (aaY f fin t w):=by
  intro t;induction t with
  |nil=>
   intro i w hd hi hI';have:i=l.length:=by have:=congrArg List.length hd;simp at this;omega
   subst this;exact dP (hend w hI')
  |cons x t ih=>
   intro i w hd hi hI';have hx:l[i]? =some x:=by
    have:(l.drop i)[0]? =some x:=by rw[hd];rfl
    simpa using this
   have hlt:i<l.length:=(G9.1 hx).1;have hd':l.drop (i+1)=t:=by rw[<-List.drop_drop,hd];rfl
   have hs:=hstep i x w hx hI';simp only[aaY];cases hf:f w x with
   |inl w'=>rw[hf] at hs;rw[gQ hs];exact ih (i+1) w' hd' hlt (hI i x w w' hx hI' hf)
   |inr u=>rw[hf] at hs;exact dP hs
 exact key l 0 w rfl (Nat.zero_le _) h0
end Go.Vm
namespace Go.Vm
open Go
open Go.IntKind (i64)
section
variable {X:Ctx} {base:Nat} {U:Nat->Prop} {w w':World} {f:FuncId} {gargs iy:List Value} {N1 N2:List Nat} {P:Program}
def aaZ{args:List V}(hG:Given X base U w f args [] gargs iy N1 N2)(hm:∀i,i<args.length->BD X.G8 f i=0):
  iy=[]∧N1=[]∧N2=[]∧bF (impμ []) [] (view w U (· ∈([]:List Nat)++[])) args gargs:=by
 obtain⟨rfl,rfl⟩:=hG.cells;have key:∀(args:List V) (i:Nat) (gs:List Value) (N:List Nat) (hv:View),(∀j,i<=j->j<i+args.length->BD X.G8 f j=0)->LP X.G8 f (impμ []) (nZ 0 []) (bT w) hv i args gs N->N=[]∧bF (impμ []) [] hv args gs:=by
  intro args;induction args with
  |nil=>intro i gs N hv _ h;simp only[LP] at h;exact⟨h.2,by simpa[bF] using h.1⟩
  |cons a args ih=>intro i gs N hv hi h;simp only[LP,hi i (Nat.le_refl _) (by simp)] at h;obtain⟨g,gs',M1,M2,rfl,rfl,⟨rfl,hq⟩,hr⟩:=h;obtain⟨rfl,hs⟩:=ih (i+1) gs' M2 hv (λj h1 h2=>hi j (by omega) (by simp only[ng];omega)) hr;exact⟨rfl,by simp only[bF];exact⟨g,gs',rfl,hq,hs⟩⟩
 obtain⟨rfl,hs⟩:=key args 0 gargs N1 _ (λj _ hj=>hm j (by omega)) hG.args;exact⟨rfl,rfl,rfl,hs⟩
def ajc{μ:Nat->Value}{m:Mem}{h:View}{a b:List UInt8}(q:bF μ m h [.d (.str a),.d (.str b)] gargs):gargs=[.string ⟨⟨a⟩⟩,.string ⟨⟨b⟩⟩]:=by simp only[bF,aF,ro] at q;obtain⟨g,gs,rfl,rfl,g',gs',rfl,rfl,rfl⟩:=q;rfl
def Qk{t:TypeId}{x:D}{g:Value}(ht:Gj P t=false)(hx:∀H h,ow H h x g [])(hk:Keep [] w w'):Did P U w w' ([]++[]) [t] [] [] [] [[x]] [g] [] []:=by
 refine⟨hk,by simp,by simp,rfl,⟨rfl,rfl⟩, ?_⟩;simp only[N7];refine⟨_,_,_,_,[g],[],[],rfl,rfl,rfl, ?_, ?_,rfl,rfl,rfl,rfl⟩
 ·rw[valOf,if_neg (by rw[ht];simp)]
 ·simp only[fK];exact⟨_,_,[],[],rfl,rfl,hx _ _,rfl⟩
end
end Go.Vm
namespace Go.Vm
open Go
open Go.IntKind (i64)
inductive Tn where
 |mk (kind op:Int) (text other:List UInt8) (kids:List Tn)
mutual
def Tn.size:Tn->Nat
 | .mk _ _ _ _ ks=>sizes ks+1
def sizes:List Tn->Nat
 |[]=>0
 |t::ts=>t.size+sizes ts
end
def ends:List Tn->Nat->List Int
 |[],_=>[]
 |t::ts,b=>((b:Int)+t.size - 1)::ends ts (b+t.size)
mutual
def Tn.flat:Tn->Nat->List Nd
 | .mk k o x y ks,b=>jA ks b++[⟨k,o,x,y,ends ks b⟩]
def jA:List Tn->Nat->List Nd
 |[],_=>[]
 |t::ts,b=>t.flat b++jA ts (b+t.size)
end
mutual
def Tn.row(w:Bool):Tn->Row
 | .mk k o x y ks=>[.int .i64 k,.int .i64 o,.str x,.str y,.sl w 5 (gZ w ks)]
def gZ(w:Bool):List Tn->List Row
 |[]=>[]
 |t::ts=>t.row w::gZ w ts
end
mutual
def Tn.depth:Tn->Int
 | .mk _ _ _ _ ks=>depths 0 ks+1
def depths(a:Int):List Tn->Int
 |[]=>a
 |t::ts=>depths (bif decide (a<t.depth) then t.depth else a) ts
end
def Tn.kids:Tn->List Tn| .mk _ _ _ _ ks=>ks
def Tn.kind:Tn->Int| .mk k _ _ _ _=>k
def Tn.op:Tn->Int| .mk _ o _ _ _=>o
def Tn.text:Tn->List UInt8| .mk _ _ x _ _=>x
def Tn.other:Tn->List UInt8| .mk _ _ _ y _=>y
def Tn.ind{P:Tn->Prop}(h:∀k o x y ks,(∀t,t∈ks->P t)->P (.mk k o x y ks))(t:Tn):P t:=by
 refine Tn.rec (motive_1:=P) (motive_2:=λks=>∀t,t∈ks->P t) ?_ ?_ ?_ t
 ·intro k o x y ks ih;exact h k o x y ks ih
 ·intro t ht;cases ht
 ·intro t ts h1 h2 u hu;rcases List.mem_cons.1 hu with rfl|hu
  ·exact h1
  ·exact h2 u hu
def Tn.size_pos:∀t:Tn,1<=t.size
 | .mk _ _ _ _ ks=>by rw[Tn.size];omega
def Tn.vK(t:Tn):t.size=sizes t.kids+1:=by cases t;rfl
def mW:∀a b:List Tn,sizes (a++b)=sizes a+sizes b
 |[],b=>by simp[sizes]
 |t::a,b=>by rw[Uo,sizes,sizes,mW a b];omega
def lW:∀ks:List Tn,ks.length<=sizes ks
 |[]=>Nat.le_refl _
 |t::ts=>by have:=lW ts;have:=t.size_pos;rw[sizes,ng];omega
def kP:∀{ks:List Tn} {t:Tn},t∈ks->t.size<=sizes ks
 |u::ts,t,h=>by
  rw[sizes];rcases List.mem_cons.1 h with rfl|h
  ·omega
  ·have:=kP h;omega
def Bj:∀a:List Tn,sizes a.reverse=sizes a
 |[]=>rfl
 |t::a=>by rw[List.reverse_cons,mW,Bj a,sizes,sizes,sizes];omega
def gU:∀(ks:List Tn) (b:Nat),(ends ks b).length=ks.length
 |[],_=>rfl
 |t::ts,b=>by rw[ends,ng,gU ts,ng]
def Og:∀(a c:List Tn) (b:Nat),ends (a++c) b=ends a b++ends c (b+sizes a)
 |[],c,b=>by simp[ends,sizes]
 |t::a,c,b=>by rw[Uo,ends,ends,Og a c,sizes,Uo,Nat.add_assoc]
def Hw:∀(a c:List Tn) (b:Nat),jA (a++c) b=jA a b++jA c (b+sizes a)
 |[],c,b=>by simp[jA,sizes]
 |t::a,c,b=>by rw[Uo,jA,jA,Hw a c,sizes,Bf,Nat.add_assoc]
mutual
def Tn.flat_length:∀(t:Tn) (b:Nat),(t.flat b).length=t.size
 | .mk _ _ _ _ ks,b=>by rw[Tn.flat,Tn.size,qO,mX ks b];rfl
def mX:∀(ks:List Tn) (b:Nat),(jA ks b).length=sizes ks
 |[],_=>rfl
 |t::ts,b=>by rw[jA,sizes,qO,t.flat_length b,mX ts]
end
def anc{ks:List Tn}{b j:Nat}(h:j<ks.length):(ends ks b)[j]? =some ((b:Int)+sizes (ks.take (j+1)) - 1):=by
 induction ks generalizing b j with
 |nil=>simp at h
 |cons t ts ih=>
  cases j with
  |zero=>simp[ends,sizes]
  |succ j=>simp only[ng,Nat.add_lt_add_iff_right] at h;rw[ends,List.getElem?_cons_succ,ih h,List.take_succ_cons,sizes];congr 1;omega
def Nd.up(d:Int)(n:Nd):Nd:={n with kids:=n.kids.map (· +d)}
def akj:∀(ks:List Tn) (b c:Nat),ends ks c=(ends ks b).map (· +((c:Int) - b))
 |[],_,_=>rfl
 |t::ts,b,c=>by
  rw[ends,ends,TN,akj ts (b+t.size) (c+t.size)];have e:(((c+t.size:Nat):Int) - ((b+t.size:Nat):Int))=(c:Int) - b:=by omega
  rw[e];congr 1;omega
mutual
def Tn.aex:∀(t:Tn) (b c:Nat),t.flat c=(t.flat b).map (Nd.up ((c:Int) - b))
 | .mk k o x y ks,b,c=>by rw[Tn.flat,Tn.flat,List.map_append,afH ks b c,akj ks b c];rfl
def afH:∀(ks:List Tn) (b c:Nat),jA ks c=(jA ks b).map (Nd.up ((c:Int) - b))
 |[],_,_=>rfl
 |t::ts,b,c=>by
  rw[jA,jA,List.map_append,t.aex b c,afH ts (b+t.size) (c+t.size)];have e:(((c+t.size:Nat):Int) - ((b+t.size:Nat):Int))=(c:Int) - b:=by omega
  rw[e]
end
def Lies(l:List Nd)(b:Nat)(t:Tn):Prop:=∃pre post,l=pre++(t.flat b++post)∧pre.length=b
def Lies.whole(t:Tn):Lies (t.flat 0) 0 t:=⟨[],[],by simp,rfl⟩
def Lies.root{l:List Nd}{b:Nat}{k o:Int}{x y:List UInt8}{ks:List Tn}(h:Lies l b (.mk k o x y ks)):l[b+sizes ks]? =some ⟨k,o,x,y,ends ks b⟩:=by obtain⟨pre,post,rfl,rfl⟩:=h;rw[Tn.flat,List.getElem?_append_right (by omega),Bf,List.getElem?_append_right (by rw[mX];omega),mX];simp
def Lies.kid{l:List Nd}{b:Nat}{k o:Int}{x y:List UInt8}{a c:List Tn}{t:Tn}(h:Lies l b (.mk k o x y (a++t::c))):Lies l (b+sizes a) t:=by obtain⟨pre,post,rfl,rfl⟩:=h;refine⟨pre++jA a pre.length,jA c (pre.length+sizes a+t.size)++[⟨k,o,x,y,ends (a++t::c) pre.length⟩]++post, ?_,by rw[qO,mX]⟩;rw[Tn.flat,Hw,jA];simp only[Bf]
def Lies.lt{l:List Nd}{b:Nat}{t:Tn}(h:Lies l b t):b+t.size<=l.length:=by obtain⟨pre,post,rfl,rfl⟩:=h;simp only[qO,t.flat_length];omega
def Lies.part{l:List Nd}{b:Nat}{t:Tn}(h:Lies l b t):(l.drop b).take t.size=t.flat b:=by obtain⟨pre,post,rfl,rfl⟩:=h;rw[List.drop_left,<-t.flat_length pre.length,List.take_left]
def dH(st:List Int):List Int->Int->Option Int
 |[],at_=>some at_
 |k::ks,at_=>if at_<0∨k≠at_ then none else dH st ks ((st[k.toNat]?.getD 0) - 1)
def dR:List Int->List (List Int)->Option (List Int)
 |st,[]=>some st
 |st,n::l=>match dH st n.reverse ((st.length:Int) - 1) with
  |none=>none
  |some at_=>dR (st++[at_+1]) l
def mM(l:List (List Int)):Option (List Int):=if 1<=l.length∧l.length<=400 then dR [] l else none
def ks(l:List Nd):List (List Int):=l.map (·.kids)
def Dt(l:List Nd):Bool:=match mM (ks l) with
 |none=>false
 |some st=>st[l.length - 1]?.getD 0==0
def GR(l:List Nd):(ks l).length=l.length:=by simp[ks]
def alu(a b:List Nd):ks (a++b)=ks a++ks b:=by simp[ks]
def MZ(st:List Int):List Tn->Prop
 |[]=>True
 |t::ts=>st[sizes (t::ts) - 1]? =some (sizes ts:Int)∧MZ st ts
def adl{st u:List Int}:∀{ts:List Tn},sizes ts<=st.length->(MZ (st++u) ts↔MZ st ts)
 |[],_=>Iff.rfl
 |t::ts,h=>by
  have hp:=t.size_pos;have h1:sizes ts<=st.length:=by rw[sizes] at h;omega
  rw[MZ,MZ,adl h1,List.getElem?_append_left (by rw[sizes] at h⊢;omega)]
def aa0{st:List Int}:∀{ks:List Int} {ts:List Tn} {a:Int},MZ st ts->dH st ks ((sizes ts:Int) - 1)=some a->
  ∃u v,ts=u++v∧ks.reverse=ends u.reverse (sizes v)∧a=(sizes v:Int) - 1
 |[],ts,a,_,h=>by rw[dH] at h;cases h;exact⟨[],ts,rfl,rfl,rfl⟩
 |k::ks,[],a,_,h=>by rw[dH,if_pos (.inl (by simp[sizes]))] at h;cases h
 |k::ks,t::ts,a,hr,h=>by
  have hp:=t.size_pos;have hs:sizes (t::ts)=t.size+sizes ts:=by rw[sizes]
  rw[dH] at h;split at h
  ·cases h
  ·rename_i hc;have hk:k=(sizes (t::ts):Int) - 1:=by omega
   have hk':k.toNat=sizes (t::ts) - 1:=by omega
   rw[hk',hr.1,Option.getD_some] at h;obtain⟨u,v,rfl,h1,h2⟩:=aa0 hr.2 h;refine⟨t::u,v,rfl, ?_,h2⟩;rw[List.reverse_cons,List.reverse_cons,h1,Og,Bj,hk,hs,mW,ends,ends];congr 2;omega
def aa1{st:List Int}:∀{u v:List Tn},MZ st (u++v)->MZ st v
 |[],_,h=>h
 |_::u,_,h=>aa1 (u:=u) h.2
def Ws:∀(l pre:List Nd) (st r:List Int) (ts:List Tn),pre=jA ts.reverse 0->st.length=pre.length->MZ st ts->dR st (ks l)=some r->
  ∃us,pre++l=jA us.reverse 0∧r.length=(pre++l).length∧MZ r us
 |[],pre,st,r,ts,h1,h2,h3,h=>by rw[show ks []=[] from rfl,dR] at h;cases h;exact⟨ts,by simpa using h1,by simpa using h2,h3⟩
 |n::l,pre,st,r,ts,h1,h2,h3,h=>by
  have hk:ks (n::l)=n.kids::ks l:=rfl;have hpl:pre.length=sizes ts:=by rw[h1,mX,Bj]
  rw[hk,dR] at h;split at h
  ·cases h
  ·rename_i a ha;rw[h2,hpl] at ha;obtain⟨u,v,rfl,hu,rfl⟩:=aa0 h3 ha;rw[List.reverse_reverse] at hu;have hz:sizes (Tn.mk n.kind n.op n.text n.other u.reverse::v)=sizes u+1+sizes v:=by rw[sizes,Tn.size,Bj]
   have:=Ws l (pre++[n]) (st++[(sizes v:Int) - 1+1]) r (Tn.mk n.kind n.op n.text n.other u.reverse::v) (by
    rw[h1,List.reverse_append,List.reverse_cons,Hw,Hw,jA,jA,Tn.flat,List.append_nil,Bf,Bj,Nat.zero_add,<-hu]) (by simp[h2]) (by
    refine⟨?_, ?_⟩
    ·rw[hz,List.getElem?_append_right (by rw[h2,hpl,mW];omega),h2,hpl,mW];rw[show sizes u+1+sizes v - 1 - (sizes u+sizes v)=0 by omega];simp
    ·rw[adl (by rw[h2,hpl,mW];omega)];exact aa1 h3) h
   obtain⟨us,k1,k2,k3⟩:=this;exact⟨us,by simpa using k1,by simpa using k2,k3⟩
def ajd{l:List Nd}(h:Dt l=true):∃t:Tn,l=t.flat 0∧t.size<=400:=by
 unfold Dt at h;cases hs:mM (ks l) with
 |none=>rw[hs] at h;cases h
 |some r=>
  rw[hs] at h;unfold mM at hs;split at hs
  ·rename_i hq;rw[GR] at hq;obtain⟨us,k1,k2,k3⟩:=Ws l [] [] r [] rfl rfl trivial hs;simp only[List.nil_append] at k1 k2;have hl:l.length=sizes us:=by rw[k1,mX,Bj]
   cases us with
   |nil=>rw[sizes] at hl;omega
   |cons t ts=>
    rw[MZ,<-hl] at k3;simp only[k3.1,Option.getD_some,beq_iff_eq] at h;have:ts=[]:=by
     cases ts with
     |nil=>rfl
     |cons u us=>have:=u.size_pos;rw[sizes] at h;omega
    subst this;refine⟨t,by simpa[jA] using k1, ?_⟩;rw[sizes,sizes] at hl;omega
  ·cases hs
mutual
def Tn.Zg:Tn->Nat->List Int
 | .mk _ _ _ _ ks,b=>NT ks b++[(b:Int)]
def NT:List Tn->Nat->List Int
 |[],_=>[]
 |t::ts,b=>t.Zg b++NT ts (b+t.size)
end
mutual
def Tn.aa2:∀(t:Tn) (b:Nat),(t.Zg b).length=t.size
 | .mk _ _ _ _ ks,b=>by rw[Tn.Zg,Tn.size,qO,KO ks b];rfl
def KO:∀(ks:List Tn) (b:Nat),(NT ks b).length=sizes ks
 |[],_=>rfl
 |t::ts,b=>by rw[NT,sizes,qO,t.aa2 b,KO ts]
end
def Tn.Wu:∀(t:Tn) (b:Nat),∃u,t.Zg b=u++[(b:Int)]∧u.length=t.size - 1
 | .mk _ _ _ _ ks,b=>⟨NT ks b,by rw[Tn.Zg],by rw[KO,Tn.size];omega⟩
def alv{st:List Int}{b:Nat}(hb:st.length=b):∀(ks:List Tn) (u:List Int),dH (st++NT ks b++u) (ends ks b).reverse ((b:Int)+sizes ks - 1)=some ((b:Int) - 1):=by
 intro ks;induction hn:ks.length generalizing ks with
 |zero=>intro u;have:ks=[]:=List.length_eq_zero_iff.1 hn;subst this;simp[ends,dH,sizes]
 |succ n ih=>
  intro u;obtain⟨ts,t,rfl⟩:∃ts t,ks=ts++[t]:=by
   have hne:ks≠[]:=by intro e;simp[e] at hn
   exact⟨ks.dropLast,ks.getLast hne,(List.dropLast_concat_getLast hne).symm⟩
  have hp:=t.size_pos;have hss:NT (ts++[t]) b=NT ts b++t.Zg (b+sizes ts):=by
   have:∀(ts:List Tn) (b:Nat),NT (ts++[t]) b=NT ts b++t.Zg (b+sizes ts):=by
    intro ts;induction ts with
    |nil=>intro b;simp[NT,sizes]
    |cons v vs ihv=>intro b;rw[Uo,NT,NT,ihv,sizes,Bf,Nat.add_assoc]
   exact this ts b
  have hsz:sizes (ts++[t])=sizes ts+t.size:=by rw[mW,sizes,sizes];omega
  rw[Og,List.reverse_append,ends,ends,List.reverse_singleton,List.singleton_append,dH,hsz];have hn':¬((b:Int)+((sizes ts+t.size:Nat):Int) - 1<0∨((b+sizes ts:Nat):Int)+t.size - 1≠(b:Int)+((sizes ts+t.size:Nat):Int) - 1):=by omega
  rw[if_neg hn'];obtain⟨w,hw,hwl⟩:=t.Wu (b+sizes ts);have hget:(st++NT (ts++[t]) b++u)[(((b+sizes ts:Nat):Int)+t.size - 1).toNat]? =some ((b+sizes ts:Nat):Int):=by
   rw[hss,hw];have e:(((b+sizes ts:Nat):Int)+t.size - 1).toNat=(st++NT ts b++w).length:=by simp only[qO,hb,KO,hwl];omega
   rw[e,show st++(NT ts b++(w++[((b+sizes ts:Nat):Int)]))++u=(st++NT ts b++w)++(((b+sizes ts:Nat):Int)::u) by simp,List.getElem?_append_right (Nat.le_refl _)];simp
  rw[hget,Option.getD_some,hss,show st++(NT ts b++t.Zg (b+sizes ts))++u=st++NT ts b++(t.Zg (b+sizes ts)++u) by simp];have:=ih ts (by simpa using hn) (t.Zg (b+sizes ts)++u);rw[<-this];congr 1
mutual
def Tn.Ru:∀(t:Tn) (st:List Int) (l:List Nd),dR st (ks (t.flat st.length++l))=dR (st++t.Zg st.length) (ks l)
 | .mk k o x y us,st,l=>by rw[Tn.flat,Bf,Wv us st];have e:ks ([⟨k,o,x,y,ends us st.length⟩]++l)=ends us st.length::ks l:=rfl;have hw:=alv (st:=st) rfl us [];rw[List.append_nil] at hw;rw[e,dR,qO,KO,Int.natCast_add,hw,Tn.Zg];simp only;rw[Bf];congr 3;simp
def Wv:∀(us:List Tn) (st:List Int) (l:List Nd),dR st (ks (jA us st.length++l))=dR (st++NT us st.length) (ks l)
 |[],st,l=>by simp[jA,NT]
 |t::us,st,l=>by rw[jA,Bf,t.Ru st];have:=Wv us (st++t.Zg st.length) l;rw[qO,t.aa2] at this;rw[this,NT,Bf]
end
def Oh(t:Tn):dR [] (ks (t.flat 0))=some (t.Zg 0):=by have:=t.Ru [] [];simpa[ks,dR] using this
def Lies.Zg{l:List Nd}{t:Tn}(hl:l=t.flat 0){b:Nat}{u:Tn}(h:Lies l b u):(t.Zg 0)[b+u.size - 1]? =some (b:Int):=by
 obtain⟨pre,post,e,hb⟩:=h;have h0:=Oh t;rw[<-hl,e,alu] at h0;have key:∀(a c:List (List Int)) (st r:List Int),dR st (a++c)=some r->∃m,dR st a=some m∧dR m c=some r∧m.length=st.length+a.length:=by
  intro a;induction a with
  |nil=>intro c st r h;exact⟨st,rfl,h,by simp⟩
  |cons x a ih=>
   intro c st r h;rw[Uo,dR] at h;rw[dR];split at h
   ·cases h
   ·obtain⟨m,k1,k2,k3⟩:=ih c _ r h;exact⟨m,k1,k2,by rw[k3];simp;omega⟩
 obtain⟨m,k1,k2,k3⟩:=key _ _ _ _ h0;have hm:m.length=b:=by rw[k3,GR,hb];simp
 subst hm;rw[u.Ru m post] at k2;have pref:∀(a:List (List Int)) (st r:List Int),dR st a=some r->∃w,r=st++w:=by
  intro a;induction a with
  |nil=>intro st r h;cases h;exact⟨[],by simp⟩
  |cons x a ih=>
   intro st r h;rw[dR] at h;split at h
   ·cases h
   ·obtain⟨w,hw⟩:=ih _ r h;exact⟨_,by rw[hw,Bf]⟩
 obtain⟨w,hw⟩:=pref _ _ _ k2;obtain⟨v,hv,hvl⟩:=u.Wu m.length;have hp:=u.size_pos;rw[hw,hv,show m++(v++[(m.length:Int)])++w=(m++v)++((m.length:Int)::w) by simp,show m.length+u.size - 1=(m++v).length by rw[qO,hvl];omega,List.getElem?_append_right (Nat.le_refl _)];simp
def MJ(w:Bool):∀ts:List Tn,gZ w ts=ts.map (Tn.row w)
 |[]=>rfl
 |t::ts=>by rw[gZ,MJ w ts];rfl
mutual
def asU(w:Bool):∀t:Tn,uw (t.row w)=t.row false
 | .mk k o x y ts=>by have:=Wx w ts;simp only[Tn.row,uw,D.fz,this]
def Wx(w:Bool):∀ts:List Tn,bJ (gZ w ts)=gZ false ts
 |[]=>rfl
 |t::ts=>by rw[gZ,bJ,asU w t,Wx w ts,gZ]
end
end Go.Vm
namespace Go.Vm
open Go
open Go.IntKind (i64)
mutual
def YR(P:Program):Nat->TypeId->Row->Prop
 |0,_,_=>False
 |n+1,t,row=>match P.underlying t with
  |some .bool=>∃b,row=[.bool b]
  |some (.int k)=>∃x,row=[.int k x]∧(Lit.int k x).wf=true
  |some .string=>∃s,row=[.str s]∧s.length<=maxLen
  |some (.slice e)=>∃rows,row=[.sl false (kK P e) rows]∧rows.length<=maxLen∧∀r,r∈rows->YR P n e r
  |some (.struct fs)=>aa3 P n fs.toList row
  |_=>False
def aa3(P:Program):Nat->List Field->Row->Prop
 |_,[],row=>row=[]
 |n,f::fs,row=>∃r1 r2,row=r1++r2∧YR P n f.type r1∧aa3 P n fs r2
end
def Xy(P:Program):Nat->List Field->Option Nat
 |o,[]=>some o
 |o,f::fs=>bif Nat.beq f.offset o then Xy P (o+P.cellsOf f.type) fs else none
def YS(P:Program):Nat->TypeId->Bool
 |0,_=>false
 |n+1,t=>match P.underlying t with
  |some .bool|some (.int _)|some .string=>true
  |some (.slice e)=>YS P n e && Nat.ble 1 (kK P e)
  |some (.struct fs)=>(match Xy P 0 fs.toList with|some o=>Nat.beq o (P.cellsOf t)|none=>false) && fs.toList.all λf=>YS P n f.type
  |_=>false
def alx(P:Program)(t:TypeId):kK P t=P.cellsOf t:=by unfold kK Program.cellsOf;cases P.info? t<;>rfl
def aa4{α β:Type}{f:α->Option β}:∀{l:List α} {r:List β},l.mapM f=some r->r.length=l.length∧∀(i:Nat) x,l[i]? =some x->∃y,f x=some y∧r[i]? =some y
 |[],r,h=>by simp at h;subst h;exact⟨rfl,λi x h=>by simp at h⟩
 |a::l,r,h=>by
  rw[List.mapM_cons] at h;simp only[Option.bind_eq_bind,Option.bind_eq_some_iff,Option.pure_def,eX] at h;obtain⟨y,h1,r',h2,rfl⟩:=h;obtain⟨h3,h4⟩:=aa4 h2;refine⟨by simp[h3],λi x hx=> ?_⟩;cases i with
  |zero=>simp only[List.getElem?_cons_zero,eX] at hx;subst hx;exact⟨y,h1,rfl⟩
  |succ i=>simpa using h4 i x (by simpa using hx)
def akk{α:Type}{p:Nat->α->Prop}:∀(n k:Nat),(∀i,i<n->∃x,p (k+i) x)->∃l:List α,l.length=n∧∀(i:Nat) x,l[i]? =some x->p (k+i) x
 |0,_,_=>⟨[],rfl,λi x h=>by simp at h⟩
 |n+1,k,h=>by
  obtain⟨x,hx⟩:=h 0 (by omega);obtain⟨l,h1,h2⟩:=akk n (k+1) (λi hi=>by
   have:=h (i+1) (by omega)
   rwa [show k+(i+1)=k+1+i by omega] at this)
  refine⟨x::l,by simp[h1],λi y hy=> ?_⟩;cases i with
  |zero=>simp only[List.getElem?_cons_zero,eX] at hy;subst hy;exact hx
  |succ i=>
   have:=h2 i y (by simpa using hy)
   rwa [show k+1+i=k+(i+1) by omega] at this
def afI{h:View}:∀(r:Row) (b o:Nat) (cs:List Value),(∀(j:Nat) v,cs[j]? =some v->h b (o+j)=some v)->fU h r cs->su h r b o
 |[],_,_,_,_,_=>trivial
 |x::r,b,o,cs,hc,⟨v,cs',e,h1,h2⟩=>by
  subst e;exact⟨⟨v,by simpa using hc 0 v rfl,h1⟩,afI r b (o+1) cs' (λj u hj=>by
   have:=hc (j+1) u (by simpa using hj)
   rwa [show o+(j+1)=o+1+j by omega] at this) h2⟩
def adn{h:View}{s b:Nat}:∀(rs:List Row) (o:Nat),(∀(i:Nat) r,rs[i]? =some r->r.length=s∧su h r b (o+i * s))->lM h s rs b o
 |[],_,_=>trivial
 |r::rs,o,hr=>by
  obtain⟨h1,h2⟩:=hr 0 r rfl;refine⟨h1,by simpa using h2,adn rs (o+s) λi q hq=> ?_⟩;obtain⟨h3,h4⟩:=hr (i+1) q (by simpa using hq);refine⟨h3, ?_⟩
  rwa [show o+(i+1) * s=o+s+i * s by rw[Nat.succ_mul];omega] at h4
def YT{h:View}:∀{r1 r2:Row} {c1 c2:List Value},fU h r1 c1->r1.length=c1.length->fU h r2 c2->fU h (r1++r2) (c1++c2)
 |[],r2,c1,c2,_,hl,h2=>by have:c1=[]:=List.length_eq_zero_iff.1 hl.symm;subst this;exact h2
 |x::r1,r2,_,c2,⟨v,cs',e,h1,h3⟩,hl,h2=>by subst e;exact⟨v,cs'++c2,rfl,h1,YT h3 (by simpa using hl) h2⟩
def aa5{w:World}{base:Nat}{a:Addr}{n:Nat}{cs:List Value}(h:w.cells? base a n=some cs):cs.length=n∧∀j,j<n->∃v,w.cell? (a.add j)=some v∧cs[j]? =some v:=by
 unfold World.cells? at h;split at h
 ·obtain⟨h1,h2⟩:=aa4 h;rw[List.length_range] at h1;refine⟨h1,λj hj=> ?_⟩;exact h2 j j (by simp[hj])
 ·cases h
section
variable {H:Type} {enc:TypeId×Value->H} {P:Program} {w:World} {base:Nat} {spare:Nat->Bool} {held:Bool}
def ado{n:Nat}(ih:∀(t:TypeId) (cs:List Value) (d:DataW H) (ps:List MemPlace),YS P n t=true->DataW.trod enc P w base spare held n t cs=some (d,ps)->∃row:Row,row.length=cs.length∧YR P n t row∧fU (full w) row cs):
  ∀(fs:List Field) (o tot:Nat) (cs:List Value) (xs:List (DataW H×List MemPlace)),Xy P o fs=some tot->(fs.all λf=>YS P n f.type)=true->tot<=cs.length->
   fs.mapM (λf=>DataW.trod enc P w base spare held n f.type ((cs.drop f.offset).take (P.cellsOf f.type)))=some xs->
   ∃row:Row,row.length=tot - o∧o<=tot∧aa3 P n fs row∧fU (full w) row ((cs.drop o).take (tot - o))
 |[],o,tot,cs,xs,hc,_,_,_=>by simp only[Xy,eX] at hc;subst hc;exact⟨[],by simp,Nat.le_refl _,by simp[aa3],trivial⟩
 |f::fs,o,tot,cs,xs,hc,hg,hle,hm=>by
  simp only[Xy] at hc;cases hb:Nat.beq f.offset o with
  |false=>simp[hb] at hc
  |true=>
   simp only[hb,aT] at hc;have hbo:=uY hb;simp only[List.all_cons,zq] at hg;rw[List.mapM_cons] at hm;simp only[Option.bind_eq_bind,Option.bind_eq_some_iff,Option.pure_def,eX] at hm;obtain⟨y,h1,ys,h2,rfl⟩:=hm;obtain⟨aw3,l2,le2,t2,s2⟩:=ado ih fs _ tot cs ys hc hg.2 hle h2;obtain⟨aw4,l1,t1,s1⟩:=ih _ _ y.1 y.2 hg.1 h1;rw[hbo] at l1 s1;have hl:((cs.drop o).take (P.cellsOf f.type)).length=P.cellsOf f.type:=by simp;omega
   rw[hl] at l1;refine⟨aw4++aw3,by simp[l1,l2];omega,by omega,by simp only[aa3];exact⟨aw4,aw3,rfl,t1,t2⟩, ?_⟩;have e:(cs.drop o).take (tot - o)=(cs.drop o).take (P.cellsOf f.type)++(cs.drop (o+P.cellsOf f.type)).take (tot - (o+P.cellsOf f.type)):=by rw[<-List.drop_drop,show tot - o=P.cellsOf f.type+(tot - (o+P.cellsOf f.type)) by omega,List.take_add]
   rw[e];exact YT s1 (by rw[l1,hl]) s2
def aey:∀(n:Nat) (t:TypeId) (cs:List Value) (d:DataW H) (ps:List MemPlace),YS P n t=true->DataW.trod enc P w base spare held n t cs=some (d,ps)->
  ∃row:Row,row.length=cs.length∧YR P n t row∧fU (full w) row cs
 |0,t,cs,d,ps,hg,_=>by simp[YS] at hg
 |n+1,t,cs,d,ps,hg,h=>by
  simp only[YS] at hg;unfold DataW.trod at h;cases hu:P.underlying t with
  |none=>simp[hu] at hg
  |some D=>
   rw[hu] at hg h;cases D with
   |bool=>split at h<;>simp_all;rename_i b;exact⟨[.bool b],by simp,by simp[YR,hu],_,_,rfl,rfl,trivial⟩
   |int k=>split at h<;>simp_all;rename_i k' x _;obtain⟨⟨rfl,hw⟩,_⟩:=h;refine⟨[.int _ x],by simp, ?_,_,_,rfl,rfl,trivial⟩;simp only[YR,hu];exact⟨x,rfl,hw⟩
   |string=>
    split at h<;>simp_all;rename_i s;refine⟨[.str s.data.toList],by simp, ?_,_,_,rfl, ?_,trivial⟩
    ·simp only[YR,hu];refine⟨_,rfl, ?_⟩;simpa using h.1
    ·simp[ro]
   |slice e=>
    simp only[zq] at hg;split at h
    all_goals first
     |(rename_i e1;cases e1;done)
     |(cases h;done)
     |(exfalso;rename_i h21 _ _ _ _ _ _ _ _ _ _ _ _ _ _ _ _ _ _ _;exact h21 _ rfl)
     |skip
    case h_7=>
     rename_i e1;refine⟨[.sl false (kK P e) []],rfl, ?_,_,_,rfl, ?_,trivial⟩
     ·simp only[YR,hu];exact⟨[],rfl,by simp,λr hr=>by simp at hr⟩
     ·simp only[ro];exact⟨none,0,rfl,by simp,λhn=>absurd rfl hn⟩
    case h_8=>
     rename_i _ e' a len cap e1;cases e1;split at h
     ·rename_i hb;rw[Option.bind_eq_some_iff] at h;obtain⟨elems,hel,_⟩:=h;obtain⟨hl,hget⟩:=aa4 hel;rw[List.length_range] at hl;have hs:=alx P e;have hpos:1<=P.cellsOf e:=by rw[<-hs];exact Nat.le_of_ble_eq_true hg.2
      have hrow:∀i,i<len->∃r:Row,YR P n e r∧r.length=kK P e∧a.spot=none∧su (full w) r a.block (a.off+i * kK P e):=by
       intro i hi;obtain⟨y,hy,_⟩:=hget i i (by simp[hi]);rw[Option.bind_eq_some_iff] at hy;obtain⟨cs,hcs,hy⟩:=hy;obtain⟨row,l1,t1,s1⟩:=aey n e cs y.1 y.2 hg.1 hy;obtain⟨hcl,hcg⟩:=aa5 hcs;refine⟨row,t1,by rw[l1,hcl,hs], ?_, ?_⟩
       ·obtain⟨y0,hy0,_⟩:=hget 0 0 (List.getElem?_range (by omega));rw[Option.bind_eq_some_iff] at hy0;obtain⟨cs0,hcs0,_⟩:=hy0;obtain⟨u,hu1,_⟩:=(aa5 hcs0).2 0 (by omega);simpa[Addr.add] using World.cell?_spot hu1
       ·refine afI row a.block _ cs (λj v hj=> ?_) s1;have hjn:j<P.cellsOf e:=by have:=(G9.1 hj).1;omega
        obtain⟨u,hu1,hu2⟩:=hcg j hjn;rw[hu2] at hj;cases hj;have hsp:=World.cell?_spot hu1;have e2:((a.add (i * P.cellsOf e)).add j)=⟨a.block,a.off+i * kK P e+j,none⟩:=by
         rw[hs];generalize i * P.cellsOf e=q at hsp⊢;obtain⟨ab,ao,as_⟩:=a;rcases Nat.eq_zero_or_pos q with h1|h1<;>rcases Nat.eq_zero_or_pos j with h2|h2
         ·subst h1;subst h2;have:as_=none:=hsp;subst this;rfl
         ·subst h1;simp[Addr.add,show j≠0 by omega]
         ·subst h2;simp[Addr.add,show q≠0 by omega]
         ·simp[Addr.add,show q≠0 by omega,show j≠0 by omega]
        rw[e2] at hu1;exact hu1
      obtain⟨rows,r1,r2⟩:=akk (p:=λi (r:Row)=>YR P n e r∧r.length=kK P e∧a.spot=none∧su (full w) r a.block (a.off+i * kK P e)) len 0 (λi hi=>by rw[Nat.zero_add];exact hrow i hi);refine⟨[.sl false (kK P e) rows],rfl, ?_,_,_,rfl, ?_,trivial⟩
      ·simp only[YR,hu];refine⟨rows,rfl,by omega,λr hr=> ?_⟩;obtain⟨i,hi⟩:=List.getElem?_of_mem hr;exact(r2 i r hi).1
      ·simp only[ro];refine⟨some a,cap,by rw[r1],by omega,λhn=> ?_⟩;have h0:∃r0,rows[0]? =some r0:=by
        cases rows with
        |nil=>exact absurd rfl hn
        |cons r0 _=>exact⟨r0,rfl⟩
       obtain⟨r0,h0⟩:=h0;have hsp:=(r2 0 r0 h0).2.2.1;refine⟨a.block,a.off, ?_,adn rows a.off λi r hr=> ?_⟩
       ·obtain⟨ab,ao,as_⟩:=a;simp only at hsp;subst hsp;rfl
       ·obtain⟨_,h2,_,h4⟩:=r2 i r hr;rw[Nat.zero_add] at h4;exact⟨h2,h4⟩
     ·cases h
   |struct fs=>
    simp only[zq] at hg;split at h
    all_goals first
     |(rename_i e1;cases e1;done)
     |(cases h;done)
     |(exfalso;rename_i h21 _ _ _ _ _ _ _ _ _ _ _ _ _ _ _ _ _ _ _;exact h21 _ rfl)
     |skip
    case h_9=>
     rename_i _ fs' cs' e1;cases e1;split at h
     ·rename_i hcl;rw[Option.map_eq_some_iff] at h;obtain⟨xs,hxs,_⟩:=h;cases hc:Xy P 0 fs.toList with
      |none=>simp[hc] at hg
      |some tot=>simp only[hc] at hg;have htot:=uY hg.1;obtain⟨row,l1,_,t1,s1⟩:=ado (λt cs d ps hg h=>aey n t cs d ps hg h) fs.toList 0 tot _ xs hc hg.2 (by omega) hxs;refine⟨row,by rw[l1];omega,by simp only[YR,hu];exact t1, ?_⟩;simpa[htot,<-hcl] using s1
     ·cases h
   |_=>simp at hg
end
end Go.Vm
namespace Go.Vm
open Go Go.RowKit
open Go.IntKind (i64)
def adp{A:Adv}{f:Nat}(hm:A.move f=[]){μ:Nat->Value}{m:Mem}{H:Heap}{h:View}:∀{vs:List V} {gs:List Value} (i:Nat),bF μ m h vs gs->LP A f μ m H h i vs gs []
 |[],gs,i,q=>by simp only[bF] at q;simp only[LP];exact⟨q,trivial⟩
 |v::vs,gs,i,q=>by
  simp only[bF] at q;obtain⟨g,gs',rfl,h1,h2⟩:=q;simp only[LP];refine⟨g,gs',[],[],rfl,rfl, ?_,adp hm (i+1) h2⟩;split
  ·rename_i hmo;simp only[BD,hm,mem?,cu] at hmo;cases hr:mem? i (A.ref f)<;>cases hr2:mem? i (A.raw f)<;>cases hr3:mem? i (A.look f)<;>simp[hr,hr2,hr3] at hmo
  ·exact⟨rfl,h1⟩
def aly{X:Ctx}(hp:aeg X){f:Nat}{fn:Func}{t:TypeId}{args:List V}{gargs:List Value}{w:World}(hf:X.P.funcs[f]? =some fn)(hb:fn.body.isSome=true)(hr:fn.resultTypes=#[t])(ht:Gj X.P t=false)(hm:X.G8.move f=[])(hgl:VQ X (full w))(htb:aiR X w)
  (hs:bF (impμ []) [] (full w) args gargs) (h:call X f args []=some ([[.bool true]],[])):
  Calls X.P f gargs.toArray w λe w'=>e=.returned (.bool true)∧Below w.heap.size w w':=by
 have hG:Given X 0 (λ_=>True) w f args [] gargs [] [] []:=by
  have hv:(full w).le (view w (λ_=>True) (· ∈([]:List Nat)++[])):=by intro b o v h;exact ZJ trivial (by simp) h
  refine⟨by simp,by simp,λ_ _=>trivial,Nat.zero_le _, ?_,⟨rfl,rfl⟩,Dn hv hgl,htb⟩;exact O4 (og _ _) hv (λ_ _=>rfl) (adp (H:=bT w) hm 0 hs)
 refine(apY hp f fn args [] [[.bool true]] [] hf hb h 0 (λ_=>True) w gargs [] [] [] hG).mono ?_;rintro e w' ⟨gs,M1,M2,rfl,D⟩;have hres:=D.res;rw[hr] at hres;simp only[N7] at hres;obtain⟨row,rows',g,gs',cs,N1,N2,e1,e2,_,hv,ho,hl,e3,e4,_⟩:=hres;simp only[List.cons.injEq] at e1;obtain⟨rfl,rfl⟩:=e1;subst e4;subst e2;simp only[valOf,ht,Bool.false_eq_true,if_false] at hv;subst hv;simp only[fK,ow] at ho;obtain⟨v,cs',N1,N2,e5,_,⟨rfl,_⟩,_⟩:=ho;simp only[List.cons.injEq] at e5;obtain⟨rfl,_⟩:=e5;refine⟨rfl,⟨D.keep.os,D.keep.tape,D.keep.output,D.keep.size,λk hk=>D.keep.block k hk (by simp)⟩⟩
section
variable {H:Type} {enc:TypeId×Value->H} {P:Program} {w:World} {base:Nat} {spare:Nat->Bool} {held:Bool} {t:TypeId} {v:Value} {d:DataW H} {ps:List MemPlace}
def ap5{μ:Nat->Value}{m:Mem}(h:DataW.Trod enc P w base spare held t v d ps)(hg:∀n,YS P (n+8) t=true)(hv:v.cells.toList=[v]):
  ∃n x,YR P (n+8) t [x]∧aF μ m (full w) (.d x) v:=by
 obtain⟨n,hn⟩:=h;have hn':DataW.trod enc P w base spare held (n+8) t v.cells.toList=some (d,ps):=DataW.trod_le (Nat.le_add_right n 8) hn;obtain⟨row,hl,ht,hs⟩:=aey (n+8) t _ d ps (hg n) hn';rw[hv] at hl hs;cases row with
 |nil=>simp at hl
 |cons x r=>
  cases r with
  |cons _ _=>simp at hl
  |nil=>obtain⟨u,cs',e,h1,_⟩:=hs;simp only[List.cons.injEq] at e;obtain⟨rfl,_⟩:=e;exact⟨_,x,ht,by simpa[aF] using h1⟩
end
section
variable {P:Program} {n:Nat} {t:TypeId} {row:Row}
def aez{k:IntKind}(hu:P.underlying t=some (.int k))(h:YR P (n+1) t row):∃x,row=[.int k x]∧(Lit.int k x).wf=true:=by simpa[YR,hu] using h
def akl(hu:P.underlying t=some .string)(h:YR P (n+1) t row):∃s,row=[.str s]∧s.length<=maxLen:=by simpa[YR,hu] using h
def ane{e:TypeId}(hu:P.underlying t=some (.slice e))(h:YR P (n+1) t row):∃rows,row=[.sl false (kK P e) rows]∧rows.length<=maxLen∧∀r,r∈rows->YR P n e r:=by simpa[YR,hu] using h
def aje{fs:Array Field}(hu:P.underlying t=some (.struct fs))(h:YR P (n+1) t row):aa3 P n fs.toList row:=by simpa[YR,hu] using h
def Px{f:Field}{fs:List Field}(h:aa3 P n (f::fs) row):∃r1 r2,row=r1++r2∧YR P n f.type r1∧aa3 P n fs r2:=by simpa[aa3] using h
def anf(h:aa3 P n [] row):row=[]:=by simpa[aa3] using h
def aa6{α:Type}{f:α->Row}{p:α->Prop}:∀{rows:List Row},(∀r,r∈rows->∃x,r=f x∧p x)->∃l:List α,rows=l.map f∧∀x,x∈l->p x
 |[],_=>⟨[],rfl,λx h=>by simp at h⟩
 |r::rows,h=>by
  obtain⟨x,hx,hp⟩:=h r (by simp);obtain⟨l,hl,hq⟩:=aa6 (rows:=rows) (λr hr=>h r (by simp[hr]));refine⟨x::l,by simp[hx,hl],λy hy=> ?_⟩;rcases List.mem_cons.1 hy with rfl|hy
  ·exact hp
  ·exact hq y hy
end
end Go.Vm
namespace Go.Vm
open Go
open Go.IntKind (i64)
section
variable {H:Type} {enc:TypeId×Value->H}
def aa7{a:Assume}{C:Checked}{os:Os}{f:FuncId}{fn:Func}{s:ChangeSpec}{conds:List PathCond}{apart fresh handsOn again:Bool}{X:World->Array Value->Prop}
  (hX:∀(w w':World) (args:Array Value),w.heap=w'.heap->X w args->X w' args)
  (own:ownKnob C.prog.godebug=none) (started:os.Started) (noInit:C.prog.inits.idxOf? f=none) (hfn:C.prog.funcs[f]? =some fn)
  (witness:∃(w:World) (tape:Tape) (i:Input),w.os=os∧(w.forCall tape i).Shaped C.prog∧i.vars=[]∧Input.okWide C.prog (w.forCall tape i) .any w.heap.size f i∧
   ((s.pre enc C.prog fn conds apart (w.forCall tape i).memory i.args∧X (w.forCall tape i).memory i.args)∧sizedMet enc C.prog fn (OpenSpec.ofChange s) apart (w.forCall tape i).memory i.args)∧a.holds C.prog (lone (Frame.enter C.prog f i.args .normal) [] (w.forCall tape i)))
  (contract:∀(W:World) (base:Nat) (args:Array Value) (ds gs:List (DataW H)) (before:List MemPlace),
   (∀(j:Nat) t v,fn.params[j]? =some t->args[j]? =some v->Value.okWide C.prog W .any base t v)->
   DataW.Whole enc C.prog fn.params.toList s.vars apart W args.toList ds gs before->X W args->W.ShapedOpen C.prog->
   Calls C.prog f args W λe W'=>∃v,e=.returned v∧s.post enc C.prog fn apart fresh handsOn again W args v W'):
  ReturnsInHanded a C os f .any (λw args=>(s.pre enc C.prog fn conds apart w args∧X w args)∧sizedMet enc C.prog fn (OpenSpec.ofChange s) apart w args) (s.post enc C.prog fn apart fresh handsOn again):=by
 refine returnsInHanded_of_calls own started noInit witness ?_;rintro w tape i _ shp _ ⟨_,_,_,g,hg,_,_,_,_,val⟩ ⟨⟨⟨ds,gs,before,whole,_⟩,hx⟩,_⟩ _;have e:g=fn:=Option.some.inj (hg.symm.trans hfn);rw[e] at val;have c:=contract (w.forCall tape i) w.heap.size i.args ds gs before val (DataW.Whole.of_heap (w':=w.forCall tape i) (by rfl) whole) (hX _ _ _ (by rfl) hx) shp;refine c.mono ?_;rintro e W' ⟨v,rfl,hp⟩;exact ChangeSpec.post_blind hp
end
def aGf:DataW Unit->Value
 | .lit (.int k n)=> .int k n
 | .lit (.bool b)=> .bool b
 | .lit (.string b)=> .string ⟨b.toArray⟩
 |_=> .tuple #[]
def adq:Nat->DataW Unit->List Value
 |0,_=>[]
 |n+1,d=>match d with
  | .agg ds=>ds.flatMap (adq n)
  |d=>[aGf d]
def aw5(h:Array Obj)(g:Nat)(d:DataW Unit):Array Obj:=h.modify g λo=>match o with
 | .cells _ t fr=> .cells (adq 4 d).toArray t fr
 |o=>o
def layAll(h:Array Obj):List (Nat×DataW Unit)->Array Obj
 |[]=>h
 |(g,d)::l=>layAll (aw5 h g d) l
noncomputable def laidWorld(P:Program)(l:List (Nat×DataW Unit))(os:Os):World:=
 let w:=World.holding P os ⟨#[],#[],[]⟩
 {w with heap:=layAll w.heap l}
def aa8{h:View}{g:Nat}:∀(row:Row) (o:Nat),(∀(j:Nat) x,row[j]? =some x->∃v,h g (o+j)=some v∧ro h x v)->su h row g o
 |[],_,_=>trivial
 |x::row,o,q=>⟨by simpa using q 0 x rfl,aa8 row (o+1) λj y hj=>by
   have:=q (j+1) y (by simpa using hj)
   rwa [show o+(j+1)=o+1+j by omega] at this⟩
def Xz{P:Program}{w:World}{nm:String}{g t e n fuel:Nat}{cs:Array Value}{ss:List (List UInt8)}{p:List MemPlace}(hu:P.underlying t=some (.array n e))(he:P.underlying e=some .string)(hc:P.cellsOf e=1)
  (hg:P.globalNamed nm=some g) (hv:w.var? P nm=some cs) (h:DataW.trod (λ_=>()) P w 0 (λ_=>true) false fuel t cs.toList=some (.agg (ss.map λs=> .lit (.string s)),p)):su (full w) (ss.map D.str) g 0:=by
 obtain⟨xs,m,rfl,hx,hcl,hxl,hel⟩:=DataW.trod_array hu h;simp only[iL,DataW.agg.injEq] at hx;refine aa8 _ 0 λj x hj=> ?_
 rw[List.getElem?_map] at hj;cases hs:ss[j]? with
 |none=>rw[hs] at hj;cases hj
 |some s=>
  rw[hs] at hj;cases hj;have hjl:j<ss.length:=(G9.1 hs).1;have hlen:ss.length=xs.length:=by have:=congrArg List.length hx.1;simpa using this
  obtain⟨y,hy⟩:∃y,xs[j]? =some y:=⟨xs[j]'(by omega),by simp⟩
  have hh:=hel j (by omega);rw[hy] at hh;obtain⟨b,hb1,hb2,_⟩:=DataW.trod_string he hh;have hyx:y.1=.lit (.string s):=by have:=congrArg (λl=>l[j]?) hx.1;simp only[List.getElem?_map,hs,hy,He,eX] at this;exact this.symm
  rw[hb2] at hyx;simp only[DataW.lit.injEq,Lit.string.injEq] at hyx;rw[hc,Nat.mul_one] at hb1;have hcell:cs[j]? =some (.string b):=by have:=congrArg (λl=>l[0]?) hb1;simpa using this
  refine⟨.string b, ?_, ?_⟩
  ·have:=World.var?_cell hg hv j;rw[Nat.zero_add];show w.cell? ⟨g,j,none⟩=_;rw[this];exact hcell
  ·simp only[ro];rw[<-hyx]
end Go.Vm
