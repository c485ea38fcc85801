import Derived.Test.YtcallmiaialhkaaGreatDoorVm2
import Derived.Laws.StructEq
import Derived.Laws.Strings
import Derived.Laws.BytesString
import Derived.LoopN
import Derived.CheckFast
set_option linter.defProp false
set_option linter.unusedVariables false
set_option linter.unusedSimpArgs false
namespace Go.Vm
open Go
section
variable {base:Nat} {U:Nat->Prop} {M0:List Nat} {w0 w w':World} {m m':Mem} {G G':GS} {P:Program}
def aag(μ:Nat->Value)(m:Mem)(h:View):Option V->Option Value->Prop
 |none,g=>g=none
 |some v,g=>∃x,g=some x/\aC μ m h v x
def Jd{μ:Nat->Value}{h:View}{o:Option V}{g:Option Value}{d n:Int}{l l':Log}(hq:aag μ m h o g)(hr:(bound o d).run m l=some (n,m',l')):
  m'=m/\((g=none/\n=d)\/∃k,g=some (.int k n)):=by
 unfold bound at hr;split at hr
 ·change some (_,_,_)=_ at hr;simp only[dG,eH] at hr;obtain⟨rfl,rfl,_⟩:=hr;exact⟨rfl,.inl ⟨hq,rfl⟩⟩
 ·change some (_,_,_)=_ at hr;simp only[dG,eH] at hr;obtain⟨rfl,rfl,_⟩:=hr;obtain⟨x,rfl,hx⟩:=hq;simp only[aC,ro] at hx;exact⟨rfl,.inr ⟨_,by rw[hx]⟩⟩
 ·exact(ak hr).elim
def aah{α:Type}{l r:List α}{a b:Int}(h:cut l a b=some r):0<=a/\a<=b/\b<=l.length/\r=(l.drop a.toNat).take (b.toNat - a.toNat):=by
 unfold cut at h;cases hc:(decide (0<=a) && decide (a<=b) && decide (b<=(l.length:Int))) with
 |false=>simp[hc] at h
 |true=>simp only[hc,bZ,dG] at h;simp only[su,decide_eq_true_eq] at hc;exact⟨hc.1.1,hc.1.2,hc.2,h.symm⟩
def A8{IB:Bool}{len cap:Nat}{lo hi:Option Value}{a b:Int}(ha:(lo=none/\a=0)\/∃k,lo=some (.int k a))(hb:(hi=none/\b=len)\/∃k,hi=some (.int k b))
  (h0:0<=a) (h1:a<=b) (h2:b<=len) (h3:len<=cap):(Instr.sliceBounds IB len cap lo hi none).run P w=.ok (a.toNat,b.toNat,cap) w:=by
 have hbc:b<=cap:=au;have h0b:0<=b:=au;rcases ha with⟨rfl,rfl⟩|⟨k,rfl⟩<;>rcases hb with⟨rfl,rfl⟩|⟨k',rfl⟩
 ·simp[Instr.sliceBounds]
 ·simp[Instr.sliceBounds,Instr.sliceBound,asIntOf,h0b,hbc]
 ·simp[Instr.sliceBounds,Instr.sliceBound,asIntOf,h0,h2,h1]
 ·have:(a:Int)<=(b.toNat:Int):=au;simp[Instr.sliceBounds,Instr.sliceBound,asIntOf,h0b,hbc,h0,this];omega
def Rw{h:View}{s:Nat}:∀{rows:List Row} {b o:Nat} (n:Nat),jC h s rows b o->jC h s (rows.drop n) b (o+n * s)
 |rows,b,o,0,q=>by simpa using q
 |[],b,o,n+1,q=>by simp[jC]
 |r::rows,b,o,n+1,q=>by simp only[jC] at q;have:=Rw n q.2.2;rw[List.drop_succ_cons,Nat.add_mul,Nat.one_mul,show o+(n * s+s)=o+s+n * s by omega];exact this
def Rx{h:View}{s:Nat}:∀{rows:List Row} {b o:Nat} (n:Nat),jC h s rows b o->jC h s (rows.take n) b o
 |rows,b,o,0,q=>by simp[jC]
 |[],b,o,n+1,q=>by simp[jC]
 |r::rows,b,o,n+1,q=>by simp only[jC] at q;simp only[List.take_succ_cons,jC];exact⟨q.1,q.2.1,Rx n q.2.2⟩
def afy{h:View}{o:Bool}{s:Nat}{rows rows':List Row}{t e:TypeId}{inf:TypeInfo}{g:Value}{lo hi:Option Value}{a b:Int}(hu:P.underlying t=some (.slice e))(hi':P.info? e=some inf)(hs:s=inf.size)
  (hq:ro h (.sl o s rows) g) (ha:(lo=none/\a=0)\/∃k,lo=some (.int k a)) (hb:(hi=none/\b=rows.length)\/∃k,hi=some (.int k b)) (hc:cut rows a b=some rows'):
  ∃g',(Instr.sliceAt t g lo hi none).run P w=.ok g' w/\ro h (.sl false s rows') g':=by
 obtain⟨h0,h1,h2,rfl⟩:=aah hc;simp only[ro] at hq;obtain⟨ad,cap,rfl,hcap,hne⟩:=hq;have hrun:=A8 (P:=P) (w:=w) (IB:=true) ha hb h0 h1 au hcap;have hlen:(List.take (b.toNat - a.toNat) (List.drop a.toNat rows)).length=b.toNat - a.toNat:=by simp;omega
 refine⟨.slice (if cap=a.toNat then ad else ad.map (·.add (a.toNat * inf.size))) (b.toNat - a.toNat) (cap - a.toNat), ?_, ?_⟩
 ·simp only[Instr.sliceAt,Sem.run_bind,run_underlying hu,Result.andThen_ok,Instr.slice,hrun,sizeOf,typeInfo];simp[hi']
 ·simp only[ro];refine⟨_,cap - a.toNat,by rw[hlen],by rw[hlen];omega, ?_⟩;intro hne';have hpos:0<b.toNat - a.toNat:=by rw[<-hlen];exact List.length_pos_iff.2 hne'
  have hrows:rows≠[]:=by intro e;subst e;simp at hne'
  obtain⟨bb,oo,rfl,hr⟩:=hne hrows;have hca:¬cap=a.toNat:=au;refine⟨bb,oo+a.toNat * s, ?_,Rx _ (Rw _ hr)⟩;subst hs;simp[hca,Addr.add]
def WT(s:List UInt8)(a b:Nat)(h:a<=b)(hb:b<=s.length):(ByteArray.mk ⟨s⟩).extract a b=⟨⟨(s.drop a).take (b - a)⟩⟩:=by
 have:((ByteArray.mk ⟨s⟩).extract a b).data=⟨(s.drop a).take (b - a)⟩:=by rw[ByteArray.data_extract];apply Array.ext';simp[Array.toList_extract,List.extract_eq_take_drop]
 exact congrArg ByteArray.mk this
def ad2(hA:At base U M0 w0 w m G){t:TypeId}{x:V}{gx:Value}{lo hi:Option V}{YS ghi:Option Value}(hx:aC G.μ m (Gh U w G) x gx)(hlo:aag G.μ m (Gh U w G) lo YS)(hhi:aag G.μ m (Gh U w G) hi ghi)
  {v:V} {l l':Log} (hh0:(abD P t x lo hi).run m l=some (v,m',l')):x8 base U M0 w0 w m G P (Instr.sliceAt t gx YS ghi none) v m':=by
 have gen:∀(x:V),aC G.μ m (Gh U w G) x gx->(do
   let e<-op' (elT P t)
   ck (KF P e)
   let(s,rows)<-seen x
   ck (Nat.beq s (iM P e))
   let l<-bound lo 0
   let h<-bound hi rows.length
   let rows'<-op' (cut rows l h)
   match x with
   | .own r ver=>do
    match<-rd r with
    |some (.arr _ fl dP s rows)=>do
     ck (Nat.beq ver dP)
     wr r (.arr true fl ver s rows)
     pure (.d (.sl false s rows'))
    |_=> .fail
   |_=>pure (.d (.sl false s rows')):Acc V).run m l=some (v,m',l')->x8 base U M0 w0 w m G P (Instr.sliceAt t gx YS ghi none) v m':=by
  intro x hx h;replace h:=ah h;obtain⟨e,m1,l1,h1,h⟩:=h;obtain⟨he,rfl,rfl⟩:=dn h1;have he:=Fp he;replace h:=ah h;obtain⟨_,m1,l1,h1,h⟩:=h;obtain⟨hok,rfl,rfl⟩:=bG h1;obtain⟨d',hd'⟩:=qx hok;obtain⟨inf,wC⟩:=nO hd';have hsz:=wZ wC;replace h:=ah h;obtain⟨⟨s,rows⟩,m1,l1,h1,h⟩:=h;obtain⟨rfl,hfull⟩:=ac5 hA.ok hx hA.out h1;simp only at h;replace h:=ah h;obtain⟨_,m2,l2,h2,h⟩:=h;obtain⟨hs,rfl,rfl⟩:=bG h2;have hs:=lq hs;replace h:=ah h;obtain⟨a,m2,l2,h2,h⟩:=h;obtain⟨rfl,ha⟩:=Jd hlo h2;replace h:=ah h;obtain⟨b,m3,l3,h3,h⟩:=h;obtain⟨rfl,hb⟩:=Jd hhi h3;replace h:=ah h;obtain⟨rows',m4,l4,h4,h⟩:=h;obtain⟨hcut,rfl,rfl⟩:=dn h4;have afz:∀{h':View} {G1:GS} {m1':Mem} {o:Bool},Nx base U M0 w0 w m4 G w m1' G1->h'=Gh U w G1->ro h' (.sl o s rows) gx->x8 base U M0 w0 w m4 G P (Instr.sliceAt t gx YS ghi none) (.d (.sl false s rows')) m1':=by intro h' G1 m1' o hnx hh hro;subst hh;obtain⟨g',hrun,hg'⟩:=afy (w:=w) he wC (hs.trans hsz) hro ha hb hcut;exact⟨g',w,G1,hrun,hnx,hg'⟩
  cases x with
  |own r ver=>
   simp only at h;replace h:=ah h;obtain⟨c,m5,l5,h5,h⟩:=h;rw[jV] at h5;cases h5;cases hc:get r m4 with
   |none=>rw[hc] at h;exact(ak h).elim
   |some c=>
    rw[hc] at h;cases c with
    |box _ _=>exact(ak h).elim
    |dead=>exact(ak h).elim
    |xk _ _ _=>exact(ak h).elim
    |jM _ _=>exact(ak h).elim
    |jB _ _ _ _ _=>exact(ak h).elim
    |arr fz fl dP s2 ac7=>simp only at h;replace h:=ah h;obtain⟨_,m5,l5,h5,h⟩:=h;obtain⟨hbq,rfl,rfl⟩:=bG h5;have hbq:=lq hbq;subst hbq;replace h:=ah h;obtain⟨_,m5,l5,h5,h⟩:=h;rw[nS] at h5;simp only[dG,eH] at h5;obtain⟨_,rfl,_⟩:=h5;simp only[run_pure,dG,eH] at h;obtain⟨rfl,rfl,_⟩:=h;simp only[seen] at h1;replace h1:=ah h1;obtain⟨c,m6,l6,h6,h1⟩:=h1;rw[jV] at h6;cases h6;rw[hc] at h1;simp only at h1;replace h1:=ah h1;obtain⟨_,m6,l6,h6,h1⟩:=h1;obtain⟨_,rfl,rfl⟩:=bG h6;simp only[run_pure,dG,eH] at h1;obtain⟨⟨rfl,rfl⟩,_⟩:=h1;obtain⟨k1,k2,k3⟩:=hA.ok.freeze hc (by rw[hA.out];simp);simp only[aC,hc] at hx;have hgx:=hx.2.2 trivial;rw[<-hgx] at k3;rw[hA.E] at k3;exact afz (hA.still k1 k2 hA.out) rfl (Ui (fl:=fl) k3)
  |d y=>
   cases y with
   |sl o s2 ac7=>simp only[seen,run_pure,dG,eH] at h1 h;obtain⟨⟨rfl,rfl⟩,_⟩:=h1;obtain⟨rfl,rfl,_⟩:=h;exact afz (o:=o) hA.nx rfl hx
   |_=>exact(ak h1).elim
  |nil s2=>simp only[seen,run_pure,dG,eH] at h1 h;obtain⟨⟨rfl,rfl⟩,_⟩:=h1;obtain⟨rfl,rfl,_⟩:=h;refine afz (o:=false) hA.nx rfl ?_;simp only[aC] at hx;subst hx;simp[ro]
  |_=>exact(ak h1).elim
 have h:=hh0;cases x with
 |d y=>
  cases y with
  |str s=>
   simp only[abD] at h;replace h:=ah h;obtain⟨_,m1,l1,h1,h⟩:=h;obtain⟨hu,rfl,rfl⟩:=bG h1;replace h:=ah h;obtain⟨a,m2,l2,h2,h⟩:=h;obtain⟨rfl,ha⟩:=Jd hlo h2;replace h:=ah h;obtain⟨b,m3,l3,h3,h⟩:=h;obtain⟨rfl,hb⟩:=Jd hhi h3;replace h:=ah h;obtain⟨s',m4,l4,h4,h⟩:=h;obtain⟨hcut,rfl,rfl⟩:=dn h4;simp only[run_pure,dG,eH] at h;obtain⟨rfl,rfl,_⟩:=h;obtain⟨h0,h1,h2,rfl⟩:=aah hcut;simp only[aC,ro] at hx;subst hx;have hu:P.underlying t=some .string:=by
    cases hd:P.underlying t with
    |none=>simp[hd] at hu
    |some d=>rw[hd] at hu;cases d<;>simp at hu;rfl
   have hrun:=A8 (P:=P) (w:=w) (IB:=false) (len:=s.length) (cap:=s.length) ha hb h0 h1 h2 (Nat.le_refl _);have hsize:(ByteArray.mk ⟨s⟩).size=s.length:=rfl;refine x8.same hA (g:=.string ((ByteArray.mk ⟨s⟩).extract a.toNat b.toNat)) ?_ ?_
   ·simp only[Instr.sliceAt,Sem.run_bind,run_underlying hu,Result.andThen_ok,Instr.slice];simp[hsize,hrun]
   ·simp only[aC,ro];rw[WT s _ _ au au]
  |sl o s rows=>exact gen _ hx h
  |int _ _=>exact gen _ hx h
  |bool _=>exact gen _ hx h
  |GL=>exact gen _ hx h
 |nil _=>exact gen _ hx h
 |own _ _=>exact gen _ hx h
 |ptr _ _=>exact gen _ hx h
 |lI _ _ _ _=>exact gen _ hx h
 |lS _ _=>exact gen _ hx h
 |sG _=>exact gen _ hx h
 |clo _ _ _=>exact gen _ hx h
 |agg _=>exact gen _ hx h
 |Gz _=>exact gen _ hx h
 |undef=>exact gen _ hx h
def ad3(hA:At base U M0 w0 w m G){t:TypeId}{x:V}{gx:Value}{lo hi:Option V}{YS ghi:Option Value}(hx:aC G.μ m (Gh U w G) x gx)(hlo:aag G.μ m (Gh U w G) lo YS)(hhi:aag G.μ m (Gh U w G) hi ghi)
  {v:V} {l l':Log} (h:(YF P t x lo hi).run m l=some (v,m',l')):x8 base U M0 w0 w m G P (Instr.sliceAt t gx YS ghi none) v m':=by
 cases x with
 |lS row off=>
  simp only[YF] at h;replace h:=ah h;obtain⟨q,m1,l1,h1,h⟩:=h;obtain⟨ha,rfl,rfl⟩:=dn h1;obtain⟨n,e⟩:=q;simp only at h;replace h:=ah h;obtain⟨_,m1,l1,h1,h⟩:=h;obtain⟨hok,rfl,rfl⟩:=bG h1;replace h:=ah h;obtain⟨_,m1,l1,h1,h⟩:=h;obtain⟨hk,rfl,rfl⟩:=bG h1;simp only[su,Nat.beq_eq] at hk;obtain⟨hsz,rfl,hlen⟩:=hk;cases lo<;>try exact(ak h).elim
  cases hi<;>try exact(ak h).elim
  simp only[run_pure,dG,eH] at h;obtain⟨rfl,rfl,_⟩:=h;simp only[aag] at hlo hhi;subst hlo hhi;simp only[aC] at hx;obtain⟨b,o,rfl,hr⟩:=hx;have hu:=aae ha;obtain⟨d',hd'⟩:=qx hok;obtain⟨inf,wC⟩:=nO hd';have hrun:=A8 (P:=P) (w:=w) (IB:=false) (len:=n) (cap:=n) (lo:=none) (hi:=none) (a:=0) (b:=n) (.inl ⟨rfl,rfl⟩) (.inl ⟨rfl,rfl⟩) au au au (Nat.le_refl _);refine x8.same hA (g:=.slice (some ⟨b,o,none⟩) n n) ?_ ?_
  ·simp only[Instr.sliceAt,Sem.run_bind,run_underlying hu,Result.andThen_ok,Instr.sureAddr,sizeOf,typeInfo];simp only[Sem.run_pure,Result.andThen_ok];rw[hrun];simp[wC,BN]
  ·simp only[aC,ro];refine⟨_,n,by simp[hlen],by simp[hlen],λ_=>⟨b,o,rfl,Uh row b o hr⟩⟩
 |_=>exact ad2 hA hx hlo hhi h
def JO{H:Heap}{h:View}{fl:Bool}{s:Nat}:∀{rows:List Row} {cs:List Value} {N:List Nat} (n:Nat),wE H h fl s rows cs N->∃N' N2,N=N'++N2/\wE H h fl s (rows.take n) cs N'
 |rows,cs,N,0,q=>⟨[],N,by simp,by cases fl<;>simp[wE,dD,cO]⟩
 |[],cs,N,n+1,q=>⟨N,[],by simp,by simpa using q⟩
 |r::rs,cs,N,n+1,q=>by
  cases fl with
  |true=>simp only[wE,dD] at q;obtain⟨⟨q1,q2,q3⟩,rfl⟩:=q;obtain⟨N',N2,e,k⟩:=JO (H:=H) (fl:=true) n (show wE H h true s rs (cs.drop s) [] from⟨q3,rfl⟩);obtain⟨rfl,rfl⟩:=List.append_eq_nil_iff.1 e.symm;exact⟨[],[],rfl,⟨⟨q1,q2,k.1⟩,rfl⟩⟩
  |false=>simp only[wE,cO] at q;obtain⟨q1,N1,N3,rfl,q2,q3⟩:=q;obtain⟨N',N2,rfl,k⟩:=JO (fl:=false) n (show wE H h false s rs (cs.drop s) N3 from q3);refine⟨N1++N',N2,by simp, ?_⟩;simp only[wE,List.take_succ_cons,cO];exact⟨q1,N1,N',rfl,q2,k⟩
def ad4(hA:At base U M0 w0 w m G){t:TypeId}{x:V}{gx:Value}{hi:Option V}{ghi:Option Value}(hx:aC G.μ m (Gh U w G) x gx)(hhi:aag G.μ m (Gh U w G) hi ghi)
  {v:V} {l l':Log} (h:(abE P t x hi).run m l=some (v,m',l')):x8 base U M0 w0 w m G P (Instr.sliceAt t gx none ghi none) v m':=by
 simp only[abE] at h;replace h:=ah h;obtain⟨e,m1,l1,h1,h⟩:=h;obtain⟨he,rfl,rfl⟩:=dn h1;have hu:=Fp he;replace h:=ah h;obtain⟨_,m2,l2,h2,h⟩:=h;obtain⟨hok,rfl,rfl⟩:=bG h2;obtain⟨d',hd'⟩:=qx hok;obtain⟨inf,wC⟩:=nO hd';have hsz:=wZ wC;cases x<;>try exact(ak h).elim
 rename_i r ver;simp only at h;replace h:=ah h;obtain⟨c,m3,l3,h3,h⟩:=h;rw[jV] at h3;cases h3;cases hc:get r m2 with
 |none=>rw[hc] at h;exact(ak h).elim
 |some c=>
 rw[hc] at h;cases c with
 |box _ _=>exact(ak h).elim
 |dead=>exact(ak h).elim
 |xk _ _ _=>exact(ak h).elim
 |jM _ _=>exact(ak h).elim
 |jB _ _ _ _ _=>exact(ak h).elim
 |arr fz fl dP s rows=>
 cases fz with
 |true=>exact(ak h).elim
 |false=>
 simp only at h;replace h:=ah h;obtain⟨_,m3,l3,h3,h⟩:=h;obtain⟨hb,rfl,rfl⟩:=bG h3;have hb:=lq hb;subst hb;replace h:=ah h;obtain⟨_,m4,l4,h4,h⟩:=h;obtain⟨hs,rfl,rfl⟩:=bG h4;have hs:=lq hs;subst hs;replace h:=ah h;obtain⟨k,m5,l5,h5,h⟩:=h;obtain⟨rfl,hb⟩:=Jd hhi h5;replace h:=ah h;obtain⟨_,m6,l6,h6,h⟩:=h;obtain⟨hk,rfl,rfl⟩:=bG h6;simp only[su,decide_eq_true_eq] at hk;replace h:=ah h;obtain⟨_,m7,l7,h7,h⟩:=h;rw[nS] at h7;simp only[dG,eH] at h7;obtain⟨_,rfl,_⟩:=h7;simp only[run_pure,dG,eH] at h;obtain⟨rfl,rfl,_⟩:=h;simp only[aC,hc] at hx;have hx:=hx.2.2 trivial;subst hx;have hcell:=hA.ok.cell r _ hc (by rw[hA.out];simp);simp only[iT] at hcell;have UF:¬ver=ver+1:=au;have hlen:(rows.take k.toNat).length=k.toNat:=by rw[MW];omega
 have fin:∀(g:Value) (N:List Nat),N.Nodup->(∀b,b∈N->b∈G.F r)->(∀h':View,(Gh U w G).le h'->KD (aX w) h' fl (iM P e) (rows.take k.toNat) g N)->(Instr.sliceAt t (G.μ r) none ghi none).run P w=.ok g w->IB g->
   x8 base U M0 w0 w m6 G P (Instr.sliceAt t (G.μ r) none ghi none) (.own r (ver+1)) (put r (.arr false fl (ver+1) (iM P e) (rows.take k.toNat)) m6):=by
  intro g N hN hNs FT hrun hone;refine⟨g,w,_,hrun,hA.ok.rewrite hA.out hA.fr (μ':=O8 G.μ r g) (N:=N) hc (Keep.refl _ _) hN (λb hb=>⟨.inl (hNs b hb),(hA.ok.lt b (.inr ⟨r,hNs b hb⟩)).1⟩) (λj hj=>wR g hj) ⟨au,rfl,λe=>absurd e UF⟩ (λh' hv hml _=> ?_), ?_⟩
  ·simp only[iT,pz];exact FT h' hv
  ·simp[aC,dA,hone]
 rcases hcell with⟨rfl,hμ,hF⟩|⟨b,cap,cs,T,N',k1,k2,k3,k4,k5,k6⟩
 ·have hrun:=A8 (P:=P) (w:=w) (IB:=true) (len:=0) (cap:=0) (lo:=none) (hi:=ghi) (a:=0) (b:=k) (.inl ⟨rfl,rfl⟩) hb au hk.1 hk.2 (Nat.le_refl _);have hk0:k.toNat=0:=by have:=hk.2;simp at this;omega
  refine fin (.slice none 0 0) [] (by simp) (by simp) (λh' hv=> .inl ⟨by simp,rfl,rfl⟩) ?_ ⟨_,_,_,rfl⟩;rw[hμ];simp only[Instr.sliceAt,Sem.run_bind,run_underlying hu,Result.andThen_ok,Instr.slice,hrun,sizeOf,typeInfo];simp[wC,hk0]
 ·have hrun:=A8 (P:=P) (w:=w) (IB:=true) (len:=rows.length) (cap:=cap) (lo:=none) (hi:=ghi) (a:=0) (b:=k) (.inl ⟨rfl,rfl⟩) hb au hk.1 hk.2 k2;have k5':wE (aX w) (Gh U w G) fl (iM P e) rows cs.toList N':=by
   cases fl with
   |true=>exact k5
   |false=>exact k5
  obtain⟨N1,N2,ao0,hq⟩:=JO k.toNat k5';have hnd:=hA.ok.nd r;rw[k6,ao0,<-WI] at hnd;refine fin (.slice (some ⟨b,0,none⟩) k.toNat cap) (b::N1) (List.nodup_append.1 hnd).1 (λj hj=> ?_) (λh' hv=> .inr ⟨b,cap,cs,T,N1,by rw[hlen],by rw[hlen];have:=hk.2;omega,k3,k4, ?_,rfl⟩) ?_ ⟨_,_,_,rfl⟩
  ·rw[k6,ao0,<-WI];exact List.mem_append_left _ hj
  ·have:=AZ hv (λ_ _=>rfl) hq;cases fl with
   |true=>exact this
   |false=>exact this
  ·rw[k1];simp only[Instr.sliceAt,Sem.run_bind,run_underlying hu,Result.andThen_ok,Instr.slice,hrun,sizeOf,typeInfo];simp[wC,BN]
def Np{h:View}{s:Nat}:∀{rows:List Row} {cs:List Value} (n:Nat),dD h s rows cs->dD h s (rows.drop n) (cs.drop (n * s))
 |rows,cs,0,q=>by simpa using q
 |[],cs,n+1,q=>by simp[dD]
 |r::rs,cs,n+1,q=>by have:=Np n q.2.2;rw[List.drop_drop] at this;rw[List.drop_succ_cons,Nat.add_mul,Nat.one_mul,Nat.add_comm];exact this
def afA(hA:At base U M0 w0 w m G){t:TypeId}{x lo:V}{gx YS:Value}(hx:aC G.μ m (Gh U w G) x gx)(hlo:aC G.μ m (Gh U w G) lo YS)
  {v:V} {l l':Log} (h:(afb P t x lo).run m l=some (v,m',l')):x8 base U M0 w0 w m G P (Instr.sliceAt t gx (some YS) none none) v m':=by
 simp only[afb] at h;replace h:=ah h;obtain⟨e,m1,l1,h1,h⟩:=h;obtain⟨he,rfl,rfl⟩:=dn h1;have hu:=Fp he;replace h:=ah h;obtain⟨_,m2,l2,h2,h⟩:=h;obtain⟨hok,rfl,rfl⟩:=bG h2;obtain⟨d',hd'⟩:=qx hok;obtain⟨inf,wC⟩:=nO hd';have hsz:=wZ wC;replace h:=ah h;obtain⟨k,m2,l2,h2,h⟩:=h;obtain⟨rfl,hb⟩:=Jd (g:=some YS) (show aag G.μ _ (Gh U w G) (some lo) (some YS) from⟨YS,rfl,hlo⟩) h2;cases x<;>try exact(ak h).elim
 rename_i r ver;simp only at h;replace h:=ah h;obtain⟨c,m3,l3,h3,h⟩:=h;rw[jV] at h3;cases h3;have main:∀(c0:Cell) (s:Nat) (rows:List Row),get r m2=some c0->(c0=.arr false true ver s rows\/c0=.xk ver s rows)->O5 (aX w) (Gh U w G) s rows (G.μ r) (G.F r)->gx=G.μ r->
   s=iM P e->0<=k/\k<=(rows.length:Int)->x8 base U M0 w0 w m2 G P (Instr.sliceAt t gx (some YS) none none) (.own r (ver+1)) (put r (.xk (ver+1) s (rows.drop k.toNat)) m2):=by
  intro c0 s rows hc hc0 hq hg hs hk;subst hg hs;have UF:¬ver=ver+1:=au;have hlen:(rows.drop k.toNat).length=rows.length - k.toNat:=List.length_drop;have fin:∀(g:Value) (N:List Nat),N.Nodup->(∀b,b∈N->b∈G.F r)->(∀h':View,(Gh U w G).le h'->O5 (aX w) h' (iM P e) (rows.drop k.toNat) g N)->(Instr.sliceAt t (G.μ r) (some YS) none none).run P w=.ok g w->IB g->
    x8 base U M0 w0 w m2 G P (Instr.sliceAt t (G.μ r) (some YS) none none) (.own r (ver+1)) (put r (.xk (ver+1) (iM P e) (rows.drop k.toNat)) m2):=by
   intro g N hN hNs FT hrun hone;refine⟨g,w,_,hrun,hA.ok.rewrite hA.out hA.fr (μ':=O8 G.μ r g) (N:=N) hc (Keep.refl _ _) hN (λb hb=>⟨.inl (hNs b hb),(hA.ok.lt b (.inr ⟨r,hNs b hb⟩)).1⟩) (λj hj=>wR g hj) ?_ (λh' hv hml _=> ?_), ?_⟩
   ·rcases hc0 with rfl|rfl
    ·exact Nat.lt_succ_self _
    ·exact⟨au,λe=>absurd e UF⟩
   ·simp only[iT,pz];exact FT h' hv
   ·simp[aC,dA,hone]
  rcases hq with⟨rfl,hμ,hF⟩|⟨b,o,cap,cs,T,k1,k2,k3,k4,k5,k6⟩
  ·have hrun:=A8 (P:=P) (w:=w) (IB:=true) (len:=0) (cap:=0) (lo:=some YS) (hi:=none) (a:=k) (b:=0) (hb.imp (λh=>by cases h.1) id) (.inl ⟨rfl,rfl⟩) hk.1 (by simpa using hk.2) au (Nat.le_refl _);have hk0:k.toNat=0:=by have:=hk.2;simp at this;omega
   refine fin (.slice none 0 0) [] (by simp) (by simp) (λh' hv=> .inl ⟨by simp,rfl,rfl⟩) ?_ ⟨_,_,_,rfl⟩;rw[hμ];simp only[Instr.sliceAt,Sem.run_bind,run_underlying hu,Result.andThen_ok,Instr.slice,hrun,sizeOf,typeInfo];simp[wC,hk0]
  ·have hrun:=A8 (P:=P) (w:=w) (IB:=true) (len:=rows.length) (cap:=cap) (lo:=some YS) (hi:=none) (a:=k) (b:=rows.length) (hb.imp (λh=>by cases h.1) id) (.inl ⟨rfl,rfl⟩) hk.1 hk.2 (Int.le_refl _) k2;have hkl:k.toNat<=rows.length:=au;have hmul:k.toNat * iM P e<=cap * iM P e:=Nat.mul_le_mul_right _ (Nat.le_trans hkl k2)
   by_cases hkc:cap=k.toNat
   ·have hd:rows.drop k.toNat=[]:=List.drop_eq_nil_of_le au;refine fin (.slice (some ⟨b,o,none⟩) 0 0) [b] (by simp) (λj hj=>by rw[k6];exact hj) (λh' hv=> .inr ⟨b,o,0,cs,T,by rw[hd];rfl,by rw[hd];simp,k3,au,by rw[hd];trivial,rfl⟩) ?_ ⟨_,_,_,rfl⟩;rw[k1];simp only[Instr.sliceAt,Sem.run_bind,run_underlying hu,Result.andThen_ok,Instr.slice,hrun,sizeOf,typeInfo];have h0:rows.length - k.toNat=0:=au;simp[wC,BN,hkc,h0]
   refine fin (.slice (some ⟨b,o+k.toNat * iM P e,none⟩) (rows.length - k.toNat) (cap - k.toNat)) [b] (by simp) (λj hj=>by rw[k6];exact hj) (λh' hv=> .inr ⟨b,o+k.toNat * iM P e,cap - k.toNat,cs,T,by rw[hlen],by rw[hlen];omega,k3, ?_, ?_,rfl⟩) ?_ ⟨_,_,_,rfl⟩
   ·rw[Nat.sub_mul];omega
   ·have:=Np k.toNat (jv hv _ _ _ k5);rw[List.drop_drop] at this;exact this
   ·rw[k1];simp only[Instr.sliceAt,Sem.run_bind,run_underlying hu,Result.andThen_ok,Instr.slice,hrun,sizeOf,typeInfo];simp[wC,BN,hsz,hkc]
 cases hc:get r m2 with
 |none=>rw[hc] at h;exact(ak h).elim
 |some c=>
 rw[hc] at h;cases c with
 |box _ _=>exact(ak h).elim
 |dead=>exact(ak h).elim
 |jM _ _=>exact(ak h).elim
 |jB _ _ _ _ _=>exact(ak h).elim
 |xk dP s rows=>simp only at h;replace h:=ah h;obtain⟨_,m3,l3,h3,h⟩:=h;obtain⟨hb',rfl,rfl⟩:=iG h3;have hb':=lq hb';subst hb';replace h:=ah h;obtain⟨_,m4,l4,h4,h⟩:=h;obtain⟨hs,rfl,rfl⟩:=iG h4;have hs:=lq hs;replace h:=ah h;obtain⟨_,m6,l6,h6,h⟩:=h;obtain⟨hk,rfl,rfl⟩:=iG h6;simp only[su,decide_eq_true_eq] at hk;replace h:=ah h;obtain⟨_,m7,l7,h7,h⟩:=h;rw[nS] at h7;simp only[dG,eH] at h7;obtain⟨_,rfl,_⟩:=h7;simp only[run_pure,dG,eH] at h;obtain⟨rfl,rfl,_⟩:=h;simp only[aC,hc] at hx;exact main _ s rows hc (.inr rfl) (hA.ok.cell r _ hc (by rw[hA.out];simp)) (hx.2.2 trivial) hs hk
 |arr fz fl dP s rows=>
  cases fz with
  |true=>exact(ak h).elim
  |false=>
  cases fl with
  |false=>exact(ak h).elim
  |true=>
  simp only at h;replace h:=ah h;obtain⟨_,m3,l3,h3,h⟩:=h;obtain⟨hb',rfl,rfl⟩:=iG h3;have hb':=lq hb';subst hb';replace h:=ah h;obtain⟨_,m4,l4,h4,h⟩:=h;obtain⟨hs,rfl,rfl⟩:=iG h4;have hs:=lq hs;replace h:=ah h;obtain⟨_,m6,l6,h6,h⟩:=h;obtain⟨hk,rfl,rfl⟩:=iG h6;simp only[su,decide_eq_true_eq] at hk;replace h:=ah h;obtain⟨_,m7,l7,h7,h⟩:=h;rw[nS] at h7;simp only[dG,eH] at h7;obtain⟨_,rfl,_⟩:=h7;simp only[run_pure,dG,eH] at h;obtain⟨rfl,rfl,_⟩:=h;simp only[aC,hc] at hx;refine main _ s rows hc (.inl rfl) ?_ (hx.2.2 trivial) hs hk;have hcell:=hA.ok.cell r _ hc (by rw[hA.out];simp);simp only[iT] at hcell;rcases hcell with q|⟨b,cap,cs,T,N',k1,k2,k3,k4,k5,k6⟩
  ·exact .inl q
  ·obtain⟨k5,rfl⟩:=k5;exact .inr ⟨b,0,cap,cs,T,k1,k2,k3,au,k5,k6⟩
end
end Go.Vm
namespace Go.Vm
open Go
section
variable {base:Nat} {U:Nat->Prop} {M0:List Nat} {w0 w w':World} {m m':Mem} {G G':GS} {P:Program}
def SH:D->Value
 | .int k n=> .int k n
 | .bool b=> .bool b
 | .str s=> .string ⟨⟨s⟩⟩
 |_=> .nilFunc
def ao1{h:View}{x:D}(hf:x.flat=true):ro h x (SH x):=by
 cases x with
 |sl _ _ _=>simp[D.flat] at hf
 |_=>simp[SH,ro]
def ahF{op:BinOp}{k:IntKind}{a b:Int}{v:V}{t:TypeId}(ho:shiftOp op=false)(hz:nz op b=true)(h:alO op k a b=some v):∃x,v=.d x/\x.flat=true/\(binOp op t (.int k a) (.int k b)).run P w=.ok (SH x) w:=by
 cases op
 case add=>cases h;exact⟨_,rfl,rfl,by simp[binOp,Op.intArith,SH]⟩
 case sub=>cases h;exact⟨_,rfl,rfl,by simp[binOp,Op.intArith,SH]⟩
 case mul=>cases h;exact⟨_,rfl,rfl,by simp[binOp,Op.intArith,SH]⟩
 case and=>cases h;exact⟨_,rfl,rfl,by simp[binOp,Op.intBits,SH]⟩
 case or=>cases h;exact⟨_,rfl,rfl,by simp[binOp,Op.intBits,SH]⟩
 case xor=>cases h;exact⟨_,rfl,rfl,by simp[binOp,Op.intBits,SH]⟩
 case eql=>cases h;exact⟨_,rfl,rfl,by simp[binOp,Op.intCmp,SH]⟩
 case neq=>cases h;exact⟨_,rfl,rfl,by simp[binOp,Op.intCmp,SH]⟩
 case lss=>cases h;exact⟨_,rfl,rfl,by simp[binOp,Op.intCmp,SH]⟩
 case leq=>cases h;exact⟨_,rfl,rfl,by simp[binOp,Op.intCmp,SH]⟩
 case gtr=>cases h;exact⟨_,rfl,rfl,by simp[binOp,Op.intCmp,SH]⟩
 case geq=>cases h;exact⟨_,rfl,rfl,by simp[binOp,Op.intCmp,SH]⟩
 case quo=>
  have hb:¬b=0:=by simpa[nz] using hz
  ·cases h;exact⟨_,rfl,rfl,by simp[binOp,Op.intDiv,hb,SH]⟩
 case rem=>
  have hb:¬b=0:=by simpa[nz] using hz
  ·cases h;exact⟨_,rfl,rfl,by simp[binOp,Op.intDiv,hb,SH]⟩
 all_goals first|(cases ho;done)|(cases h;done)
def aai{op:BinOp}{k k':IntKind}{a b:Int}{v:V}{t:TypeId}(h:OV op k a b=some v):∃x,v=.d x/\x.flat=true/\(binOp op t (.int k a) (.int k' b)).run P w=.ok (SH x) w:=by
 unfold OV at h
 by_cases hb:b<0
 ·simp[hb] at h
 ·simp only[hb,decide_false,dX] at h;cases op<;>simp only at h<;>first|(cases h;done)|skip
  all_goals
   cases h;exact⟨_,rfl,rfl,by simp[binOp,Op.shift,hb,SH]⟩
def toList_mk(s:List UInt8):(ByteArray.mk ⟨s⟩).toList=s:=by rw[ByteArray.toList_eq]
def ad5(a b:List UInt8):ByteArray.mk ⟨a⟩++ByteArray.mk ⟨b⟩=⟨⟨a++b⟩⟩:=by
 have:(ByteArray.mk ⟨a⟩++ByteArray.mk ⟨b⟩).data=⟨a++b⟩:=by rw[ByteArray.data_append];simp
 exact congrArg ByteArray.mk this
def ahG{op:BinOp}{a b:List UInt8}{v:V}{t:TypeId}{l l':Log}(h:(alP op a b).run m l=some (v,m',l')):
  m'=m/\∃x,v=.d x/\x.flat=true/\(binOp op t (.string ⟨⟨a⟩⟩) (.string ⟨⟨b⟩⟩)).run P w=.ok (SH x) w:=by
 cases op<;>simp only[alP] at h<;>try exact(ak h).elim
 case add=>
  cases hc:Nat.ble (a.length+b.length) abv with
  |false=>rw[hc] at h;simp[Acc.run] at h
  |true=>
   rw[hc] at h;change some (_,_,_)=_ at h;simp only[dG,eH] at h;obtain⟨rfl,rfl,_⟩:=h;have hc:=Nat.le_of_ble_eq_true hc;have hm:IntKind.i64.max=(abv:Int):=by decide
   have hn:¬((((ByteArray.mk ⟨a⟩).size+(ByteArray.mk ⟨b⟩).size:Nat):Int)>IntKind.i64.max):=by rw[hm];have h1:(ByteArray.mk ⟨a⟩).size=a.length:=rfl;have h2:(ByteArray.mk ⟨b⟩).size=b.length:=rfl;rw[h1,h2];omega
   refine⟨rfl,_,rfl,rfl, ?_⟩;simp only[binOp,Op.stringOp,if_neg hn,Sem.run_pure,ad5,SH]
 all_goals
  change some (_,_,_)=_ at h;simp only[dG,eH] at h;obtain⟨rfl,rfl,_⟩:=h;refine⟨rfl,_,rfl,rfl, ?_⟩;simp[binOp,Op.stringOp,toList_mk,SH]
def abU{t:TypeId}(h:boolT P t=true):P.underlying t=some .bool:=by
 unfold boolT at h;cases hd:P.underlying t with
 |none=>simp[hd] at h
 |some d=>rw[hd] at h;cases d<;>simp at h;rfl
def Ry{op:BinOp}{t:TypeId}{ox oy:Operand}{a b:Value}(h:∀c,a≠.agg c)(hn:a≠.nilIface):(eqGuard op t ox oy a b).run P w=.ok () w:=by
 unfold eqGuard;cases op<;>simp
 all_goals cases a<;>first|exact absurd rfl (h _)|exact absurd rfl hn|simp
def WU{t:TypeId}(h:P.underlying t=some .bool)(a b:Bool):(Op.equalIn Op.maxDepth t (.bool a) (.bool b)).run P w=.ok (a==b) w:=by
 have:∀d,(Op.equalIn (d+1) t (.bool a) (.bool b)).run P w=.ok (a==b) w:=by intro d;simp[Op.equalIn,run_underlying h]
 exact this 9999
def alZ(hA:At base U M0 w0 w m G){op:BinOp}{t:TypeId}{ox oy:Operand}{x y:V}{gx gy:Value}(hx:aC G.μ m (Gh U w G) x gx)(hy:aC G.μ m (Gh U w G) y gy){v:V}{l l':Log}(h:(bin (boolT P t) op x y).run m l=some (v,m',l')):
  x8 base U M0 w0 w m G P (do eqGuard op t ox oy gx gy;binOp op t gx gy) v m':=by
 have close:∀{x:D},(∀c,gx≠.agg c)->gx≠.nilIface->x.flat=true->(binOp op t gx gy).run P w=.ok (SH x) w->x8 base U M0 w0 w m G P (do eqGuard op t ox oy gx gy;binOp op t gx gy) (.d x) m:=by intro x h1 h2 hq hr;refine x8.same hA (g:=SH x) ?_ (by simp only[aC];exact ao1 hq);simp only[Sem.run_bind,Ry h1 h2,Result.andThen_ok,hr]
 unfold bin at h;split at h
 ·simp only[aC,ro] at hx hy;subst hx hy;split at h
  ·rename_i ho;cases hb:OV op _ _ _ with
   |none=>rw[hb] at h;simp[Acc.run] at h
   |some r=>rw[hb] at h;change some (_,_,_)=_ at h;simp only[dG,eH] at h;obtain⟨rfl,rfl,_⟩:=h;obtain⟨x,rfl,hq,hr⟩:=aai (P:=P) (w:=w) (t:=t) hb;exact close (by simp) (by simp) hq hr
  ·rename_i ho;split at h
   ·rename_i hk;have hk:=of_decide_eq_true hk;subst hk;cases hz:nz op _ with
    |false=>rw[hz] at h;cases h
    |true=>
    rw[hz] at h;simp only[Acc.run] at h;cases hb:alO op _ _ _ with
    |none=>rw[hb] at h;simp[Acc.run] at h
    |some r=>rw[hb] at h;change some (_,_,_)=_ at h;simp only[dG,eH] at h;obtain⟨rfl,rfl,_⟩:=h;obtain⟨x,rfl,hq,hr⟩:=ahF (P:=P) (w:=w) (t:=t) ho hz hb;exact close (by simp) (by simp) hq hr
   ·exact(ak h).elim
 ·simp only[aC,ro] at hx hy;subst hx hy;obtain⟨rfl,x,rfl,hq,hr⟩:=ahG (P:=P) (w:=w) (t:=t) h;exact close (by simp) (by simp) hq hr
 ·simp only[aC,ro] at hx hy;subst hx hy;split at h
  ·rename_i hbt;have hbt:=abU hbt;cases op<;>simp only[aoS] at h<;>try(simp[Acc.run] at h;done)
   all_goals
    change some (_,_,_)=_ at h;simp only[dG,eH] at h;obtain⟨rfl,rfl,_⟩:=h;refine close (by simp) (by simp) rfl ?_;simp only[binOp,Op.equal,Sem.run_bind,WU hbt,Result.andThen_ok,Sem.run_pure,SH]
  ·exact(ak h).elim
 ·exact(ak h).elim
def ad6{t:TypeId}{x y:V}{r:Bool}(hp:Qk P t x=true)(h:abw x y=some r){μ:Nat->Value}{mm:Mem}{hh:View}{gx gy:Value}(hx:aC μ mm hh x gx)(hy:aC μ mm hh y gy)(d:Nat):
  (Op.equalIn (d+1) t gx gy).run P w=.ok r w/\(∃d,P.underlying t=some d)/\xZ P t=false:=by
 unfold abw at h;split at h
 ·rename_i k a k' b;simp only[aC,ro] at hx hy;subst hx hy;unfold Qk at hp;split at hp<;>try cases hp
  all_goals rename_i hu he
  all_goals try cases he
  cases hk:decide (k=k') with
  |false=>rw[hk] at h;cases h
  |true=>rw[hk] at h;cases h;have:=of_decide_eq_true hk;subst this;exact⟨run_equalIn_int w d t k _ a b hu,⟨_,hu⟩,by simp[xZ,hu]⟩
 ·rename_i a b;simp only[aC,ro] at hx hy;subst hx hy;unfold Qk at hp;split at hp<;>try cases hp
  all_goals rename_i hu he
  all_goals try cases he
  cases h;refine⟨?_,⟨_,hu⟩,by simp[xZ,hu]⟩;have:=run_equalIn_string w d t ⟨⟨a⟩⟩ ⟨⟨b⟩⟩ hu;rw[ByteArray.toList_eq,ByteArray.toList_eq] at this;exact this
 ·rename_i a b;simp only[aC,ro] at hx hy;subst hx hy;unfold Qk at hp;split at hp<;>try cases hp
  all_goals rename_i hu he
  all_goals try cases he
  cases h;exact⟨run_equalIn_bool' w d t a b hu,⟨_,hu⟩,by simp[xZ,hu]⟩
 ·cases h
def UG{μ:Nat->Value}{mm:Mem}{hh:View}{xs ys:List V}{gx gy:Array Value}(hx:bD μ mm hh xs gx.toList)(hy:bD μ mm hh ys gy.toList)(d:Nat):∀{fs:List Field} {r:Bool},Ti P fs xs ys=some r->
  (Op.eqFields (d+1) gx gy fs).run P w=.ok r w
 |[],r,h=>by cases h;simp[Op.eqFields]
 |f::fs,r,h=>by
  rw[Ti] at h;split at h
  ·rename_i x y hxo hyo
   cases hc : (Qk P f.type x && (f.name != "_")) with
   |false=>rw[hc] at h;cases h
   |true=>
    rw[hc,bZ] at h;rw[su] at hc
    have hname : f.name ≠ "_" := by simpa using hc.2
    split at h
    ·rename_i a b ha hb;cases h;obtain⟨g1,e1,s1⟩:=LZ hx hxo;obtain⟨g2,e2,s2⟩:=LZ hy hyo;obtain⟨h1,⟨du,hu⟩,h2⟩:=ad6 (w:=w) hc.1 ha s1 s2 d;have p1:(Go.part f.type gx f.offset).run P w=.ok g1 w:=by
      have e1':gx[f.offset]? =some g1:=by simpa using e1
      simp[Go.part,Ja hu,h2,e1']
     have p2:(Go.part f.type gy f.offset).run P w=.ok g2 w:=by
      have e2':gy[f.offset]? =some g2:=by simpa using e2
      simp[Go.part,Ja hu,h2,e2']
     rw[Op.eqFields,if_pos hname];simp only[Sem.run_bind,p1,p2,h1,Result.andThen_ok];cases a with
     |false=>simp
     |true=>simpa using UG hx hy d hb
    ·cases h
  ·cases h
def aaj{t:TypeId}(h:sliceT P t=true):∃e,P.underlying t=some (.slice e):=by
 unfold sliceT at h;cases hd:P.underlying t with
 |none=>simp[hd] at h
 |some d=>rw[hd] at h;cases d<;>simp at h;exact⟨_,rfl⟩
def ad7(hA:At base U M0 w0 w m G){x:V}{gx:Value}(hx:aC G.μ m (Gh U w G) x gx){b:Bool}{l l':Log}(h:(abx x).run m l=some (b,m',l')):
  m'=m/\∃a n c,gx=.slice a n c/\b=a.isNone:=by
 have full:∀{o:Bool} {s:Nat} {rows:List Row} {g:Value} {h:View},ro h (.sl o s rows) g->1<=rows.length->∃a n c,g=.slice a n c/\false=a.isNone:=by intro o s rows g h hr hl;simp only[ro] at hr;obtain⟨a,cap,rfl,_,hs⟩:=hr;obtain⟨b,o,rfl,_⟩:=hs (by intro e;rw[e] at hl;simp at hl);exact⟨_,_,_,rfl,rfl⟩
 unfold abx at h;split at h
 ·simp only[run_pure,dG,eH] at h;obtain⟨rfl,rfl,_⟩:=h;simp only[aC] at hx;exact⟨rfl,_,_,_,hx,rfl⟩
 ·replace h:=ah h;obtain⟨_,m2,l2,h2,h⟩:=h;obtain⟨hb,rfl,rfl⟩:=iG h2;simp only[run_pure,dG,eH] at h;obtain⟨rfl,rfl,_⟩:=h;simp only[aC] at hx;exact⟨rfl,full hx (Nat.le_of_ble_eq_true hb)⟩
 ·rename_i r ver;replace h:=ah h;obtain⟨c,m2,l2,h2,h⟩:=h;rw[jV] at h2;cases h2;cases hc:get r m with
  |none=>rw[hc] at h;exact(ak h).elim
  |some c=>
   rw[hc] at h;cases c with
   |box _ _=>exact(ak h).elim
   |dead=>exact(ak h).elim
   |jM _ _=>exact(ak h).elim
   |jB _ _ _ _ _=>exact(ak h).elim
   |xk dP s rows=>exact(ak h).elim
   |arr fz fl dP s rows=>simp only at h;replace h:=ah h;obtain⟨_,m2,l2,h2,h⟩:=h;obtain⟨hb,rfl,rfl⟩:=iG h2;rw[su] at hb;have hv:=lq hb.1;subst hv;simp only[run_pure,dG,eH] at h;obtain⟨rfl,rfl,_⟩:=h;have hro:=hA.ok.look hc (by rw[hA.out];simp) false;simp only[aC,hc] at hx;rw[<-hx.2.2 trivial] at hro;exact⟨rfl,full hro (Nat.le_of_ble_eq_true hb.2)⟩
 ·exact(ak h).elim
def Pz{t e:TypeId}(h:P.underlying t=some (.slice e))(a:Option Addr)(n c:Nat):(Op.equal t (.slice a n c) (.slice none 0 0)).run P w=.ok a.isNone w:=by
 have:∀d,(Op.equalIn (d+1) t (.slice a n c) (.slice none 0 0)).run P w=.ok a.isNone w:=by intro d;cases a<;>simp[Op.equalIn,run_underlying h]
 exact this 9999
def ad8(hA:At base U M0 w0 w m G){op:BinOp}{t:TypeId}{ox oy:Operand}{x:V}{gx:Value}(hx:aC G.μ m (Gh U w G) x gx){v:V}{l l':Log}(h:(aby P t op x).run m l=some (v,m',l')):
  x8 base U M0 w0 w m G P (do eqGuard op t ox oy gx (.slice none 0 0);binOp op t gx (.slice none 0 0)) v m':=by
 unfold aby at h;replace h:=ah h;obtain⟨_,m2,l2,h2,h⟩:=h;obtain⟨hb,rfl,rfl⟩:=iG h2;obtain⟨e,he⟩:=aaj hb;replace h:=ah h;obtain⟨b,m2,l2,h2,h⟩:=h;obtain⟨rfl,a,n,c,rfl,rfl⟩:=ad7 hA hx h2;have hg:(eqGuard op t ox oy (.slice a n c) (.slice none 0 0)).run P w=.ok () w:=Ry (by simp) (by simp);cases op<;>try exact(ak h).elim
 ·simp only[run_pure,dG,eH] at h;obtain⟨rfl,rfl,_⟩:=h;refine x8.same hA (g:=.bool a.isNone) ?_ (by simp only[aC,ro]);simp only[Sem.run_bind,hg,Result.andThen_ok,binOp,Pz he,Sem.run_pure]
 ·simp only[run_pure,dG,eH] at h;obtain⟨rfl,rfl,_⟩:=h;refine x8.same hA (g:=.bool !a.isNone) ?_ (by simp only[aC,ro]);simp only[Sem.run_bind,hg,Result.andThen_ok,binOp,Pz he,Sem.run_pure]
def ahH(hA:At base U M0 w0 w m G){op:BinOp}{t:TypeId}{ox oy:Operand}{x y:V}{gx gy:Value}(hx:aC G.μ m (Gh U w G) x gx)(hy:aC G.μ m (Gh U w G) y gy){v:V}{l l':Log}(h:(alQ P t op x y).run m l=some (v,m',l')):
  x8 base U M0 w0 w m G P (do eqGuard op t ox oy gx gy;binOp op t gx gy) v m':=by
 unfold alQ at h;split at h
 ·rename_i cs;cases y with
  |agg ds=>
   simp only[aoT] at h;replace h:=ah h;obtain⟨_,m1,l1,h1,h⟩:=h;obtain⟨hg,rfl,rfl⟩:=bG h1;simp only[su,Bool.not_eq_true'] at hg;replace h:=ah h;obtain⟨fs,m1,l1,h1,h⟩:=h;obtain⟨hf,rfl,rfl⟩:=dn h1;replace h:=ah h;obtain⟨r,m1,l1,h1,h⟩:=h;obtain⟨hr,rfl,rfl⟩:=dn h1;simp only[aC] at hx hy;obtain⟨a,rfl,ha⟩:=hx;obtain⟨b,rfl,hb⟩:=hy;have hst:P.underlying t=some (.struct (P.fieldsOf t))/\fs=(P.fieldsOf t).toList:=by
    unfold Program.fieldsOf;split at hf
    ·rename_i fs' hu;cases hf;rw[hu];exact⟨rfl,rfl⟩
    ·cases hf
   obtain⟨hu,rfl⟩:=hst;have he:=(run_equalIn_agg w 9999 t a b hu hg.1).trans (UG ha hb 9998 hr);have hgd:=run_eqGuard_agg w op t ox oy a b hg.2;have fin:∀r':Bool,(binOp op t (.agg a) (.agg b)).run P w=.ok (.bool r') w->v=.d (.bool r')->m1=m'->x8 base U M0 w0 w m1 G P (do eqGuard op t ox oy (.agg a) (.agg b);binOp op t (.agg a) (.agg b)) v m':=by intro r' e1 e2 e3;subst e2 e3;refine x8.same hA (g:=.bool r') ?_ (by simp only[aC,ro]);simp only[Sem.run_bind,hgd,Result.andThen_ok,e1]
   cases op<;>try exact(ak h).elim
   ·simp only[run_pure,dG,eH] at h;exact fin r (by rw[run_eql_struct,he];rfl) h.1.symm h.2.1
   ·simp only[run_pure,dG,eH] at h;exact fin (!r) (by rw[run_neq_struct,he];rfl) h.1.symm h.2.1
  |d _=>exact(ak h).elim
  |nil _=>exact(ak h).elim
  |own _ _=>exact(ak h).elim
  |ptr _ _=>exact(ak h).elim
  |lI _ _ _ _=>exact(ak h).elim
  |lS _ _=>exact(ak h).elim
  |sG _=>exact(ak h).elim
  |clo _ _ _=>exact(ak h).elim
  |Gz _=>exact(ak h).elim
  |undef=>exact(ak h).elim
 ·split at h
  ·simp only[aC] at hy;subst hy;exact ad8 hA hx h
  ·exact alZ hA hx hy h
def ao2(hA:At base U M0 w0 w m G){op:UnOp}{x:V}{gx:Value}(hx:aC G.μ m (Gh U w G) x gx){v:V}{l l':Log}(h:(un op x).run m l=some (v,m',l')):
  x8 base U M0 w0 w m G P (Op.unary op gx) v m':=by
 unfold un at h;split at h
 ·change some (_,_,_)=_ at h;simp only[dG,eH] at h;obtain⟨rfl,rfl,_⟩:=h;simp only[aC,ro] at hx;subst hx;refine x8.same hA (g:=.int _ _) (by simp only[Op.unary,Op.intArith,Sem.run_pure];rfl) (by simp[aC,ro])
 ·change some (_,_,_)=_ at h;simp only[dG,eH] at h;obtain⟨rfl,rfl,_⟩:=h;simp only[aC,ro] at hx;subst hx;refine x8.same hA (g:=.bool _) (by simp only[Op.unary,Sem.run_pure];rfl) (by simp[aC,ro])
 ·exact(ak h).elim
def afB(hA:At base U M0 w0 w m G){c x y:V}{gc gx gy:Value}(hc:aC G.μ m (Gh U w G) c gc)(hx:aC G.μ m (Gh U w G) x gx)(hy:aC G.μ m (Gh U w G) y gy){v:V}{l l':Log}(h:(ae7 c x y).run m l=some (v,m',l')):
  x8 base U M0 w0 w m G P (do pure (if<-Go.asBool gc then gx else gy)) v m':=by
 unfold ae7 at h;split at h
 ·rename_i c;simp only[aC,ro] at hc;subst hc;split at h
  ·rename_i a b;change some (_,_,_)=_ at h;simp only[dG,eH] at h;obtain⟨rfl,rfl,_⟩:=h;simp only[aC,ro] at hx hy;subst hx hy;refine x8.same hA (g:=.bool (bif c then a else b)) ?_ (by simp[aC,ro]);cases c<;>simp[Go.asBool]
  ·split at h
   ·change some (_,_,_)=_ at h;simp only[dG,eH] at h;obtain⟨rfl,rfl,_⟩:=h;exact x8.same hA (g:=gx) (by simp[Go.asBool]) hx
   ·change some (_,_,_)=_ at h;simp only[dG,eH] at h;obtain⟨rfl,rfl,_⟩:=h;exact x8.same hA (g:=gy) (by simp[Go.asBool]) hy
 ·exact(ak h).elim
end
end Go.Vm
namespace Go.Vm
open Go
section
variable {base:Nat} {U:Nat->Prop} {M0:List Nat} {w0 w w':World} {m m':Mem} {G G':GS} {P:Program}
def Rz{h:View}:∀{rows:List Row} {cs:List Value} {bs:List UInt8},bytesOf rows=some bs->dD h 1 rows cs->cs.length=rows.length->
  ∃ns:List Int,cs=ns.map (Value.int .u8)/\bs=ns.map (λn=>UInt8.ofNat n.toNat)
 |[],cs,bs,hb,_,hl=>by simp only[bytesOf,dG] at hb;subst hb;have:cs=[]:=List.length_eq_zero_iff.1 hl;subst this;exact⟨[],rfl,rfl⟩
 |r::rs,cs,bs,hb,hs,hl=>by
  simp only[bytesOf] at hb;cases ha:asByte r with
  |none=>simp[ha] at hb
  |some b=>
   cases hb2:bytesOf rs with
   |none=>simp[ha,hb2] at hb
   |some bs2=>
    simp only[ha,hb2,dG] at hb;subst hb;simp only[dD] at hs;obtain⟨_,h1,h2⟩:=hs;cases cs with
    |nil=>simp at hl
    |cons c cs=>
     obtain⟨ns,e1,e2⟩:=Rz hb2 (by simpa using h2) (by simpa using hl);unfold asByte at ha;split at ha
     ·rename_i n _;simp only[dG] at ha;subst ha;simp only[dY] at h1;obtain⟨v,cs',e,hv,_⟩:=h1;simp only[ro] at hv;simp only[List.cons.injEq] at e;obtain⟨rfl,rfl⟩:=e;exact⟨n::ns,by rw[hv,QY,e1],by rw[QY,e2]⟩
     ·cases ha
def foldl_push:∀(ns:List Int) (acc:List UInt8),ns.foldl (λr n=>r.push (UInt8.ofNat n.toNat)) (ByteArray.mk ⟨acc⟩)=⟨⟨acc++ns.map (λn=>UInt8.ofNat n.toNat)⟩⟩
 |[],acc=>by simp
 |n::ns,acc=>by
  rw[List.foldl_cons];have:(ByteArray.mk ⟨acc⟩).push (UInt8.ofNat n.toNat)=⟨⟨acc++[UInt8.ofNat n.toNat]⟩⟩:=by simp[ByteArray.push]
  rw[this,foldl_push ns];simp
def aak(hA:At base U M0 w0 w m G){src dst:TypeId}{x:V}{gx:Value}(hx:aC G.μ m (Gh U w G) x gx){v:V}{l l':Log}(h:(TW P src dst x).run m l=some (v,m',l')):
  x8 base U M0 w0 w m G P (convert src dst gx) v m':=by
 unfold TW at h;split at h
 next hs hd=>
  split at h
  ·change some (_,_,_)=_ at h;simp only[dG,eH] at h;obtain⟨rfl,rfl,_⟩:=h;simp only[aC,ro] at hx;subst hx;refine x8.same hA (g:=.int _ _) ?_ (by simp only[aC,ro];rfl);simp[convert,run_underlying hs,run_underlying hd,Conv.intToInt]
  ·exact(ak h).elim
 next hs hd=>
  split at h
  ·change some (_,_,_)=_ at h;simp only[dG,eH] at h;obtain⟨rfl,rfl,_⟩:=h;have hx0:=hx;simp only[aC,ro] at hx;subst hx;refine x8.same hA (g:=.string _) ?_ hx0;simp[convert,run_underlying hs,run_underlying hd]
  ·exact(ak h).elim
 next e hs hd=>
  replace h:=ah h;obtain⟨_,m1,l1,h1,h⟩:=h;obtain⟨he,rfl,rfl⟩:=iG h1;have he:P.underlying e=some (.int .u8):=by
   cases hu:P.underlying e with
   |none=>simp[hu] at he
   |some d=>rw[hu] at he;cases d<;>first|(simp at he;done)|(rename_i k;cases k<;>first|rfl|(simp at he;done))
  replace h:=ah h;obtain⟨⟨s,rows⟩,m1,l1,h1,h⟩:=h;obtain⟨rfl,hq⟩:=ac5 hA.ok hx hA.out h1;simp only at h;replace h:=ah h;obtain⟨_,m2,l2,h2,h⟩:=h;obtain⟨hs1,rfl,rfl⟩:=bG h2;have hs1:=lq hs1;subst hs1;replace h:=ah h;obtain⟨bs,m2,l2,h2,h⟩:=h;obtain⟨hb,rfl,rfl⟩:=dn h2;simp only[run_pure,dG,eH] at h;obtain⟨rfl,rfl,_⟩:=h;simp only[ro] at hq;obtain⟨a,cap,rfl,hcap,hne⟩:=hq;refine x8.same hA (g:=.string ⟨⟨bs⟩⟩) ?_ (by simp only[aC,ro]);rw[run_convert_bytes_string w src dst e a rows.length cap hs he hd]
  by_cases hr:rows=[]
  ·subst hr;simp only[bytesOf,dG] at hb;subst hb;cases a with
   |none=>simp[Conv.bytesToString];rfl
   |some a=>have hl:=run_loadCells_list (P:=P) w a [] (by simp);have:=run_bytesToString (P:=P) w a 0 cap [] (by simpa using hl);exact this
  ·obtain⟨b,o,rfl,hrr⟩:=hne hr;obtain⟨cs,hl,hc,hss⟩:=JK rows o hrr;rw[Nat.mul_one] at hl;obtain⟨ns,rfl,rfl⟩:=Rz hb hss hl;have hlc:=run_loadCells_list (P:=P) w ⟨b,o,none⟩ (ns.map (Value.int .u8)) (λj v hj=>by rw[BN];exact hc j v hj);rw[hl] at hlc;rw[run_bytesToString w _ rows.length cap ns hlc];have:=foldl_push ns [];rw[List.nil_append] at this;rw[<-this];rfl
 next=>exact(ak h).elim
def afC{μ:Nat->Value}{h:View}{vs:List V}{a:Array Value}{i:Nat}{v:V}(q:bD μ m h vs a.toList)(hi:vs[i]? =some v):∃x,a[i]? =some x/\aC μ m h v x:=by obtain⟨x,h1,h2⟩:=LZ q hi;exact⟨x,by simpa using h1,h2⟩
end
end Go.Vm
namespace Go.Vm
open Go
def Lc(gs:List Value):Value:=match gs with
 |[g]=>g
 |gs=> .tuple gs.toArray
def adb:List Cell->List Cell->Prop
 |[],cs=>cs=[]
 |c::cs,ds=>∃d ds',ds=d::ds'/\sameKind c d/\adb cs ds'
def UH{a b c:Cell}(h:sameKind a b)(k:sameKind b c):sameKind a c:=by
 cases a<;>cases b<;>cases c<;>simp only[sameKind] at h k|-
 ·exact h.trans k
 ·exact⟨h.1,k.2.1,h.2.2.1.trans k.2.2.1,h.2.2.2.trans k.2.2.2⟩
def RD{m:Mem}:∀{rs:List Nat} {cs ds:List Cell},kinds m rs cs->adb cs ds->kinds m rs ds
 |[],cs,ds,h,k=>by simp only[kinds] at h;subst h;exact k
 |r::rs,cs,ds,h,k=>by obtain⟨c,c',cs',rfl,h1,h2,h3⟩:=h;obtain⟨d,ds',rfl,k1,k2⟩:=k;exact⟨c,d,ds',rfl,h1,UH h2 k1,RD h3 k2⟩
structure Given(X:Ctx)(base:Nat)(U:Nat->Prop)(w:World)(f:FuncId)(args:List V)(cells:List Cell)(gargs eu:List Value)(N1 N2:List Nat):Prop where
 nd:(N1++N2).Nodup
 lt:∀b,b∈N1++N2->b<w.heap.size/\base<=b/\U b
 up:∀b,w.heap.size<=b->U b
 bs:base<=w.heap.size
 args:F8 X.Bf f (impμ eu) (kP 0 cells) (aX w) (view w U (· ∈N1++N2)) 0 args gargs N1
 cells:cellsB (aX w) (view w U (· ∈N1++N2)) cells eu N2
 gl:O7 X (view w U (· ∈N1++N2))
 tab:abM X w
structure Did(P:Program)(U:Nat->Prop)(w w':World)(N:List Nat)(ts:List TypeId)(cells outs:List Cell)(eu:List Value)(rows:List Row)(gs:List Value)(M1 M2:List Nat):Prop where
 keep:Keep N w w'
 nd:(M1++M2).Nodup
 mem:∀b,b∈M1++M2->(b∈N\/w.heap.size<=b)/\b<w'.heap.size
 kd:adb cells outs
 cells:cellsB (aX w') (view w' U (· ∈M1++M2)) outs eu M1
 res:Fj P (aX w') (view w' U (· ∈M1++M2)) ts rows gs M2
def Sound(X:Ctx)(K:fM):Prop:=∀(f:FuncId) (fn:Func) (args:List V) (cells:List Cell) (rows:List Row) (outs:List Cell),X.P.funcs[f]? =some fn->fn.body.isSome=true->K f args cells=some (rows,outs)->
 ∀(base:Nat) (U:Nat->Prop) (w:World) (gargs eu:List Value) (N1 N2:List Nat),Given X base U w f args cells gargs eu N1 N2->
  Calls X.P f gargs.toArray w λe w'=>∃gs M1 M2,e=.returned (Lc gs)/\Did X.P U w w' (N1++N2) fn.resultTypes.toList cells outs eu rows gs M1 M2
section
variable {base:Nat} {U:Nat->Prop} {M0:List Nat} {w0 w w':World} {m m':Mem} {G G':GS} {X:Ctx}
def uN.outs(hg:uN base U w m G){out:List Nat}(h:∀r,r∈G.out↔r∈out):uN base U w m {G with out:=out}:=
 ⟨λr c hc ho=>hg.cell r c hc (λhx=>ho ((h r).1 hx)),hg.dj,hg.OM,hg.nd,hg.Ug,hg.lt,hg.up,hg.bs,hg.none_,λr hr=>hg.out_ r ((h r).2 hr)⟩
def At.first(hA:At base U M0 w0 w m G):(view w0 U (· ∈M0)).le (Gh U w G):=by
 intro b o v hv;obtain⟨h1,h2,h3⟩:=DU hv;have hb:b<w0.heap.size:=by
  simp only[World.cell?] at h3;cases ho:w0.heap[b]? with
  |none=>simp[ho] at h3
  |some x=>exact(Array.getElem?_eq_some_iff.1 ho).1
 have hk:=hA.fr.keep.block b hb h2;refine TB h1 (λhx=> ?_) ?_
 ·rcases hA.fr.fr b hx with h|h
  ·exact h2 h
  ·omega
 ·simp only[World.cell?] at h3|-;rw[hk];exact h3
def XD{X:Ctx}{U:Nat->Prop}{M:List Nat}{w w':World}(hg:O7 X (view w U (· ∈M)))(hk:Keep M w w')(h:abM X w):abM X w':=by intro g hx;obtain⟨x,row,cs,T,fr,h1,h2,h3⟩:=h g hx;have hr:=hg.row g _ h1;obtain⟨⟨v,hv,_⟩,_⟩:=hr;have hlt:g<w.heap.size:=(Array.getElem?_eq_some_iff.1 h2).1;exact⟨x,row,cs,T,fr,h1,(hk.block g hlt (DU hv).2.1).trans h2,h3⟩
structure Ld(X:Ctx)(K:fM)(U:Nat->Prop)(M0:List Nat)(w0:World):Prop where
 sound:Sound X K
 gl:O7 X (view w0 U (· ∈M0))
 tab:abM X w0
def afD{K:fM}(hKG:Ld X K U M0 w0)(hA:At base U M0 w0 w m G){fn dst f:Nat}{args:List V}{gargs:List Value}(hs:bD G.μ m (Gh U w G) args gargs){v:V}{l l':Log}(h:(OX X K fn dst f args).run m l=some (v,m',l')):
  (callFunc f gargs.toArray).run X.P w=.ok (.enter f gargs.toArray) w/\
  Calls X.P f gargs.toArray w λe w'=>∃g G',e=.returned g/\Nx base U M0 w0 w m G w' m' G'/\aC G'.μ m' (Gh U w' G') v g:=by
 have hK:=hKG.sound;simp only[OX] at h;replace h:=ah h;obtain⟨g,m1,l1,h1,h⟩:=h;obtain⟨hf,rfl,rfl⟩:=dn h1;replace h:=ah h;obtain⟨_,m1,l1,h1,h⟩:=h;obtain⟨hbody,rfl,rfl⟩:=bG h1;simp only[su,Bool.not_eq_true'] at hbody;have hnone:g.body≠none:=by intro hb;simp[hb] at hbody
 have hnm : g.name ≠ "runtime.NumGoroutine" := by
  intro he;simp[he] at hbody
 refine⟨by simp[callFunc,hf,hnm,hnone], ?_⟩;generalize himp:F7 X.Bf f 0 [] args=imp at h;have hnd:imp.Nodup:=by rw[<-himp];exact Nh _ _ _ _ _ (by simp)
 replace h:=ah h;obtain⟨args1,m1,l1,h1,h⟩:=h;obtain⟨G1,N1,t1,q1⟩:=Rh hA.ok hs hA.out h1;have hout1:G1.out=[]:=t1.out.trans hA.out;have hE1:G1.E=N1:=by rw[t1.E,hA.E];rfl
 replace h:=ah h;obtain⟨cells,m2,l2,h2,h⟩:=h;obtain⟨G2,N2,t2,q2,kd2⟩:=Qm t1.ok hnd (λr hr=>⟨hr,by rw[hout1];simp⟩) (λr hr=>by rw[hout1] at hr;simp at hr) h2;have hout2:∀r,r∈G2.out↔r∈imp:=λr=>by rw[t2.out,hout1];simp
 have hE2:G2.E=N1++N2:=by rw[t2.E,hE1]
 have hkd:kinds m2 imp cells:=O9 (λr hr=>t2.here r hr) kd2;have hq1:=I9 (A:=X.Bf) (f:=f) t2.le.mem t2.le.view (H':=aX w) (λ_ _=>rfl) q1;replace h:=ah h;obtain⟨⟨args2,Fg⟩,m3,l3,h3,h⟩:=h;have C:Xo base U w m2 G2 imp cells:=⟨t2.ok,hout2,hkd⟩
 obtain⟨rfl,hq2⟩:=Ri C hq1 h3;have hq2:=hq2 Fg (λ_ hr=>hr);simp only at h;replace h:=ah h;obtain⟨_,m4,l4,h4,h⟩:=h;obtain⟨ade,rfl,rfl⟩:=bG h4;have ade:∀r,r∈Fg->r ∉ imp:=λr hr=>GV (List.all_eq_true.1 ade r hr)
 replace h:=ah h;obtain⟨⟨rows,outs⟩,m4,l4,h4,h⟩:=h;obtain⟨hKr,rfl,rfl⟩:=dn h4;simp only at h;replace h:=ah h;obtain⟨_,m4,l4,h4,h⟩:=h;obtain⟨hlen,rfl,rfl⟩:=bG h4;have abV:Given X base (KR U G2 Fg) w f args2 cells gargs (imp.map G2.μ) N1 N2:=by
  refine⟨by rw[<-hE2];exact t2.ok.Ug, ?_, ?_,t2.ok.bs,by rw[<-hE2];exact hq2, ?_,by rw[<-hE2];exact yc F9 (yc t2.le.view (yc t1.le.view (yc hA.first hKG.gl))),XD hKG.gl hA.fr.keep hKG.tab⟩
  ·intro b hb;rw[<-hE2] at hb;have:=t2.ok.lt b (.inl hb);exact⟨this.1,this.2.1,this.2.2,λr hr=>absurd hb (t2.ok.OM r b hr)⟩
  ·intro b hb;exact⟨t2.ok.up b hb,λr hr=>by have:=(t2.ok.lt b (.inr ⟨r,hr⟩)).1;omega⟩
  ·rw[<-hE2,t2.μ];exact Bg F9 q2
 refine Calls.mono (hK f g args2 cells rows outs hf hbody.1 hKr base _ w gargs _ N1 N2 abV) ?_;rintro e w' ⟨gs,M1,M2,rfl,D⟩;have hkeep:Keep G2.E w w':=by rw[hE2];exact D.keep
 obtain⟨k3,v3⟩:=t2.ok.world hkeep (E':=M1++M2) D.nd (λb hb=>by rw[hE2];exact D.mem b hb);generalize akX:(!(Fg.isEmpty) &&(LX X.P (X.Bf.OU fn dst) 0 g.resultTypes.toList && imp.isEmpty))=need at h;replace h:=ah h;obtain⟨_,m4,l4,h4,h⟩:=h;obtain⟨hpure,rfl,rfl⟩:=bG h4;replace h:=ah h;obtain⟨_,m4,l4,h4,h⟩:=h;have hL:∀r,r∈(bif need then[] else Fg)->r∈Fg:=by
  intro r hr;cases need with
  |true=>simp at hr
  |false=>exact hr
 obtain⟨F',k4,le4,f1,f2,f3⟩:=Xp k3 (λr hr=>by show r ∉ G2.out;rw[hout2];exact ade r (hL r hr)) h4;replace h:=ah h;obtain⟨_,m5,l5,h5,h⟩:=h;have k4':=k4.outs (out:=imp) hout2;have atV:kinds m4 imp (outs.drop 0):=by rw[List.drop_zero];exact O9 (λr hr=>f3 r (λhx=>ade r (hL r hx) hr)) (RD hkd D.kd)
 have akY:need=false->(view w' (KR U G2 Fg) (· ∈M1++M2)).le (Gh U w' ⟨G2.μ,F',M1++M2,imp⟩):=by
  intro hn b o x hx;obtain⟨p1,p2,p3⟩:=DU hx;refine TB p1.1 ?_ p3;rintro(hb|⟨r,hb⟩)
  ·exact p2 hb
  ·have hb:b∈F' r:=hb;rcases f2 r with hr|hr
   ·rw[hr] at hb;simp at hb
   ·have:b∈G2.F r:=by rw[hr] at hb;exact hb
    have hrl:=p1.2 r this;have:=f1 r (by rw[hn];exact hrl);rw[this] at hb;simp at hb
 have hcells:cellsB (aX w') (Gh U w' ⟨G2.μ,F',M1++M2,imp⟩) (outs.drop 0) (imp.map G2.μ) M1:=by
  rw[List.drop_zero];cases need with
  |false=>exact Bg (akY rfl) D.cells
  |true=>
   simp only[su,List.isEmpty_iff] at akX;have ao3:=akX.2.2;subst ao3;have hc0:cells=[]:=by simpa[kinds] using hkd
   subst hc0;have ho0:outs=[]:=D.kd;subst ho0;exact D.cells
 have hres:Fj X.P (aX w') (Gh U w' ⟨G2.μ,F',M1++M2,imp⟩) g.resultTypes.toList rows gs M2:=by
  cases need with
  |false=>exact GX (akY rfl) (λ_ _=>rfl) D.res
  |true=>exact Ut hpure D.res
 obtain⟨G5,c5⟩:=Pn k4' hnd rfl atV (N:=M1) (E:=M2) (List.Perm.refl _) hcells h5;replace h:=ah h;obtain⟨vs,m6,l6,h6,h⟩:=h;obtain⟨G6,c6,s6⟩:=Xu (ri:=0) c5.ok (λr hr=>by rw[c5.out] at hr;simp at hr) (N:=M2) (E:=[]) (by rw[c5.E];simp) (by rw[List.drop_zero];exact GX c5.le.view (λ_ _=>rfl) hres) h6;have hm6:m'=m6/\aC G6.μ m6 (Gh U w' G6) v (Lc gs):=by
  have akZ:=eP s6;split at h
  ·simp only[run_pure,dG,eH] at h;obtain⟨rfl,rfl,_⟩:=h;obtain⟨g0,gs0,rfl,q1,q2⟩:=jl s6;simp only[bD] at q2;subst q2;exact⟨rfl,q1⟩
  ·rename_i hne;simp only[run_pure,dG,eH] at h;obtain⟨rfl,rfl,_⟩:=h;refine⟨rfl, ?_⟩;unfold Lc;split
   ·rename_i g0;cases vs with
    |nil=>simp at akZ
    |cons v0 vs=>
     cases vs with
     |nil=>exact absurd rfl (hne v0)
     |cons _ _=>simp at akZ
   ·simp only[aC];exact⟨_,rfl,by simpa using s6⟩
 obtain⟨rfl,FT⟩:=hm6;have atW:∀b,excl G2.F G2.E b->excl G.F G.E b:=λb hb=>t1.le.ex b (t2.le.ex b hb)
 have hold:∀b,excl G2.F G2.E b->b∈M0\/w0.heap.size<=b:=λb hb=>hA.fr.fr b (atW b hb)
 refine⟨Lc gs,G6,rfl,⟨c6.ok,c6.E,c6.out.trans c5.out, ?_, ?_, ?_, ?_⟩,FT⟩
 ·have a1:=mZ t1.le.mem t2.le.mem;have a2:=mZ a1 le4.mem;exact mZ (mZ a2 c5.le.mem) c6.le.mem
 ·exact(((t1.le.view.trans' t2.le.view).trans' v3).trans' le4.view).trans' (c5.le.view.trans' c6.le.view)
 ·exact hA.fr.keep.trans hkeep (λx hx=>hold x (.inl hx))
 ·intro b hb;have hb:=c5.le.ex b (c6.le.ex b hb);rcases hb with hb|⟨r,hb⟩
  ·rcases(D.mem b hb).1 with h'|h'
   ·exact hold b (.inl (by rw[hE2];exact h'))
   ·exact .inr (Nat.le_trans hA.fr.keep.size h')
  ·have hb:b∈F' r:=hb;rcases f2 r with hr|hr
   ·have:F' r=[]:=hr;rw[this] at hb;simp at hb
   ·exact hold b (.inr ⟨r,by have:F' r=G2.F r:=hr;rw[<-this];exact hb⟩)
end
end Go.Vm
namespace Go.Vm
open Go
def ahI{H:Heap}{h:View}{x:D}{v:Value}{N:List Nat}(hf:x.flat=true)(q:ow H h x v N):N=[]/\ro h x v:=by
 cases x with
 |sl o s rows=>simp[D.flat] at hf
 |_=>simp only[ow] at q;exact⟨q.2,by simp only[ro];exact q.1⟩
def UJ{H:Heap}{h:View}:∀{r:Row} {cs:List Value} {N:List Nat},r.all D.flat=true->dF H h r cs N->N=[]/\dY h r cs
 |[],cs,N,_,q=>by simp only[dF] at q;exact⟨q,trivial⟩
 |x::r,cs,N,hf,q=>by simp only[dF] at q;obtain⟨v,cs',N1,N2,rfl,rfl,q1,q2⟩:=q;simp only[List.all_cons,su] at hf;obtain⟨rfl,h1⟩:=ahI hf.1 q1;obtain⟨rfl,h2⟩:=UJ hf.2 q2;exact⟨rfl,v,cs',rfl,h1,h2⟩
def RF{H:Heap}{h:View}{s:Nat}:∀{rs:List Row} {cs:List Value} {N:List Nat},jO rs=true->cO H h s rs cs N->N=[]/\dD h s rs cs
 |[],cs,N,_,q=>by simp only[cO] at q;exact⟨q,trivial⟩
 |r::rs,cs,N,hf,q=>by simp only[cO] at q;obtain⟨hl,N1,N2,rfl,q1,q2⟩:=q;simp only[jO,List.all_cons,su] at hf;obtain⟨rfl,h1⟩:=UJ hf.1 q1;obtain⟨rfl,h2⟩:=RF (rs:=rs) hf.2 q2;exact⟨rfl,hl,h1,h2⟩
def aal{H:Heap}{h:View}{fl:Bool}{s:Nat}{rows:List Row}{v:Value}{N:List Nat}(ho:Ky fl rows=true)(q:ow H h (.sl true s rows) v N):KD H h fl s rows v N:=by
 cases fl with
 |false=>exact ac4 q
 |true=>
  simp only[ow] at q;rcases q with q|⟨b,cap,cs,t,N',h1,h2,h3,h4,h5,rfl⟩
  ·exact .inl q
  ·obtain⟨rfl,h6⟩:=RF (by simpa[Ky] using ho) h5;exact .inr ⟨b,cap,cs,t,[],h1,h2,h3,h4,⟨h6,rfl⟩,rfl⟩
def aam{α:Type}:∀{l:List α} {i:Nat} {x:α},l[i]? =some x->l.set i x=l
 |[],i,x,h=>by simp at h
 |y::l,0,x,h=>by simp only[List.getElem?_cons_zero,dG] at h;rw[h];rfl
 |y::l,i+1,x,h=>by rw[List.set_cons_succ,aam (by simpa using h)]
def abW{H:Heap}{h:View}{row:Row}{cs:List Value}{N:List Nat}{j:Nat}{x:D}(q:dF H h row cs N)(hx:row[j]? =some x):
  ∃g Na N1 Nb,cs[j]? =some g/\N=Na++N1++Nb/\ow H h x g N1/\
   ∀(H':Heap) (h':View) (x':D) (g':Value) (N':List Nat),h.le h'->(∀b,b∈Na++Nb->H' b=H b)->ow H' h' x' g' N'->dF H' h' (splice row j [x']) (cs.set j g') (Na++N'++Nb):=by
 obtain⟨_,e2⟩:=uO (b:=x) hx;have hjl:=(FK.1 hx).1;rw[e2] at q;obtain⟨Na,Nr,rfl,qa,qr⟩:=mg.1 q;have l1:(row.take j).length=j:=by simp;omega
 rw[l1] at qr;obtain⟨g,cs',N1,Nb,ec,rfl,q1,qb⟩:=vM qr;refine⟨g,Na,N1,Nb, ?_,by simp,q1, ?_⟩
 ·have:(cs.drop j)[0]? =some g:=by rw[ec];rfl
  simpa using this
 ·intro H' h' x' g' N' hl hH q';have hs:splice row j [x']=row.take j++(x'::row.drop (j+1)):=by simp[splice]
  rw[hs,BD,mg];refine⟨Na,N'++Nb,rfl,AY ?_ (rM hl _ _ _ (λb hb=>hH b (by simp[hb])) qa), ?_⟩
  ·rw[l1,List.take_set_of_le (Nat.le_refl _)]
  ·rw[l1,List.drop_set,if_neg (Nat.lt_irrefl _),Nat.sub_self,ec];simp only[List.set_cons_zero,dF];exact⟨g',cs',N',Nb,rfl,rfl,q',rM hl _ _ _ (λb hb=>hH b (by simp[hb])) qb⟩
def aan{H:Heap}{h:View}{s:Nat}{rows:List Row}{cs:List Value}{N:List Nat}{i off:Nat}{row:Row}{x:D}(q:cO H h s rows cs N)(hi:rows[i]? =some row)(ho:off<s)(hx:row[off]? =some x):
  ∃g Na N1 Nb,cs[i * s+off]? =some g/\N=Na++N1++Nb/\ow H h x g N1/\hole H h s rows row i off cs Na Nb:=by
 have hil:=(FK.1 hi).1;have e2:=(uO (b:=row) hi).2;rw[e2] at q;obtain⟨Na,Nr,rfl,qa,qr⟩:=mD.1 q;have l1:(rows.take i).length=i:=by simp;omega
 rw[l1] at qr;simp only[cO] at qr;obtain⟨hl,N1,Nb,rfl,q1,qb⟩:=qr;obtain⟨g,Nc,Nd,Ne,hg,rfl,q2,qh⟩:=abW q1 hx;refine⟨g,Na++Nc,Nd,Ne++Nb,by simpa using hg,by simp,q2, ?_⟩;intro H' h' x' g' N' hle hH q';have hle:h.le h':=hle;rw[(uO (b:=splice row off [x']) hi).1];have eN:Na++Nc++N'++(Ne++Nb)=Na++((Nc++N'++Ne)++Nb):=by simp
 rw[eN,mD];refine⟨Na,_,rfl,Fv ?_ (mY hle s _ _ _ (λb hb=>hH b (by simp[hb])) qa), ?_⟩
 ·rw[l1,List.take_set_of_le au]
 ·rw[l1,List.drop_set,if_neg au,show i * s+off - i * s=off from by omega];simp only[cO];refine⟨?_,Nc++N'++Ne,Nb,rfl, ?_, ?_⟩
  ·rw[rO (by simp;omega)];exact hl
  ·exact qh H' h' x' g' N' hle (λb hb=>hH b (by simp only[List.mem_append] at hb|-;rcases hb with h|h<;>simp[h])) q'
  ·rw[List.drop_set_of_lt ho];exact mY hle s _ _ _ (λb hb=>hH b (by simp[hb])) qb
section
variable {base:Nat} {U:Nat->Prop} {M0:List Nat} {w0 w w':World} {m m':Mem} {G G':GS} {P:Program}
def uN.two(hg:uN base U w m G)(ho:G.out=[]){r k:Nat}(hrk:r≠k)(c1 c2:Cell)(μ':Nat->Value)(N1 N2:List Nat)(hs:(N1++N2).Nodup)(hsub:∀b,b∈N1++N2->b∈G.F r\/b∈G.F k)
  (hle:sF G.μ m μ' (put r c1 (put k c2 m))) (hμ:∀j,j≠k->μ' j=G.μ j)
  (hc:(Gh U w G).le (view w U (excl (Dy (Dy G.F k N2) r N1) G.E))->iT μ' (put r c1 (put k c2 m)) (aX w) (view w U (excl (Dy (Dy G.F k N2) r N1) G.E)) r c1 N1/\
   iT μ' (put r c1 (put k c2 m)) (aX w) (view w U (excl (Dy (Dy G.F k N2) r N1) G.E)) k c2 N2):
  uN base U w (put r c1 (put k c2 m)) ⟨μ',Dy (Dy G.F k N2) r N1,G.E,[]⟩/\KE m G (put r c1 (put k c2 m)) ⟨μ',Dy (Dy G.F k N2) r N1,G.E,[]⟩:=by
 have hF:∀j b,b∈Dy (Dy G.F k N2) r N1 j->(j=r/\b∈N1)\/(j=k/\b∈N2)\/(j≠r/\j≠k/\b∈G.F j):=by
  intro j b hb
  by_cases e:j=r
  ·subst e;rw[lK] at hb;exact .inl ⟨rfl,hb⟩
  ·rw[dM _ e] at hb
   by_cases e2:j=k
   ·subst e2;rw[lK] at hb;exact .inr (.inl ⟨rfl,hb⟩)
   ·rw[dM _ e2] at hb;exact .inr (.inr ⟨e,e2,hb⟩)
 have hin:∀b,b∈N1\/b∈N2->(∃j,(j=r\/j=k)/\b∈G.F j):=λb hb=>(hsub b (List.mem_append.2 hb)).elim (λh=>⟨r,.inl rfl,h⟩) (λh=>⟨k,.inr rfl,h⟩)
 have hex:∀b,excl (Dy (Dy G.F k N2) r N1) G.E b->excl G.F G.E b:=by
  rintro b (hb|⟨j,hb⟩)
  ·exact .inl hb
  ·rcases hF j b hb with⟨_,h⟩|⟨_,h⟩|⟨_,_,h⟩
   ·obtain⟨j',_,h'⟩:=hin b (.inl h);exact .inr ⟨j',h'⟩
   ·obtain⟨j',_,h'⟩:=hin b (.inr h);exact .inr ⟨j',h'⟩
   ·exact .inr ⟨j,h⟩
 have hv:(Gh U w G).le (view w U (excl (Dy (Dy G.F k N2) r N1) G.E)):=Em (λ_ x=>x) hex;have hN:=List.nodup_append.1 hs;obtain⟨s1,s2⟩:=hc hv;refine⟨show MInv base U (put r c1 (put k c2 m)) w μ' (Dy (Dy G.F k N2) r N1) G.E [] from ?_,⟨hle,hex⟩⟩;refine⟨?_, ?_, ?_, ?_,hg.Ug,λb hb=>hg.lt b (hex b hb),hg.up,hg.bs, ?_,by simp⟩
 ·intro j c hj _;rw[get_put] at hj
  by_cases e:j=r
  ·subst e;rw[if_pos rfl] at hj;cases hj;rw[lK];exact s1
  ·rw[if_neg e,get_put] at hj;rw[dM _ e]
   by_cases e2:j=k
   ·subst e2;rw[if_pos rfl] at hj;cases hj;rw[lK];exact s2
   ·rw[if_neg e2] at hj;rw[dM _ e2];exact yU hle hv (hμ j e2) (λb _=>rfl) (hg.cell j c hj (by rw[ho];simp))
 ·intro j j' hne b hb hb';rcases hF j b hb with⟨rfl,h⟩|⟨rfl,h⟩|⟨e1,e2,h⟩<;>rcases hF j' b hb' with⟨rfl,h'⟩|⟨rfl,h'⟩|⟨e1',e2',h'⟩
  ·exact hne rfl
  ·exact hN.2.2 b h b h' rfl
  ·obtain⟨x,hx,hb⟩:=hin b (.inl h);exact hg.dj x j' (by rintro rfl;rcases hx with rfl|rfl<;>contradiction) b hb h'
  ·exact hN.2.2 b h' b h rfl
  ·exact hne rfl
  ·obtain⟨x,hx,hb⟩:=hin b (.inr h);exact hg.dj x j' (by rintro rfl;rcases hx with rfl|rfl<;>contradiction) b hb h'
  ·obtain⟨x,hx,hb⟩:=hin b (.inl h');exact hg.dj x j (by rintro rfl;rcases hx with rfl|rfl<;>contradiction) b hb h
  ·obtain⟨x,hx,hb⟩:=hin b (.inr h');exact hg.dj x j (by rintro rfl;rcases hx with rfl|rfl<;>contradiction) b hb h
  ·exact hg.dj j j' hne b h h'
 ·intro j b hb hE;rcases hF j b hb with⟨_,h⟩|⟨_,h⟩|⟨_,_,h⟩
  ·obtain⟨x,_,hb⟩:=hin b (.inl h);exact hg.OM x b hb hE
  ·obtain⟨x,_,hb⟩:=hin b (.inr h);exact hg.OM x b hb hE
  ·exact hg.OM j b h hE
 ·intro j
  by_cases e:j=r
  ·subst e;rw[lK];exact hN.1
  ·rw[dM _ e]
   by_cases e2:j=k
   ·subst e2;rw[lK];exact hN.2.1
   ·rw[dM _ e2];exact hg.nd j
 ·intro j hj;rw[get_put] at hj
  by_cases e:j=r
  ·rw[if_pos e] at hj;cases hj
  ·rw[if_neg e,get_put] at hj;rw[dM _ e]
   by_cases e2:j=k
   ·rw[if_pos e2] at hj;cases hj
   ·rw[if_neg e2] at hj;rw[dM _ e2];exact hg.none_ j hj
def XE{μ μ':Nat->Value}{r k:Nat}{c1 c2:Cell}(hμ:∀j,j≠k->μ' j=μ j)(h1:∀c,get r m=some c->oH μ μ' r c c1)(h2:∀c,get k m=some c->oH μ μ' k c c2):sF μ m μ' (put r c1 (put k c2 m)):=by
 intro j c hj;rw[get_put]
 by_cases e:j=r
 ·subst e;exact⟨c1,by rw[if_pos rfl],h1 c hj⟩
 ·rw[if_neg e,get_put]
  by_cases e2:j=k
  ·subst e2;exact⟨c2,by rw[if_pos rfl],h2 c hj⟩
  ·rw[if_neg e2];refine⟨c,hj, ?_⟩;cases c<;>simp[oH,hμ j e2]
def afE(hA:At base U M0 w0 w m G){t:TypeId}{a:V}{ga:Value}(ha:aC G.μ m (Gh U w G) a ga){v:V}{l l':Log}(h:(afa P t a).run m l=some (v,m',l')):
  x8 base U M0 w0 w m G P (Instr.loadAt t ga) v m':=by
 simp only[afa] at h;replace h:=ah h;obtain⟨_,m1,l1,h1,h⟩:=h;obtain⟨hok,rfl,rfl⟩:=iG h1;simp only[su,Bool.not_eq_true'] at hok;obtain⟨hok,hsz,hagg⟩:=hok;have hsz:=lq hsz;replace h:=ah h;obtain⟨e,m1,l1,h1,h⟩:=h;obtain⟨he,e1,e2⟩:=dn h1;subst e1 e2;cases a with
 |lI r ver i off=>
  simp only at h;replace h:=ah h;obtain⟨c,m2,l2,h2,h⟩:=h;rw[jV] at h2;cases h2;cases hc:get r m1 with
  |none=>rw[hc] at h;exact(ak h).elim
  |some c=>
   rw[hc] at h;cases c with
   |arr fz fl dP s rows=>
    cases fz with
    |true=>exact(ak h).elim
    |false=>cases fl with
     |true=>exact(ak h).elim
     |false=>
      simp only at h;replace h:=ah h;obtain⟨_,m2,l2,h2,h⟩:=h;obtain⟨hb,e1,e2⟩:=bG h2;subst e1 e2;simp only[su] at hb;have UF:=lq hb.1;have hoff:=Nat.le_of_ble_eq_true hb.2;subst UF;replace h:=ah h;obtain⟨row,m2,l2,h2,h⟩:=h;obtain⟨hrow,e1,e2⟩:=dn h2;subst e1 e2;replace h:=ah h;obtain⟨rs,m2,l2,h2,h⟩:=h;obtain⟨hrs,e1,e2⟩:=dn h2;subst e1 e2;replace h:=ah h;obtain⟨_,m2,l2,h2,h⟩:=h;obtain⟨hfl,e1,e2⟩:=bG h2;subst e1 e2;replace h:=ah h;obtain⟨_,m2,l2,h2,h⟩:=h;obtain⟨hn,rfl⟩:=JE h2;replace h:=ah h;obtain⟨_,m3,l3,h3,h⟩:=h;rw[nS] at h3;cases h3;simp only[run_pure,dG,eH] at h;obtain⟨rfl,rfl,_⟩:=h;simp only[aC,hc] at ha;obtain⟨b,n,cap,hμ,rfl⟩:=ha.2.2 trivial;have hcell:=hA.ok.cell r _ hc (by rw[hA.out];simp);rcases hcell with⟨e0,_⟩|⟨b',cap',cs,T,N',k1,k2,k3,k4,k5,k6⟩
      ·rw[e0] at hrow;simp at hrow
      rw[hμ] at k1;simp only[Value.slice.injEq,dG,Addr.mk.injEq] at k1;obtain⟨⟨rfl,_⟩,rfl,rfl⟩:=k1;have hx:row[off]? =some (.sl true (iM P e) rs):=YO (N9 (by simpa[TU] using hrs)) (by simp);obtain⟨g,Na,Nc,Nb,hg,rfl,q1,qh⟩:=aan k5 hrow au hx;have hrun:(Instr.loadAt t (.pointer (some ⟨b,i * s+off,none⟩))).run P w=.ok g w:=by
       refine yh (cs:=[g]) hok (by rw[hsz];rfl) (λj v hj=> ?_) (by simp[valOf,hagg]);cases j with
       |succ j=>simp at hj
       |zero=>simp only[List.getElem?_cons_zero,dG] at hj;subst hj;have:=full_cell (w:=w) k3 (i * s+off);rw[hg] at this;exact this
      have hrk:r≠xu r:=λe=>by rw[<-e,hc] at hn;cases hn
      have hnd:=hA.ok.nd r;rw[k6] at hnd;have hmem:∀y,y∈(b::(Na++Nb))++Nc->y∈G.F r:=λy hy=>by rw[k6];simp only[WI,List.mem_cons,List.mem_append] at hy|-;rcases hy with h|(h|h)|h<;>simp[h]
      have hperm:(b::(Na++Nc++Nb)).Perm ((b::(Na++Nb))++Nc):=by refine List.Perm.cons b ?_;show(Na++Nc++Nb).Perm ((Na++Nb)++Nc);rw[BD,BD];exact List.Perm.append_left Na List.perm_append_comm
      have hμ':∀j,j≠xu r->O8 G.μ (xu r) g j=G.μ j:=λj hj=>wR g hj
      obtain⟨z1,z2⟩:=hA.ok.two hA.out hrk (.jB ver s rows i off) (.arr false true 0 (iM P e) rs) (O8 G.μ (xu r) g) (b::(Na++Nb)) Nc (hperm.nodup_iff.1 hnd) (λy hy=> .inl (hmem y hy))
       (XE hμ' (λc h=>by rw[hc] at h;cases h;exact⟨rfl,Nat.le_refl _,λ_=>⟨hμ' r hrk,rfl⟩⟩) (λc h=>by rw[hn] at h;cases h)) hμ'
       (λhv=>⟨⟨b,cap,cs,T,g,row,Na,Nb,by rw[hμ' r hrk];exact hμ,k2,k3,k4,hg,hrow,au,Xl hv (λ_ _=>rfl) qh,by
        unfold Xk;rw[eU (Ne.symm hrk),dA];exact pz _ _ _,rfl⟩,by
        simp only[iT,pz];exact yT hv (λ_ _=>rfl) (aal (fl:=true) (by simpa[Ky] using hfl) q1)⟩)
      have hsl:IB g:=by simp only[ow] at q1;rcases q1 with⟨_,rfl,_⟩|⟨_,_,_,_,_,rfl,_⟩<;>exact⟨_,_,_,rfl⟩
      refine⟨g,w,_,hrun,hA.still z1 z2 rfl, ?_⟩;simp only[aC,eU (Ne.symm hrk),dA,pz];exact⟨hsl,Nat.le_refl _,λ_=>trivial⟩
   |_=>exact(ak h).elim
 |_=>exact(ak h).elim
def XF(hA:At base U M0 w0 w m G){k:Nat}{u:Unit}{l l':Log}(h:(YD k).run m l=some (u,m',l')):∃G',Nx base U M0 w0 w m G w m' G':=by
 have stay:∀{l2:Log},(Pure.pure ():Acc Unit).run m l2=some (u,m',l')->∃G',Nx base U M0 w0 w m G w m' G':=by intro l2 h;simp only[run_pure,dG,eH] at h;obtain⟨_,rfl,_⟩:=h;exact⟨G,hA.nx⟩
 unfold YD at h;cases hk:ae9 k with
 |false=>rw[hk] at h;exact stay h
 |true=>
  rw[hk] at h;simp only at h;have hkb:=Nat.le_of_ble_eq_true hk;replace h:=ah h;obtain⟨c,m1,l1,h1,h⟩:=h;rw[jV] at h1;simp only[dG,eH] at h1;obtain⟨rfl,rfl,rfl⟩:=h1;cases hc:get (k - BK) m with
  |none=>rw[hc] at h;exact stay h
  |some c=>
   rw[hc] at h;cases c with
   |jB ver s rows i off=>
    simp only at h;replace h:=ah h;obtain⟨c2,m1,l1,h1,h⟩:=h;rw[jV] at h1;simp only[dG,eH] at h1;obtain⟨rfl,rfl,rfl⟩:=h1;split at h
    ·rename_i e rs hck;replace h:=ah h;obtain⟨_,m1,l1,h1,h⟩:=h;obtain⟨hfl,e1,e2⟩:=bG h1;subst e1 e2;replace h:=ah h;obtain⟨row,m1,l1,h1,h⟩:=h;obtain⟨hrow,e1,e2⟩:=dn h1;subst e1 e2;replace h:=ah h;obtain⟨_,m2,l2,h2,h⟩:=h;rw[nS] at h2;cases h2;simp only[nS,dG,eH] at h;obtain⟨_,rfl,_⟩:=h;have hkey:xu (k - BK)=k:=by unfold xu;omega
     have hrk:k - BK≠k:=by unfold BK at *;omega
     obtain⟨b,cap,cs,T,g,row',Na,Nb,k1,k2,k3,k4,k5,k6,k7,k8,k9,k10⟩:=hA.ok.cell _ _ hc (by rw[hA.out];simp);rw[hrow] at k6;cases k6;unfold Xk at k9;rw[hkey,hck] at k9;simp only at k9;have harr:=hA.ok.cell _ _ hck (by rw[hA.out];simp);simp only[iT] at harr;have how:=Tz (by simpa[Ky] using hfl) harr;rw[k9] at how;have hnd:=hA.ok.nd (k - BK);rw[k10] at hnd;have hdj:∀y,y∈G.F k->y≠b/\y ∉ Na/\y ∉ Nb:=λy hy=>by
      have h1:=λhx=>hA.ok.dj _ _ hrk y hx hy
      rw[k10] at h1;simp only[List.mem_cons,List.mem_append] at h1;exact⟨λe=>h1 (.inl e),λe=>h1 (.inr (.inl e)),λe=>h1 (.inr (.inr e))⟩
     obtain⟨z1,z2⟩:=hA.ok.two hA.out hrk (.arr false false ver s (rows.set i (splice row off [.sl true e rs]))) .dead G.μ (b::(Na++G.F k++Nb)) [] (by
       have h2:=List.nodup_cons.1 hnd;have h3:=List.nodup_append.1 h2.2;rw[List.append_nil];refine List.nodup_cons.2 ⟨?_,List.nodup_append.2 ⟨List.nodup_append.2 ⟨h3.1,hA.ok.nd k,λx hx y hy e=>(hdj y hy).2.1 (e ▸ hx)⟩,h3.2.1,λx hx y hy e=> ?_⟩⟩
       ·simp only[List.mem_append,not_or] at h2|-;exact⟨⟨h2.1.1,λhx=>(hdj b hx).1 rfl⟩,h2.1.2⟩
       ·rcases List.mem_append.1 hx with hx|hx
        ·exact h3.2.2 x hx y hy e
        ·exact(hdj x hx).2.2 (e ▸ hy)) (λy hy=>by
       rw[k10];simp only[List.append_nil,List.mem_cons,List.mem_append] at hy|-;rcases hy with h|(h|h)|h
       ·exact .inl (.inl h)
       ·exact .inl (.inr (.inl h))
       ·exact .inr h
       ·exact .inl (.inr (.inr h)))
      (XE (λ_ _=>rfl) (λc h=>by rw[hc] at h;cases h;exact⟨rfl,Nat.le_refl _,λ_=>⟨rfl,rfl⟩⟩) (λc h=>by rw[hck] at h;cases h;trivial)) (λ_ _=>rfl)
      (λhv=>⟨by
       refine .inr ⟨b,cap,cs,T,Na++G.F k++Nb,by rw[k1];simp,by simpa using k2,k3,k4, ?_,rfl⟩;have:=k8 (aX w) _ (.sl true e rs) g (G.F k) hv (λ_ _=>rfl) (JD hv how)
       rwa [aam k5] at this,rfl⟩)
     exact⟨_,hA.still z1 z2 rfl⟩
    ·exact stay h
   |_=>exact stay h
def UK(hA:At base U M0 w0 w m G){a:V}{u:Unit}{l l':Log}(h:(Tj a).run m l=some (u,m',l')):∃G',Nx base U M0 w0 w m G w m' G':=by
 cases a with
 |own r v=>exact XF hA h
 |lI r v i o=>exact XF hA h
 |_=>simp only[Tj,run_pure,dG,eH] at h;obtain⟨_,rfl,_⟩:=h;exact⟨G,hA.nx⟩
def al0{H:Heap}{h h':View}(hl:h.le h'){s:Nat}{rows:List Row}{v:Value}{N:List Nat}(hs:NW h' H N)(q:O5 H h s rows v N):ro h' (.sl false s rows) v:=by
 simp only[ro];rcases q with⟨rfl,rfl,_⟩|⟨b,o,cap,cs,t,rfl,h2,h3,h4,h5,rfl⟩
 ·exact⟨none,0,rfl,Nat.le_refl _,λe=>absurd rfl e⟩
 ·exact⟨_,cap,rfl,h2,λ_=>⟨b,o,rfl,Ih rows o _ (λj v hj=>hs b (by simp) cs t _ h3 (o+j) v (by rwa [List.getElem?_drop] at hj)) (jv hl _ _ _ h5)⟩⟩
def At.release(hA:At base U M0 w0 w m G){r ver s:Nat}{rows:List Row}(hc:get r m=some (.xk ver s rows)):∃G',Nx base U M0 w0 w m G w (put r .dead m) G'/\ro (Gh U w G') (.sl false s rows) (G.μ r):=by
 have hro:r ∉ G.out:=by rw[hA.out];simp
 have hle:sF G.μ m G.μ (put r .dead m):=qg (λ_ _=>rfl) (λc h=>by rw[hc] at h;cases h;trivial);have hcell:O5 (aX w) (Gh U w G) s rows (G.μ r) (G.F r):=hA.ok.cell r _ hc hro;obtain⟨z1,z2⟩:=hA.ok.set r .dead G.μ [] G.E G.out (by simpa using hA.ok.Ug) (by simp;exact λb hb=> .inr hb) hle (λ_ _=>rfl) (λ_ _=>Iff.rfl) (λ_=>rfl) (λ_ _=>rfl);have hnx:=hA.still z1 z2 hA.out;refine⟨_,hnx,al0 hnx.view (yV λb hb=>⟨(hA.ok.lt b (.inr ⟨r,hb⟩)).2.2, ?_⟩) hcell⟩;rintro(hE|⟨k,hk⟩)
 ·simp at hE
 ·have hk:b∈Dy G.F r [] k:=hk
  by_cases e:k=r
  ·subst e;simp at hk
  ·rw[dM _ e] at hk;exact hA.ok.dj r k (Ne.symm e) b hb hk
def afF{k:Nat}{u:Unit}{l l':Log}(h:(free k).run m l=some (u,m',l')):get k m=none/\m'=m:=by
 simp only[free] at h;replace h:=ah h;obtain⟨c',m4,l4,h4,h⟩:=h;rw[jV] at h4;cases h4;cases hd:get k m with
 |some c=>rw[hd] at h;exact(ak h).elim
 |none=>rw[hd] at h;simp only[run_pure,dG,eH] at h;exact⟨rfl,h.2.1.symm⟩
def YT{x y:V}(h:Tq x y=true):x=y:=by
 unfold Tq at h;split at h
 ·simp only[su] at h;have h1:=lq h.1;have h2:=lq h.2;subst h1 h2;rfl
 ·cases h
def ad9(hA:At base U M0 w0 w m G){dst:Nat}{t ty ry:TypeId}{x y:V}{gx gy:Value}(hx:aC G.μ m (Gh U w G) x gx)(hy:aC G.μ m (Gh U w G) y gy)(hxy:Tq x y=true){v:V}{l l':Log}(h:(abC P dst t ty x).run m l=some (v,m',l')):
  x8 base U M0 w0 w m G P (Builtin.append_ #[t,ty] ry #[gx,gy]) v m':=by
 cases YT hxy;simp only[abC] at h;replace h:=ah h;obtain⟨e,m1,l1,h1,h⟩:=h;obtain⟨he,e1,e2⟩:=dn h1;subst e1 e2;replace h:=ah h;obtain⟨_,m1,l1,h1,h⟩:=h;obtain⟨hs1,e1,e2⟩:=bG h1;subst e1 e2;replace h:=ah h;obtain⟨_,m1,l1,h1,h⟩:=h;obtain⟨hty,e1,e2⟩:=bG h1;subst e1 e2;replace h:=ah h;obtain⟨z,m1,l1,h1,h⟩:=h;obtain⟨hz,e1,e2⟩:=dn h1;subst e1 e2;replace h:=ah h;obtain⟨_,m1,l1,h1,h⟩:=h;obtain⟨hzs,e1,e2⟩:=bG h1;subst e1 e2;have hu:=Fp he;have hty':(∃e',P.underlying ty=some (.slice e'))\/P.underlying ty=some .string:=by
  unfold sliceT at hty;cases hq:P.underlying ty with
  |none=>simp[hq] at hty
  |some d=>rw[hq] at hty;cases d<;>simp at hty;exact .inl ⟨_,rfl⟩
 obtain⟨inf,zv,hi,hzv,afx⟩:=DV (m:=m1) (μ:=G.μ) (h:=Gh U w G) hz;have hzs:zv.cells.size=iM P e:=by rw[<-lq hzs,<-eP afx,Array.length_toList]
 have hsz:iM P e=inf.size:=wZ hi;have hby:GN P e=inf.bytes:=by simp[GN,hi]
 cases x with
 |own r ver=>
  simp only at h;replace h:=ah h;obtain⟨c,m3,l3,h3,h⟩:=h;rw[jV] at h3;cases h3;cases hc:get r m1 with
  |none=>rw[hc] at h;exact(ak h).elim
  |some c=>
   rw[hc] at h;cases c with
   |arr fz fl dP s rows=>
    cases fz with
    |true=>exact(ak h).elim
    |false=>cases fl with
     |true=>exact(ak h).elim
     |false=>
      simp only at h;replace h:=ah h;obtain⟨_,m2,l2,h2,h⟩:=h;obtain⟨hb,e1,e2⟩:=bG h2;subst e1 e2;simp only[su] at hb;have hb1:=lq hb.1;have hb2:=lq hb.2;subst hb1;replace h:=ah h;obtain⟨_,m2,l2,h2,h⟩:=h;obtain⟨hroom,e1,e2⟩:=bG h2;subst e1 e2;simp only[su] at hroom;have hr1:=Fz hroom.1;rw[hby] at hr1;have hr2:=Fz hroom.2;replace h:=ah h;obtain⟨_,m2,l2,h2,h⟩:=h;obtain⟨hdn,e1⟩:=afF h2;subst e1;replace h:=ah h;obtain⟨_,m3,l3,h3,h⟩:=h;rw[nS] at h3;cases h3;replace h:=ah h;obtain⟨_,m3,l3,h3,h⟩:=h;rw[nS] at h3;cases h3;simp only[run_pure,dG,eH] at h;obtain⟨rfl,rfl,_⟩:=h;simp only[aC,hc] at hx hy;have hx:=hx.2.2 trivial;have hy:=hy.2.2 trivial;subst hx;cases hy;have hro:r ∉ G.out:=by rw[hA.out];simp
      obtain⟨k1,k2,k3⟩:=hA.ok.kill hc hro;have hrd:dst≠r:=λe=>by rw[e,hc] at hdn;cases hdn
      have atX:get dst (put r .dead m2)=none:=by rw[eU hrd];exact hdn
      have Pq:Fr M0 w0 w ⟨G.μ,Dy G.F r [],G.E++G.F r,G.out⟩:=hA.fr.less k2.ex;have hlen:(aF rows).length=rows.length:=En rows;obtain⟨N0,hq0,ao4⟩:∃N0,(∀b,b∈N0->b∈G.F r)/\N0.Nodup/\∀h':View,(Gh U w ⟨G.μ,Dy G.F r [],G.E++G.F r,G.out⟩).le h'->(∀j,j∈G.E++G.F r->j ∉ N0->NW h' (aX w) [j])->O5 (aX w) h' s (aF rows) (G.μ r) N0:=by
       rcases k3 with⟨rfl,hμ,hF⟩|⟨b,cap,cs,T,N',h1,h2,h3,h4,h5,hF⟩
       ·exact⟨[],by simp,by simp,λh' _ _=> .inl ⟨rfl,hμ,rfl⟩⟩
       ·have hnd:=hA.ok.nd r;rw[hF] at hnd;refine⟨[b],by simp[hF],by simp,λh' hv hs=> .inr ⟨b,0,cap,cs,T,by rw[hlen];exact h1,by rw[hlen];exact h2,h3,by rw[h4];omega, ?_,rfl⟩⟩;rw[List.drop_zero];refine KZ (yg (k2.view.trans' hv) s rows cs.toList N' (λy hy=> ?_) h5);refine hs y (by rw[hF];simp[hy]) (λhb=> ?_) y (by simp);simp only[List.mem_singleton] at hb;exact(List.nodup_cons.1 hnd).1 (hb ▸ hy)
      obtain⟨alW,hq⟩:=ao4;have hnx1:=k1.fresh hA.out Pq (c':=.xk 0 s (aF rows)) (gv:=G.μ r) (N:=N0) atX (Keep.refl [] w) alW (λb hb=>⟨.inl (by simp[hq0 b hb]),(hA.ok.lt b (.inr ⟨r,hq0 b hb⟩)).1⟩)
       (λh' hv _ hs=>by simp only[iT,pz];exact hq h' hv hs)
      have hA1:=hnx1.at_;have hcell:O5 (aX w) (Gh U w ⟨O8 G.μ dst (G.μ r),Dy (Dy G.F r []) dst N0,[],[]⟩) s (aF rows) (O8 G.μ dst (G.μ r) dst) (Dy (Dy G.F r []) dst N0 dst):=
       hA1.ok.cell dst _ (dA _ _ _) (by simp)
      obtain⟨news,hsrc,hsn⟩:∃news,Src P inf.size w (O8 G.μ dst (G.μ r) dst) (aF rows).length news/\dD (Gh U w ⟨O8 G.μ dst (G.μ r),Dy (Dy G.F r []) dst N0,[],[]⟩) s (aF rows) news:=by
       rcases hcell with⟨e0,hμ,_⟩|⟨b,o,cap,cs,T,h1,h2,h3,h4,h5,_⟩
       ·rw[e0,hμ];exact⟨[],Src.slice (by simp) (by simp) (by simp),trivial⟩
       ·have hle:(aF rows).length * s<=(cs.toList.drop o).length:=by
         have hl:(cs.toList.drop o).length=cs.size - o:=by simp
         rw[hl];have:=Nat.mul_le_mul_right s h2;omega
        rw[h1];refine⟨(cs.toList.drop o).take ((aF rows).length * s),Src.slice (by rw[MW,Nat.min_eq_left hle,<-hsz,<-hb2]) (λu hu=>Gf h5 u hu) (λ_=>⟨b,o,rfl,λj v hj=> ?_⟩),kF (by rw[List.take_take,Nat.min_self]) h5⟩;rw[List.getElem?_take] at hj;split at hj
        ·rw[List.getElem?_drop] at hj;have:=full_cell (w:=w) h3 (o+j);rw[hj] at this;exact this
        ·cases hj
      obtain⟨g,w',G2,hrun,hnx2,hs2⟩:=ada (ry:=ry) hA1.ok (KE.refl _ _) hA1.out hA1.fr (dA dst _ _) hu hty' hi hzv (hb2.trans hsz) (by rw[hb2];exact hzs) hsrc ⟨hsn,rfl⟩ (by rw[hlen];exact hr1) (by rw[hlen];exact hr2) hcell;obtain⟨G3,hnx3,atY⟩:=hnx2.at_.release (dA dst _ _);simp only[aC,dA] at hs2;have hg:=hs2.2.2 trivial;simp only[pz] at hrun;refine⟨g,w',G3,hrun, ?_, ?_⟩
      ·have:=(Nx.after k2 hnx1).trans (hnx2.trans hnx3)
       rwa [TD,TD] at this
      ·simp only[aC];rw[hg];exact atY
   |_=>exact(ak h).elim
 |_=>exact(ak h).elim
end
end Go.Vm
namespace Go.Vm
open Go
section
variable {base:Nat} {U:Nat->Prop} {M0:List Nat} {w0 w w':World} {m m':Mem} {G G':GS} {X:Ctx}
def ao5(P:Program)(w:World)(s:Sem Value):((do pure (.value (<-s))):Sem Next).run P w=(s.run P w).andThen λg w'=> .ok (.value g) w':=by simp only[Sem.run_bind,Sem.run_pure]
def zQ{o:Oper}{a:Act}{next:Act->World->Prop}{Q:Exit->Act->World->Prop}{s:Sem Value}{v:V}
  (he:(execOp a.eval o).run X.P w=((do pure (.value (<-s))):Sem Next).run X.P w) (h:x8 base U M0 w0 w m G X.P s v m')
  (hn:∀g w' G',Nx base U M0 w0 w m G w' m' G'->aC G'.μ m' (Gh U w' G') v g->next (a.put o.dst g) w'):o.wp X.P a w next Q:=by
 obtain⟨g,w',G',hr,hx,hs⟩:=h;exact zO (by rw[he,ao5,hr];rfl) (hn g w' G' hx hs)
def abX{P:Program}{tm:iF}{xs:List Operand}{ts:List TypeId}{a:V}(h:mX P tm xs ts=[a]):∃x,xs=[x]/\a=ev P tm (ts.headD 0) x:=by
 cases xs with
 |nil=>simp[mX] at h
 |cons x xs=>
  cases xs with
  |nil=>simp only[mX,List.cons.injEq,and_true] at h;exact⟨x,rfl,h.symm⟩
  |cons _ _=>simp[mX] at h
def Oi{P:Program}{tm:iF}{xs:List Operand}{ts:List TypeId}{a b:V}(h:mX P tm xs ts=[a,b]):∃x y,xs=[x,y]/\a=ev P tm (ts.headD 0) x/\b=ev P tm (ts.tail.headD 0) y:=by
 cases xs with
 |nil=>simp[mX] at h
 |cons x xs=>
  cases xs with
  |nil=>simp[mX] at h
  |cons y xs=>
   cases xs with
   |nil=>simp only[mX,List.cons.injEq,and_true] at h;exact⟨x,y,rfl,h.1.symm,h.2.symm⟩
   |cons _ _=>simp[mX] at h
def Je{α:Type}{a:Array α}{l:List α}(h:a.toList=l):a=l.toArray:=by rw[<-h]
def al1(hg:O7 X (Gh U w G)){tm:iF}{a:Act}(hT:Po G.μ m (Gh U w G) tm a)(t:TypeId)(x:Operand):aC G.μ m (Gh U w G) (evG X tm t x) (a.eval x):=by
 cases x with
 |global g=>
  simp only[evG];cases hr:X.glob g with
  |none=>simp[aC]
  |some row=>simp only[aC];exact⟨g,0,rfl,hg.row g row hr⟩
 |tmp i=>exact Jb (P:=X.P) hT t (.tmp i)
 |const v=>exact Jb (P:=X.P) hT t (.const v)
 |func f=>exact Jb (P:=X.P) hT t (.func f)
def aao{base:Nat}{U:Nat->Prop}{M0:List Nat}{w0 w:World}{G:GS}{m:Mem}(hA:At base U M0 w0 w m G):∀{vs:List V} {gs:List Value} (_:bD G.μ m (Gh U w G) vs gs) {vs':List V} {m':Mem} {l l':Log}
  (_:(Z4 vs).run m l=some (vs',m',l')),m'=m/\bD G.μ m (Gh U w G) vs' gs
 |[],gs,hv,vs',m',l,l',h=>by simp only[Z4,run_pure,dG,eH] at h;obtain⟨rfl,rfl,rfl⟩:=h;exact⟨rfl,hv⟩
 |v::vs,gs,hv,vs',m',l,l',h=>by
  obtain⟨g,gs',rfl,hv1,hv2⟩:=jl hv;simp only[Z4] at h;replace h:=ah h;obtain⟨x,m1,l1,h1,h⟩:=h;replace h:=ah h;obtain⟨ys,m2,l2,h2,h⟩:=h;simp only[run_pure,dG,eH] at h;obtain⟨rfl,rfl,rfl⟩:=h;have step:m1=m/\aC G.μ m (Gh U w G) x g:=by
   cases v with
   |ptr r off=>
    simp only at h1;replace h1:=ah h1;obtain⟨c,m3,l3,h3,h1⟩:=h1;rw[jV] at h3;cases h3;cases hc:get r m with
    |none=>rw[hc] at h1;simp only[run_pure,dG,eH] at h1;obtain⟨rfl,rfl,rfl⟩:=h1;exact⟨rfl,hv1⟩
    |some c=>
     rw[hc] at h1;cases c with
     |jM T x=>simp only at h1;replace h1:=ah h1;obtain⟨_,m3,l3,h3,h1⟩:=h1;obtain⟨h0,rfl,rfl⟩:=bG h3;have h0:=lq h0;subst h0;simp only[run_pure,dG,eH] at h1;obtain⟨rfl,rfl,rfl⟩:=h1;refine⟨rfl, ?_⟩;simp only[aC,hc] at hv1|-;obtain⟨_,b,hμ,rfl⟩:=hv1;obtain⟨_,b',y,e1,e2,e3⟩:=hA.ok.cell r _ hc (by rw[hA.out];simp);rw[hμ] at e1;cases e1;exact⟨b,y,rfl,e2,e3⟩
     |_=>simp only[run_pure,dG,eH] at h1;obtain⟨rfl,rfl,rfl⟩:=h1;exact⟨rfl,hv1⟩
   |_=>simp only[run_pure,dG,eH] at h1;obtain⟨rfl,rfl,rfl⟩:=h1;exact⟨rfl,hv1⟩
  obtain⟨rfl,hx⟩:=step;obtain⟨hm2,hys⟩:=aao hA hv2 h2;refine⟨hm2, ?_⟩;simp only[bD];exact⟨g,gs',rfl,hx,hys⟩
def al2{K:fM}(hK:Ld X K U M0 w0)(hA:At base U M0 w0 w m G){fn:Nat}{tm:iF}{a:Act}(hT:Po G.μ m (Gh U w G) tm a){o:Oper}{v:V}{l l':Log}(h:(Xj X K fn tm o).run m l=some (v,m',l'))
  {next:Act->World->Prop} {Q:Exit->Act->World->Prop} (hn:∀g w' G',Nx base U M0 w0 w m G w' m' G'->aC G'.μ m' (Gh U w' G') v g->next (a.put o.dst g) w'):o.wp X.P a w next Q:=by
 have E:=λt x=>Jb (P:=X.P) hT t x
 have EG:=λt x=>al1 (yc hA.first hK.gl) hT t x
 unfold Xj at h;simp only at h;split at h
 ·rename_i x hop;simp only[run_pure,dG,eH] at h;obtain⟨rfl,rfl,_⟩:=h;exact zO (by simp[execOp,hop]) (hn _ _ _ hA.nx (E _ x))
 ·rename_i x hop;simp only[run_pure,dG,eH] at h;obtain⟨rfl,rfl,_⟩:=h;exact zO (by simp[execOp,hop]) (hn _ _ _ hA.nx (E _ x))
 ·rename_i c x y hop;refine zQ ?_ (afB hA (E _ c) (E _ x) (E _ y) h) hn;simp[execOp,hop]
 ·rename_i T hop;replace h:=ah h;obtain⟨z,m1,l1,h1,h⟩:=h;obtain⟨hz,rfl,rfl⟩:=dn h1;replace h:=ah h;obtain⟨u,m2,l2,h2,h⟩:=h;simp only[run_pure,dG,eH] at h;obtain⟨rfl,rfl,_⟩:=h;refine zQ ?_ (afu hA hz h2) hn;simp[execOp,hop]
 ·rename_i T x hop;replace h:=ah h;obtain⟨_,m1,l1,h1,h⟩:=h;obtain⟨hsz,rfl,rfl⟩:=bG h1;replace h:=ah h;obtain⟨_,m1,l1,h1,h⟩:=h;obtain⟨hone,rfl,rfl⟩:=bG h1;replace h:=ah h;obtain⟨u,m2,l2,h2,h⟩:=h;simp only[run_pure,dG,eH] at h;obtain⟨rfl,rfl,_⟩:=h;refine zQ ?_ (alX hA (E T x) hone h2) hn;simp[execOp,hop]
 ·rename_i T ps hop;refine zQ ?_ (adY hA hT h) hn;simp[execOp,hop]
 ·rename_i t n ps hop;refine zQ ?_ (UC hA hT h) hn;simp[execOp,hop]
 ·rename_i t x hop;split at h
  ·refine zQ ?_ (afE hA (EG 0 x) h) hn;simp[execOp,hop]
  ·obtain⟨g,hr,rfl,hs⟩:=afr hA (EG 0 x) h;refine zQ ?_ (x8.same hA hr hs) hn;simp[execOp,hop]
 ·rename_i t x y hop;replace h:=ah h;obtain⟨u,m1,l1,h1,h⟩:=h;replace h:=ah h;obtain⟨u2,m2,l2,h2,h⟩:=h;simp only[run_pure,dG,eH] at h;obtain⟨rfl,rfl,_⟩:=h;obtain⟨w',G',hr,hx⟩:=adW hA (E 0 x) (E t y) h1;obtain⟨G2,hx2⟩:=UK hx.at_ h2;refine wp_skip (w':=w') ?_ (hn _ _ _ (hx.trans hx2) trivial);simp[execOp,hop,hr]
 ·rename_i x hop;have hE:=EG o.type x;have key:∀{b:Nat} {q:Nat},a.eval x=.pointer (some ⟨b,q,none⟩)->v=evG X tm o.type x->m'=m->o.wp X.P a w next Q:=by intro b q hx hv hm;subst hm;refine zO (g:=a.eval x) ?_ (hn _ _ _ hA.nx (by rw[hv];exact hE));simp[execOp,hop,hx]
  split at h
  ·rename_i r off hv;simp only[run_pure,dG,eH] at h;rw[hv] at hE key;obtain⟨b,q,hp⟩:=hE.1;exact key hp h.1.symm h.2.1.symm
  ·rename_i row off hv;simp only[run_pure,dG,eH] at h;rw[hv] at hE key;obtain⟨b,q,hp,_⟩:=hE;exact key hp h.1.symm h.2.1.symm
  ·rename_i r ver i off hv;simp only[run_pure,dG,eH] at h;rw[hv] at hE key;obtain⟨b,q,hp⟩:=hE.1;exact key hp h.1.symm h.2.1.symm
  ·exact(ak h).elim
 ·rename_i op t x y t' hop;refine zQ ?_ (ahH (ox:=x) (oy:=y) hA (E t x) (E t' y) h) hn;simp[execOp,hop]
 ·rename_i op t x hop;refine zQ ?_ (ao2 hA (E t x) h) hn;simp[execOp,hop]
 ·rename_i s d x hop;refine zQ ?_ (aak hA (E s x) h) hn;simp[execOp,hop]
 ·rename_i f first caps hop
  replace h:=ah h;obtain⟨cs,m1,l1,h1,h⟩:=h;obtain⟨rfl,hcs⟩:=aao hA (L9 (P:=X.P) hT caps.toList []) h1;simp only[run_pure,dG,eH] at h;obtain⟨rfl,rfl,_⟩:=h;refine zO (g:=.func (.func f) (first.map a.eval) (caps.map a.eval)) (by simp[execOp,hop,Instr.makeFunc]) (hn _ _ _ hA.nx ?_);simp only[aC];exact⟨_,_,rfl,by simpa using L9 (P:=X.P) hT first.toList [],by simpa using hcs⟩
 ·rename_i t x y hop;refine zQ ?_ (WS hA (E _ x) (E _ y) h) hn;simp[execOp,hop]
 ·rename_i t x lo hi hop;have gen:(YF X.P t (evG X tm t x) (lo.map (ev X.P tm 3)) (hi.map (ev X.P tm 3))).run m l=some (v,m',l')->o.wp X.P a w next Q:=by
   intro h;refine zQ ?_ (ad3 (YS:=lo.map a.eval) (ghi:=hi.map a.eval) hA (EG _ x) ?_ ?_ h) hn
   ·simp[execOp,hop]
   ·cases lo with
    |none=>rfl
    |some x=>exact⟨_,rfl,E _ x⟩
   ·cases hi with
    |none=>rfl
    |some x=>exact⟨_,rfl,E _ x⟩
  cases ht:X.Bf.trunc fn (o.dst.getD 0) with
  |false=>rw[ht] at h;exact gen h
  |true=>
   rw[ht] at h;cases lo with
   |some z=>
    cases hi with
    |some _=>exact gen h
    |none=>refine zQ ?_ (afA hA (E _ x) (E _ z) h) hn;simp[execOp,hop]
   |none=>
    refine zQ ?_ (ad4 (ghi:=hi.map a.eval) hA (E _ x) ?_ h) hn
    ·simp[execOp,hop]
    ·cases hi with
     |none=>rfl
     |some x=>exact⟨_,rfl,E _ x⟩
 ·rename_i T x f hop;refine zQ ?_ (WO hA (E _ x) h) hn;simp[execOp,hop]
 ·rename_i T x f hop;refine zQ ?_ (adZ hA (E _ x) h) hn;simp[execOp,hop]
 ·rename_i t x i hop;refine zQ ?_ (WR hA (EG _ x) (E _ i) h) hn;simp[execOp,hop]
 ·rename_i t x i hop;refine zQ ?_ (ad1 hA (E _ x) (E _ i) h) hn;simp[execOp,hop]
 ·rename_i x i hop;split at h
  ·rename_i vs hv;obtain⟨hi,rfl,rfl⟩:=dn h;have hE:=E 0 x;rw[hv] at hE;simp only[aC] at hE;obtain⟨arr,ha,hs⟩:=hE;obtain⟨g,hg,hq⟩:=afC hs hi;refine zO (g:=g) ?_ (hn _ _ _ hA.nx hq);simp[execOp,hop,ha,Instr.extract,hg]
  ·exact(ak h).elim
 ·rename_i f args tys hop;split at h
  ·rename_i g first caps hv
   have hE:=E 0 f;rw[hv] at hE;simp only[aC] at hE;obtain⟨fa,ca,hf,hs1,hs2⟩:=hE;have hargs:=BO (BO hs1 (L9 (P:=X.P) hT args.toList tys.toList)) hs2;obtain⟨he,hc⟩:=afD hK hA hargs h;have harr:(fa.toList++args.toList.map a.eval++ca.toList).toArray=fa++args.map a.eval++ca:=by apply Array.ext';simp
   rw[harr] at he hc;unfold Oper.wp;have hrun:(execOp a.eval o).run X.P w=.ok (.enter g (fa++args.map a.eval++ca)) w:=by simp only[execOp,hop,resolve,hf,Deferred.ofValue,Sem.run_bind,Sem.run_pure,Result.andThen_ok,invoke,he]
   rw[hrun,Oper.upon_enter];refine Calls.mono hc ?_;rintro e w' ⟨g',G',rfl,hx,hq⟩;exact hn g' w' G' hx hq
  ·exact(ak h).elim
 ·rename_i args tys hop;split at h
  ·rename_i x hx;obtain⟨ox,hxs,rfl⟩:=abX hx;replace h:=ah h;obtain⟨_,m1,l1,h1,h⟩:=h;obtain⟨hk,rfl,rfl⟩:=bG h1;have hx0:=E (tys.toList.headD 0) ox;unfold aoU at hk;split at hk
   ·rename_i t ht;have hxs:=Je hxs;have hts:=Je ht;replace h:=ah h;obtain⟨v1,m1,l1,h1,h⟩:=h;replace h:=ah h;obtain⟨u2,m2,l2,h2,h⟩:=h;simp only[run_pure,dG,eH] at h;obtain⟨rfl,rfl,_⟩:=h;have hlen:=ahE (P:=X.P) (t:=t) (ty:=o.type) hA hx0 ?_ ?_ h1
    ·obtain⟨g,w',G',hr,hx,hs⟩:=hlen;obtain⟨G2,hx2⟩:=UK hx.at_ h2;refine zQ (s:=Builtin.len_ #[t] o.type #[a.eval ox]) ?_ ⟨g,w',G2,hr,hx.trans hx2,hx2.aC hs⟩ hn;simp[execOp,hop,resolve,invoke,builtin,hxs,hts]
    ·intro s hs;rw[hs] at hk;simp only at hk;cases hu:X.P.underlying t with
     |none=>rw[hu] at hk;cases hk
     |some d=>rw[hu] at hk;cases d<;>simp at hk;rfl
    ·intro hs;split at hk
     ·rename_i s hv;exact absurd hv (hs s)
     ·cases hu:X.P.underlying t with
      |none=>rw[hu] at hk;cases hk
      |some d=>rw[hu] at hk;cases d<;>simp at hk;exact⟨_,rfl⟩
   ·cases hk
  ·exact(ak h).elim
 ·rename_i args tys hop;split at h
  ·rename_i x y t t' hxy ht;obtain⟨ox,oy,hxs,rfl,rfl⟩:=Oi hxy;have hxs:=Je hxs;have hts:=Je ht;split at h
   ·rename_i hso;refine zQ (s:=Builtin.append_ #[t,t'] o.type #[a.eval ox,a.eval oy]) ?_ (ad9 hA (E _ ox) (E _ oy) hso h) hn;simp[execOp,hop,resolve,invoke,builtin,hxs,hts]
   ·refine zQ (s:=Builtin.append_ #[t,t'] o.type #[a.eval ox,a.eval oy]) ?_ (abS hA (E _ ox) (E _ oy) h) hn;simp[execOp,hop,resolve,invoke,builtin,hxs,hts]
  ·exact(ak h).elim
 ·rename_i args tys hop;split at h
  ·rename_i k x k' y hxy;obtain⟨ox,oy,hxs,h1,h2⟩:=Oi hxy;have hxs:=Je hxs;have e1:=E (tys.toList.headD 0) ox;have e2:=E (tys.toList.tail.headD 0) oy;rw[<-h1] at e1;rw[<-h2] at e2;simp only[aC,ro] at e1 e2;simp only[run_pure,dG,eH] at h;obtain⟨rfl,rfl,_⟩:=h;refine zO (g:=.int k (bif decide (x<y) then y else x)) ?_ (hn _ _ _ hA.nx (by simp[aC,ro]))
   by_cases hlt:x<y<;>simp[execOp,hop,resolve,invoke,builtin,hxs,e1,e2,Builtin.max_,Builtin.max2,hlt]
  ·exact(ak h).elim
 ·rename_i args tys hop;split at h
  ·rename_i k x k' y hxy;obtain⟨ox,oy,hxs,h1,h2⟩:=Oi hxy;have hxs:=Je hxs;have e1:=E (tys.toList.headD 0) ox;have e2:=E (tys.toList.tail.headD 0) oy;rw[<-h1] at e1;rw[<-h2] at e2;simp only[aC,ro] at e1 e2;simp only[run_pure,dG,eH] at h;obtain⟨rfl,rfl,_⟩:=h;refine zO (g:=.int k (bif decide (y<x) then y else x)) ?_ (hn _ _ _ hA.nx (by simp[aC,ro]))
   by_cases hlt:y<x<;>simp[execOp,hop,resolve,invoke,builtin,hxs,e1,e2,Builtin.min_,Builtin.min2,hlt]
  ·exact(ak h).elim
 ·exact(ak h).elim
end
end Go.Vm
namespace Go.Vm
open Go
def aea{α:Type}(A:Acc α):∀{m:Mem} {l:Log} {v:α} {m':Mem} {l':Log},A.run m l=some (v,m',l')->
  ∃R W,l'=⟨R++l.r,W++l.w⟩/\(∀k,k ∉ W->get k m'=get k m)/\
   ∀m2 l2,(∀k,k∈R->get k m2=get k m)->∃m2',A.run m2 l2=some (v,m2',⟨R++l2.r,W++l2.w⟩)/\(∀k,k∈W->get k m2'=get k m')/\(∀k,k ∉ W->get k m2'=get k m2):=by
 induction A with
 |ret a=>intro m l v m' l' h;simp only[Acc.run,dG,eH] at h;obtain⟨rfl,rfl,rfl⟩:=h;exact⟨[],[],rfl,λ_ _=>rfl,λm2 l2 _=>⟨m2,rfl,λ_ h=>by simp at h,λ_ _=>rfl⟩⟩
 |fail=>intro m l v m' l' h;simp[Acc.run] at h
 |get k c ih=>intro m l v m' l' h;simp only[Acc.run] at h;obtain⟨R,W,e,h1,h2⟩:=ih _ h;refine⟨R++[k],W,by rw[e];simp[Log.rd],h1,λm2 l2 hm=> ?_⟩;obtain⟨m2',q1,q2,q3⟩:=h2 m2 (l2.rd k) (λj hj=>hm j (by simp[hj]));refine⟨m2', ?_,q2,q3⟩;simp only[Acc.run];rw[hm k (by simp),q1];simp[Log.rd]
 |set k x c ih=>
  intro m l v m' l' h;simp only[Acc.run] at h;obtain⟨R,W,e,h1,h2⟩:=ih h;refine⟨R,W++[k],by rw[e];simp[Log.wr],λj hj=> ?_,λm2 l2 hm=> ?_⟩
  ·simp only[List.mem_append,List.mem_singleton,not_or] at hj;rw[h1 j hj.1,eU hj.2]
  ·obtain⟨m2',q1,q2,q3⟩:=h2 (put k x m2) (l2.wr k) (λj hj=>by
    rw[get_put,get_put];split
    ·rfl
    ·exact hm j hj)
   refine⟨m2', ?_,λj hj=> ?_,λj hj=> ?_⟩
   ·simp only[Acc.run];rw[q1];simp[Log.wr]
   ·by_cases hw:j∈W
    ·exact q2 j hw
    ·have hjk:j=k:=by simpa[hw] using hj
     subst hjk;rw[q3 j hw,h1 j hw,dA,dA]
   ·simp only[List.mem_append,List.mem_singleton,not_or] at hj;rw[q3 j hj.1,eU hj.2]
 |opt o c ih=>
  intro m l v m' l' h;cases o with
  |none=>simp[Acc.run] at h
  |some b=>simp only[Acc.run] at h;obtain⟨R,W,e,h1,h2⟩:=ih _ h;exact⟨R,W,e,h1,λm2 l2 hm=>by simpa only[Acc.run] using h2 m2 l2 hm⟩
 |guard b c ih=>
  intro m l v m' l' h;cases b with
  |false=>simp[Acc.run] at h
  |true=>simp only[Acc.run] at h;obtain⟨R,W,e,h1,h2⟩:=ih h;exact⟨R,W,e,h1,λm2 l2 hm=>by simpa only[Acc.run] using h2 m2 l2 hm⟩
def Jf{P:Program}{tm GY:iF}{t:TypeId}{x:Operand}(h:∀i,x=.tmp i->get i tm=get i GY):ev P tm t x=ev P GY t x:=by
 cases x with
 |tmp i=>simp only[ev,IY,h i rfl]
 |_=>rfl
def aeb{X:Ctx}{tm GY:iF}{t:TypeId}{x:Operand}(h:∀i,x=.tmp i->get i tm=get i GY):evG X tm t x=evG X GY t x:=by
 cases x with
 |global g=>rfl
 |tmp i=>exact Jf (P:=X.P) (t:=t) h
 |const v=>rfl
 |func f=>rfl
def Gg{P:Program}{tm GY:iF}:∀{xs:List Operand} {ts:List TypeId},(∀x∈xs,∀i,x=.tmp i->get i tm=get i GY)->mX P tm xs ts=mX P GY xs ts
 |[],_,_=>rfl
 |x::xs,ts,h=>by simp only[mX];rw[Jf (h x (by simp)),Gg λy hy=>h y (by simp[hy])]
def Jg{P:Program}{T:TypeId}{tm GY:iF}:∀{ps:List (Nat×Operand)} {cs:List V},(∀x∈ps,∀i,x.2=.tmp i->get i tm=get i GY)->nP P T tm ps cs=nP P T GY ps cs
 |[],_,_=>rfl
 |(f,x)::ps,cs,h=>by
  simp only[nP];have e:∀t,ev P tm t x=ev P GY t x:=λt=>Jf (h (f,x) (by simp))
  have r:∀cs,nP P T tm ps cs=nP P T GY ps cs:=λcs=>Jg λy hy=>h y (by simp[hy])
  simp only[e,r]
def Ij{P:Program}{e:TypeId}{tm GY:iF}:∀{ps:List (Nat×Operand)} {cs:List V},(∀x∈ps,∀i,x.2=.tmp i->get i tm=get i GY)->lu P e tm ps cs=lu P e GY ps cs
 |[],_,_=>rfl
 |(f,x)::ps,cs,h=>by
  simp only[lu];have e1:ev P tm e x=ev P GY e x:=Jf (h (f,x) (by simp));have r:∀cs,lu P e tm ps cs=lu P e GY ps cs:=λcs=>Ij λy hy=>h y (by simp[hy])
  simp only[e1,r]
def Jh{P:Program}{T:TypeId}{tm GY:iF}:∀{ps:List (Nat×Operand)} {k:Nat},(∀x∈ps,∀i,x.2=.tmp i->get i tm=get i GY)->nR P T tm k ps=nR P T GY k ps
 |[],_,_=>rfl
 |(f,x)::ps,k,h=>by
  simp only[nR];have e:∀t,ev P tm t x=ev P GY t x:=λt=>Jf (h (f,x) (by simp))
  have r:∀k,nR P T tm k ps=nR P T GY k ps:=λk=>Jh λy hy=>h y (by simp[hy])
  simp only[e,r]
def aec{X:Ctx}{K:fM}{fn:Nat}{tm GY:iF}{o:Oper}(h:∀x∈o.op.operands,∀i,x=.tmp i->get i tm=get i GY):Xj X K fn tm o=Xj X K fn GY o:=by
 obtain⟨dst,op,type,pos,after,guard⟩:=o;have e:∀{x:Operand} (t:TypeId),x∈op.operands->ev X.P tm t x=ev X.P GY t x:=λt hx=>Jf (h _ hx)
 have eG:∀{x:Operand} (t:TypeId),x∈op.operands->evG X tm t x=evG X GY t x:=λt hx=>aeb (h _ hx)
 cases op<;>simp only[Xj]
 case call c=>
  obtain⟨callee,args,tys⟩:=c;have ea:∀ts,mX X.P tm args.toList ts=mX X.P GY args.toList ts:=λts=>Gg λx hx=>h x (by
   simp only[Op.operands,Call.operands];have hx':x∈args:=by simpa using hx
   cases callee<;>simp[hx'])
  cases callee with
  |value f=>simp only[ea,e (x:=f) 0 (by simp[Op.operands,Call.operands])]
  |invoke r m=>rfl
  |builtin b=>cases b<;>simp only[ea]
 case build t ps=>
  simp only[YH,abG,YG];have:∀cs,nP X.P t tm ps.toList cs=nP X.P t GY ps.toList cs:=λcs=>Jg λx hx=>h x.2 (by simp only[Op.operands];simp;exact⟨x.1,by simpa using hx⟩)
  have ao6:∀e cs,lu X.P e tm ps.toList cs=lu X.P e GY ps.toList cs:=λe cs=>Ij λx hx=>h x.2 (by simp only[Op.operands];simp;exact⟨x.1,by simpa using hx⟩)
  simp only[this,ao6]
 case buildSlice t n ps=>
  simp only[Ie];have:∀e,nR X.P e tm 0 ps.toList=nR X.P e GY 0 ps.toList:=λe=>Jh λx hx=>h x.2 (by simp only[Op.operands];simp;exact⟨x.1,by simpa using hx⟩)
  simp only[this]
 case makeFunc f first caps=>
  cases f<;>try rfl
  simp only;rw[Gg (tm:=tm) (GY:=GY) (xs:=first.toList) λx hx=>h x (by have hx':x∈_:=Array.mem_toList_iff.1 hx;simp[Op.operands,hx']),
   Gg (tm:=tm) (GY:=GY) (xs:=caps.toList) λx hx=>h x (by have hx':x∈_:=Array.mem_toList_iff.1 hx;simp[Op.operands,hx'])]
 case load t x=>rw[eG 0 (by simp[Op.operands])]
 case nilCheck x=>rw[eG type (by simp[Op.operands])]
 case indexAddr t x i=>rw[eG t (by simp[Op.operands]),e 3 (x:=i) (by simp[Op.operands])]
 case slice t x lo hi mx=>
  cases mx with
  |some _=>rfl
  |none=>
   simp only;rw[eG t (by simp[Op.operands]),e t (x:=x) (by simp[Op.operands])];generalize X.Bf.trunc fn (dst.getD 0)=b;cases lo with
   |none=>cases hi with
    |none=>cases b<;>rfl
    |some y=>cases b<;>simp only[Eh,Option.map_none,e 3 (x:=y) (by simp[Op.operands])]
   |some z=>cases hi with
    |none=>cases b<;>simp only[Eh,Option.map_none,e 3 (x:=z) (by simp[Op.operands])]
    |some y=>cases b<;>simp only[Eh,Option.map_none,e 3 (x:=y) (by simp[Op.operands]),e 3 (x:=z) (by simp[Op.operands])]
 all_goals first
  |rfl
  |(simp only[e _ (by simp[Op.operands]:_∈Op.operands _)];done)
  |skip
 all_goals(simp only[Op.operands] at e;simp_all)
end Go.Vm
namespace Go.Vm
open Go
structure Rel(base:Nat)(U:Nat->Prop)(M0:List Nat)(w0:World)(ν:Nat->Value)(M:Mem)(nt:Nat)(w:World)(S:St)(G:GS)(a:Act):Prop where
 at_:At base U M0 w0 w S.mem G
 tm:Po G.μ S.mem (Gh U w G) S.tm a
 size:a.tmps.size=nt
 defers:a.defers=[]
 imp:sF ν M G.μ S.mem
section
variable {base:Nat} {U:Nat->Prop} {M0:List Nat} {w0 w w':World} {ν:Nat->Value} {M:Mem} {nt:Nat} {S S':St} {G G':GS} {a:Act} {X:Ctx}
def PD(a:Act)(dst:Option Tmp)(g:Value):(a.put dst g).tmps.size=a.tmps.size:=by cases dst<;>simp[Act.put]
def put_defers(a:Act)(dst:Option Tmp)(g:Value):(a.put dst g).defers=a.defers:=by cases dst<;>rfl
def Rel.put(R:Rel base U M0 w0 ν M nt w S G a){m':Mem}{v:V}{g:Value}{dst:Option Nat}(hx:Nx base U M0 w0 w S.mem G w' m' G')(hs:aC G'.μ m' (Gh U w' G') v g)(hd:DJ nt dst=true):
  Rel base U M0 w0 ν M nt w' ⟨NJ dst v S.tm,m'⟩ G' (a.put dst g):=by
 refine⟨hx.at_, ?_,by rw[PD,R.size],by rw[put_defers,R.defers],mZ R.imp hx.mem⟩;intro t u hu;cases dst with
 |none=>simp only[NJ] at hu;obtain⟨h1,h2⟩:=R.tm t u hu;exact⟨h1,hx.aC h2⟩
 |some d=>
  simp only[NJ] at hu;have hdn:d<nt:=by simpa[DJ] using hd
  rw[PD];rw[get_put] at hu;split at hu
  ·rename_i htd;simp only[dG] at hu;subst hu htd;refine⟨by rw[R.size];exact hdn, ?_⟩;have:((a.put (some t) g).tmps).getD t undef=g:=by simp only[Act.put,Array.getD_eq_getD_getElem?];rw[Array.getElem?_setIfInBounds_self_of_lt (by rw[R.size];exact hdn)];rfl
   rw[this];exact hs
  ·rename_i htd;obtain⟨h1,h2⟩:=R.tm t u hu;refine⟨h1, ?_⟩;have:((a.put (some d) g).tmps).getD t undef=a.tmps.getD t undef:=by simp only[Act.put,Array.getD_eq_getD_getElem?];rw[Array.getElem?_setIfInBounds_ne (Ne.symm htd)]
   rw[this];exact hx.aC h2
def Rel.skip(R:Rel base U M0 w0 ν M nt w S G a)(dst:Option Nat):Rel base U M0 w0 ν M nt w ⟨ahs dst S.tm,S.mem⟩ G (a.put dst Go.undef):=by
 refine⟨R.at_, ?_,by rw[PD,R.size],by rw[put_defers,R.defers],R.imp⟩;intro t u hu;cases dst with
 |none=>exact R.tm t u hu
 |some d=>
  simp only[ahs] at hu;rw[ahx] at hu;split at hu
  ·cases hu
  ·rename_i htd;obtain⟨h1,h2⟩:=R.tm t u hu;refine⟨by rw[PD];exact h1, ?_⟩;have:((a.put (some d) Go.undef).tmps).getD t Go.undef=a.tmps.getD t Go.undef:=by simp only[Act.put,Array.getD_eq_getD_getElem?];rw[Array.getElem?_setIfInBounds_ne (Ne.symm htd)]
   rw[this];exact h2
def Rel.skip'(R:Rel base U M0 w0 ν M nt w S G a)(dst:Option Nat):Rel base U M0 w0 ν M nt w ⟨Q5 nt dst S.tm,S.mem⟩ G (a.put dst Go.undef):=by
 unfold Q5;cases hd:DJ nt dst with
 |false=>exact R.skip dst
 |true=>exact R.put R.at_.nx (by simp only[aC,bD];exact⟨#[],rfl,rfl⟩) hd
def Rel.tms(R:Rel base U M0 w0 ν M nt w S G a){tm:iF}(h:∀t,get t tm=get t S.tm):Rel base U M0 w0 ν M nt w ⟨tm,S.mem⟩ G a:=
 ⟨R.at_,λt u hu=>R.tm t u (by rw[<-h t];exact hu),R.size,R.defers,R.imp⟩
def aap{t d:Nat}{x:V}{tm:iF}(h:IY d tm=x)(hx:x≠.undef):get t (put d x tm)=get t tm:=by
 rw[get_put];split
 ·rename_i e;subst e;unfold IY at h;cases hg:get t tm with
  |none=>rw[hg] at h;exact absurd h.symm hx
  |some v=>rw[hg] at h;simp at h;rw[h]
 ·rfl
def Gi{ops:Array Oper}{o:Oper}{b:Bool}{tm tm':iF}(h:vK ops tm o=some (b,tm')):∀t,get t tm'=get t tm:=by
 intro t;unfold vK at h;split at h
 ·simp only[dG,eH] at h;rw[h.2]
 ·split at h
  ·split at h
   ·split at h
    ·rename_i c he;split at h
     all_goals
      simp only[dG,eH] at h;rw[<-h.2];exact aap he (by simp)
    ·rename_i vs he;split at h
     ·simp only[dG,eH] at h;rw[<-h.2];exact aap he (by simp)
     ·cases h
    ·cases h
   ·cases h
  ·cases h
def aed{ops:Array Oper}{o:Oper}{b:Bool}{tm':iF}(R:Rel base U M0 w0 ν M nt w S G a)(h:vK ops S.tm o=some (b,tm')):Region.wanted o (yielded ops a.tmps)=b:=by
 unfold vK at h;unfold Region.wanted;cases hg:o.guard with
 |none=>simp only[hg,dG,eH] at h;simpa using h.1
 |some jw=>
  obtain⟨j,want⟩:=jw;simp only[hg] at h|-;cases hj:ops[j]? with
  |none=>simp[hj] at h
  |some oj=>
   simp only[hj] at h;cases hd:oj.dst with
   |none=>simp[hd] at h
   |some d=>
    simp only[hd] at h;unfold IY at h;cases ht:get d S.tm with
    |none=>simp[ht] at h
    |some v=>
     simp only[ht] at h;obtain⟨h1,h2⟩:=R.tm d v ht;cases v with
     |d x=>
      cases x with
      |bool c=>
       simp only[aC,ro] at h2;have hy:yielded ops a.tmps j=some c:=by
        simp only[yielded,hj,Option.bind_some,hd];have:a.tmps[d]? =some (.bool c):=by rw[<-h2,Array.getD_eq_getD_getElem?,Array.getElem?_eq_getElem h1];rfl
        rw[this]
       rw[hy];cases c<;>simp only[dG,eH] at h<;>obtain⟨rfl,_⟩:=h<;>cases want<;>rfl
      |_=>simp at h
     |Gz vs=>
      cases vs with
      |cons _ _=>simp at h
      |nil=>
       simp only[dG,eH] at h;simp only[aC,bD] at h2;obtain⟨arr,h3,h4⟩:=h2;have hy:yielded ops a.tmps j=none:=by
        simp only[yielded,hj,Option.bind_some,hd];have:a.tmps[d]? =some (.tuple arr):=by rw[<-h3,Array.getD_eq_getD_getElem?,Array.getElem?_eq_getElem h1];rfl
        rw[this]
       rw[hy,<-h.1];rfl
     |_=>simp at h
def aaq{K:fM}(hK:Ld X K U M0 w0){fn:Nat}(hnt:yQ X.P fn=nt)(R:Rel base U M0 w0 ν M nt w S G a){ops:Array Oper}{i:Nat}{lg:Log}(h:sD X K fn ops i S=some (S',lg))
  {next:Act->World->Prop} {Q:Exit->Act->World->Prop} (hn:∀w' G' a',Rel base U M0 w0 ν M nt w' S' G' a'->(Gh U w G).le (Gh U w' G')->next a' w'):wpOp X.P ops Q i next a w:=by
 unfold sD at h;unfold wpOp;cases ho:ops[i]? with
 |none=>simp[ho] at h
 |some o=>
  simp only[ho] at h|-;cases hw:vK ops S.tm o with
  |none=>simp[hw] at h
  |some bt=>
   obtain⟨b,tm⟩:=bt;rw[aed R hw];have R':=R.tms (Gi hw);cases b with
   |false=>simp only[hw,dG,eH] at h;obtain⟨rfl,rfl⟩:=h;simp only[Bool.false_eq_true,if_false];exact hn _ _ _ (hnt ▸ R'.skip' o.dst) (View.le_refl _)
   |true=>
    simp only[hw] at h;simp only[if_true];cases hv:(Xj X K fn tm o).run S.mem .none with
    |none=>simp[hv] at h
    |some r=>
     obtain⟨v,m',l⟩:=r;simp only[hv] at h;cases hd:DJ (yQ X.P fn) o.dst with
     |false=>simp[hd] at h
     |true=>simp only[hd,bZ,dG,eH] at h;obtain⟨rfl,rfl⟩:=h;rw[hnt] at hd;exact .inl (al2 hK R'.at_ R'.tm hv λg w' G' hx hs=>hn w' G' _ (R'.put hx hs hd) hx.view)
def Oj{K:fM}(hK:Ld X K U M0 w0){fn:Nat}(hnt:yQ X.P fn=nt){ops:Array Oper}{Q:Exit->Act->World->Prop}{rest:List Nat}:∀{is:List Nat} {w:World} {S S':St} {G:GS} {a:Act} {L L':List (Nat×Log)}
  (_:Rel base U M0 w0 ν M nt w S G a) (_:pq X K fn ops is S L=some (S',L')) (_:∀w' G' a',Rel base U M0 w0 ν M nt w' S' G' a'->(Gh U w G).le (Gh U w' G')->wpOps X.P ops Q rest a' w'),wpOps X.P ops Q (is++rest) a w
 |[],w,S,S',G,a,L,L',R,h,hn=>by simp only[pq,dG,eH] at h;obtain⟨rfl,rfl⟩:=h;exact hn w G a R (View.le_refl _)
 |i::is,w,S,S',G,a,L,L',R,h,hn=>by
  rw[WI,wpOps_cons];simp only[pq] at h;cases h1:sD X K fn ops i S with
  |none=>simp[h1] at h
  |some r=>obtain⟨S1,l1⟩:=r;simp only[h1] at h;exact aaq hK hnt R h1 λw1 G1 a1 R1 v1=>Oj hK hnt R1 h λw' G' a' R' v'=>hn w' G' a' R' (v1.trans' v')
def XG{K:fM}(hK:Ld X K U M0 w0){fn:Nat}(hnt:yQ X.P fn=nt){ops:Array Oper}{Q:Exit->Act->World->Prop}{is:List Nat}{w:World}{S S':St}{G:GS}{a:Act}{L L':List (Nat×Log)}
  (R:Rel base U M0 w0 ν M nt w S G a) (h:pq X K fn ops is S L=some (S',L')) (hn:∀w' G' a',Rel base U M0 w0 ν M nt w' S' G' a'->(Gh U w G).le (Gh U w' G')->Q .normal a' w'):wpOps X.P ops Q is a w:=by
 have:=Oj (rest:=[]) hK hnt R h hn
 rwa [List.append_nil] at this
end
end Go.Vm
namespace Go.Vm
open Go
def JQ{k:Nat}{c:Cell}{m:Mem}(h:sortedK ((k,c)::m)=true):sortedK m=true:=by
 cases m with
 |nil=>rfl
 |cons x m=>obtain⟨j,d⟩:=x;simp only[sortedK,su] at h;exact h.2
def UL:∀{m:Mem} {k:Nat} {c:Cell},sortedK ((k,c)::m)=true->∀j d,(j,d)∈m->k<j
 |[],_,_,_,_,_,h=>by simp at h
 |(i,e)::m,k,c,h,j,d,hm=>by
  have h':=h;simp only[sortedK,su] at h;have hki:k<i:=Nat.le_of_ble_eq_true h.1;simp only[List.mem_cons,eH] at hm;rcases hm with⟨rfl,_⟩|hm
  ·exact hki
  ·exact Nat.lt_trans hki (UL (JQ h') j d hm)
def get_mem{α:Type}{k:Nat}{x:α}:∀{l:List (Nat×α)},get k l=some x->(k,x)∈l
 |[],h=>by simp[get] at h
 |(j,y)::l,h=>by
  simp only[get] at h;cases hb:Nat.beq k j with
  |true=>rw[hb] at h;simp only[bZ,dG] at h;have:=lq hb;simp[this,h]
  |false=>rw[hb] at h;exact zmm _ (get_mem h)
def get_none{α:Type}{k:Nat}:∀{l:List (Nat×α)},(∀x,(k,x) ∉ l)->get k l=none
 |[],_=>rfl
 |(j,y)::l,h=>by
  have hne:k≠j:=λe=>h y (by simp[e])
  simp only[get,lT hne,dX];exact get_none λx hx=>h x (zmm _ hx)
def live:Cell->Bool
 | .dead=>false
 | .jB ..=>false
 |_=>true
def Le{all:Mem}{R:List Nat}{k:Nat}:∀{m:Mem},sortedK m=true->∀c',get k (jG all R m)=some c'↔∃c,get k m=some c/\live c=true/\k∈R/\c'=vJ all c
 |[],_,c'=>by simp[jG,get]
 |(j,c)::m,hs,c'=>by
  have ih:=Le (all:=all) (R:=R) (k:=k) (JQ hs) c';have hlt:=UL hs
  by_cases hkj:k=j
  ·subst hkj;have hnone:get k m=none:=get_none λx hx=>Nat.lt_irrefl _ (hlt k x hx)
   have hnone':get k (jG all R m)=none:=by
    cases hg:get k (jG all R m) with
    |none=>rfl
    |some c2=>obtain⟨c3,h3,_⟩:=(Le (all:=all) (R:=R) (k:=k) (JQ hs) c2).1 hg;rw[hnone] at h3;cases h3
   have hget:get k ((k,c)::m)=some c:=by simp[get]
   rw[hget];cases c with
   |jB _ _ _ _ _=>simp[jG,hnone',live]
   |dead=>simp[jG,hnone',live]
   |box t cs=>
    cases hm:mem? k R with
    |true=>
     have:=(qw k R).1 hm;simp only[jG,hm,bZ];rw[show∀(x:Cell) l,get k ((k,x)::l)=some x from λx l=>by simp[get]];constructor
     ·intro h;exact⟨_,rfl,rfl,this,(Option.some.inj h).symm⟩
     ·rintro⟨c,h1,_,_,rfl⟩;cases h1;rfl
    |false=>
     have hn:k ∉ R:=λh=>by rw[(qw k R).2 h] at hm;cases hm
     simp[jG,hm,hnone',hn]
   |arr fz fl ver s rows=>
    cases hm:mem? k R with
    |true=>
     have:=(qw k R).1 hm;simp only[jG,hm,bZ];rw[show∀(x:Cell) l,get k ((k,x)::l)=some x from λx l=>by simp[get]];constructor
     ·intro h;exact⟨_,rfl,rfl,this,(Option.some.inj h).symm⟩
     ·rintro⟨c,h1,_,_,rfl⟩;cases h1;rfl
    |false=>
     have hn:k ∉ R:=λh=>by rw[(qw k R).2 h] at hm;cases hm
     simp[jG,hm,hnone',hn]
   |xk ver s rows=>
    cases hm:mem? k R with
    |true=>
     have:=(qw k R).1 hm;simp only[jG,hm,bZ];rw[show∀(x:Cell) l,get k ((k,x)::l)=some x from λx l=>by simp[get]];constructor
     ·intro h;exact⟨_,rfl,rfl,this,(Option.some.inj h).symm⟩
     ·rintro⟨c,h1,_,_,rfl⟩;cases h1;rfl
    |false=>
     have hn:k ∉ R:=λh=>by rw[(qw k R).2 h] at hm;cases hm
     simp[jG,hm,hnone',hn]
   |jM T v=>
    cases hm:mem? k R with
    |true=>
     have:=(qw k R).1 hm;simp only[jG,hm,bZ];rw[show∀(x:Cell) l,get k ((k,x)::l)=some x from λx l=>by simp[get]];constructor
     ·intro h;exact⟨_,rfl,rfl,this,(Option.some.inj h).symm⟩
     ·rintro⟨c,h1,_,_,rfl⟩;cases h1;rfl
    |false=>
     have hn:k ∉ R:=λh=>by rw[(qw k R).2 h] at hm;cases hm
     simp[jG,hm,hnone',hn]
  ·have hget:get k ((j,c)::m)=get k m:=by simp[get,lT hkj]
   rw[hget,<-ih];cases c with
   |jB _ _ _ _ _=>simp[jG]
   |dead=>simp[jG]
   |box t cs=>cases hm:mem? j R<;>simp[jG,hm,get,lT hkj]
   |arr fz fl ver s rows=>cases hm:mem? j R<;>simp[jG,hm,get,lT hkj]
   |xk ver s rows=>cases hm:mem? j R<;>simp[jG,hm,get,lT hkj]
   |jM T v=>cases hm:mem? j R<;>simp[jG,hm,get,lT hkj]
def GZ:∀(as l:List Nat) (x:Nat),x∈l\/x∈as->x∈NT as l
 |[],l,x,h=>by simpa[NT] using h
 |a::as,l,x,h=>by
  simp only[NT];cases hm:mem? a l with
  |true=>
   have:=(qw a l).1 hm;refine GZ as l x ?_;rcases h with h|h
   ·exact .inl h
   ·simp only[List.mem_cons] at h;rcases h with rfl|h
    ·exact .inl this
    ·exact .inr h
  |false=>
   refine GZ as (a::l) x ?_;simp only[List.mem_cons] at h|-;rcases h with h|h|h
   ·exact .inl (.inr h)
   ·exact .inl (.inl h)
   ·exact .inr h
def XH(m:Mem):∀(n:Nat) (l:List Nat) (x:Nat),x∈l->x∈reach m n l
 |0,_,_,h=>h
 |n+1,l,x,h=>XH m n _ x (GZ _ _ _ (.inl h))
def PE{μ:Nat->Value}{m m2:Mem}{h:View}{R:List Nat}(hm:∀r c,get r m=some c->live c=true->r∈R->get r m2=some (vJ m c)):
  ∀(v:V) (g:Value),aC μ m h v g->(∀r,r∈refs (JB m v)->r∈R)->aC μ m2 h (JB m v) g
 | .d x,g,q,_=>q
 | .nil s,g,q,_=>q
 | .own r ver,g,q,hr=>by
  simp only[aC] at q;simp only[JB] at hr|-;cases hc:get r m with
  |none=>simp[hc] at q
  |some c=>
   rw[hc] at hr;cases c with
   |jB _ _ _ _ _=>simp[aC]
   |box _ _=>simp[aC]
   |jM _ _=>simp[aC]
   |dead=>simp[aC]
   |arr fz fl dP s rows=>
    simp only[hc] at q;simp only at hr|-;cases hb:Nat.beq ver dP with
    |false=>simp[aC]
    |true=>rw[hb] at hr;have hv:=lq hb;have:=hm r _ hc rfl (hr r (by simp[refs]));simp only[bZ,aC,this,vJ];exact⟨q.1,Nat.le_refl _,λ_=>q.2.2 hv⟩
   |xk dP s rows=>
    simp only[hc] at q;simp only at hr|-;cases hb:Nat.beq ver dP with
    |false=>simp[aC]
    |true=>rw[hb] at hr;have hv:=lq hb;have:=hm r _ hc rfl (hr r (by simp[refs]));simp only[bZ,aC,this,vJ];exact⟨q.1,Nat.le_refl _,λ_=>q.2.2 hv⟩
 | .ptr r off,g,q,hr=>by
  simp only[aC] at q;simp only[JB] at hr|-;cases hc:get r m with
  |none=>simp[hc] at q
  |some c=>
   rw[hc] at hr;cases c with
   |jB _ _ _ _ _=>simp[aC]
   |arr _ _ _ _ _=>simp[aC]
   |dead=>simp[aC]
   |xk _ _ _=>simp[aC]
   |box t cs=>simp only[hc] at q;have:=hm r _ hc rfl (hr r (by simp[refs]));simp only[aC,this,vJ];exact q
   |jM t v=>simp only[hc] at q;have:=hm r _ hc rfl (hr r (by simp[refs]));simp only[aC,this,vJ];exact q
 | .lI r ver i off,g,q,hr=>by
  simp only[aC] at q;simp only[JB] at hr|-;cases hc:get r m with
  |none=>simp[hc] at q
  |some c=>
   rw[hc] at hr;cases c with
   |jB _ _ _ _ _=>simp[aC]
   |box _ _=>simp[aC]
   |jM _ _=>simp[aC]
   |dead=>simp[aC]
   |arr fz fl dP s rows=>
    simp only[hc] at q;simp only at hr|-;cases hb:Nat.beq ver dP with
    |false=>simp[aC]
    |true=>rw[hb] at hr;have hv:=lq hb;have:=hm r _ hc rfl (hr r (by simp[refs]));simp only[bZ,aC,this,vJ];exact⟨q.1,Nat.le_refl _,λ_=>q.2.2 hv⟩
   |xk dP s rows=>
    simp only[hc] at q;simp only at hr|-;cases hb:Nat.beq ver dP with
    |false=>simp[aC]
    |true=>rw[hb] at hr;have hv:=lq hb;have:=hm r _ hc rfl (hr r (by simp[refs]));simp only[bZ,aC,this,vJ];exact⟨q.1,Nat.le_refl _,λ_=>q.2.2 hv⟩
 | .lS row off,g,q,_=>q
 | .sG v,g,q,hr=>by simp only[aC] at q;obtain⟨b,x,rfl,h1,h2⟩:=q;simp only[JB,refs] at hr;simp only[JB,aC];exact⟨b,x,rfl,h1,PE hm v x h2 hr⟩
 | .clo f a b,g,q,hr=>by simp only[aC] at q;obtain⟨x,y,rfl,h1,h2⟩:=q;simp only[JB,refs] at hr;simp only[JB,aC];exact⟨x,y,rfl,Ji hm a _ h1 λr hx=>hr r (by simp[hx]),Ji hm b _ h2 λr hx=>hr r (by simp[hx])⟩
 | .agg cs,g,q,hr=>by simp only[aC] at q;obtain⟨x,rfl,h1⟩:=q;simp only[JB,refs] at hr;simp only[JB,aC];exact⟨x,rfl,Ji hm cs _ h1 hr⟩
 | .Gz cs,g,q,hr=>by simp only[aC] at q;obtain⟨x,rfl,h1⟩:=q;simp only[JB,refs] at hr;simp only[JB,aC];exact⟨x,rfl,Ji hm cs _ h1 hr⟩
 | .undef,g,q,_=>q
where
 Ji {μ:Nat->Value} {m m2:Mem} {h:View} {R:List Nat} (hm:∀r c,get r m=some c->live c=true->r∈R->get r m2=some (vJ m c)):
  ∀(vs:List V) (gs:List Value),bD μ m h vs gs->(∀r,r∈Ei (MX m vs)->r∈R)->bD μ m2 h (MX m vs) gs
 |[],gs,q,_=>q
 |v::vs,gs,q,hr=>by obtain⟨g,gs',rfl,h1,h2⟩:=jl q;simp only[MX,Ei] at hr;simp only[MX,bD];exact⟨g,gs',rfl,PE hm v g h1 λr hx=>hr r (by simp[hx]),Ji hm vs gs' h2 λr hx=>hr r (by simp[hx])⟩
def Ol{m:Mem}{tm:iF}{t:Nat}{v:V}:∀{ts:List Nat},get t (NS m tm ts)=some v->∃u,get t tm=some u/\v=JB m u
 |[],h=>by simp[NS,get] at h
 |i::ts,h=>by
  simp only[NS] at h;cases hi:get i tm with
  |none=>rw[hi] at h;exact Ol h
  |some u=>
   rw[hi] at h;simp only[get] at h;cases hb:Nat.beq t i with
   |true=>have:=lq hb;subst this;rw[hb] at h;simp only[bZ,dG] at h;exact⟨u,hi,h.symm⟩
   |false=>rw[hb] at h;exact Ol h
section
variable {base:Nat} {U:Nat->Prop} {M0:List Nat} {w0 w:World} {ν:Nat->Value} {M:Mem} {nt:Nat} {S S':St} {G:GS} {a:Act}
open Classical in
def aee(R:Rel base U M0 w0 ν M nt w S G a)(hM:∀r c,get r M=some c->BL r=true){ts:List Nat}(h:NU ts S=some S'):
  ∃G',Rel base U M0 w0 ν M nt w S' G' a/\(Gh U w G).le (Gh U w G'):=by
 simp only[NU] at h;generalize htm:NS S.mem S.tm ts=tm at h;generalize hRR:reach S.mem 3 (roots tm S.mem)=RR at h;generalize hmm:jG S.mem RR S.mem=m2 at h;cases hc:(closed RR m2 &&(aoV S.mem && sortedK S.mem)) with
 |false=>simp[hc] at h
 |true=>
  simp only[hc,bZ,dG] at h;subst h;simp only[su] at hc;obtain⟨hcl,hfm,hso⟩:=hc;have hget:∀k c',get k m2=some c'↔∃c,get k S.mem=some c/\live c=true/\k∈RR/\c'=vJ S.mem c:=by intro k c';rw[<-hmm];exact Le hso c'
  have hto:∀r c,get r S.mem=some c->live c=true->r∈RR->get r m2=some (vJ S.mem c):=λr c h1 h2 h3=>(hget r _).2 ⟨c,h1,h2,h3,rfl⟩
  have hroot:∀r,r∈roots tm S.mem->r∈RR:=λr hr=>by rw[<-hRR];exact XH _ _ _ _ hr
  have hout:∀r,r ∉ G.out:=λr=>by rw[R.at_.out];simp
  let F2:Nat->List Nat:=λr=>if get r m2=none then[] else G.F r
  have hF:∀r b,b∈F2 r->b∈G.F r:=by
   intro r b hb;simp only[F2] at hb;split at hb
   ·simp at hb
   ·exact hb
  have hex:∀b,excl F2 [] b->excl G.F G.E b:=by
   rintro b (hb|⟨r,hb⟩)
   ·simp at hb
   ·exact .inr ⟨r,hF r b hb⟩
  have hv:(Gh U w G).le (Gh U w ⟨G.μ,F2,[],[]⟩):=Em (λ_ x=>x) hex;have hbox:∀r t cs,get r m2=some (.box t cs)->∀q,q∈Ei cs->q∈RR:=by intro r t cs hr q hq;have:=List.all_eq_true.1 hcl (r,.box t cs) (get_mem hr);simp only[List.all_eq_true] at this;exact(qw q RR).1 (this q hq)
  have ao7:∀r t v,get r m2=some (.jM t v)->∀q,q∈refs v->q∈RR:=by intro r t v hr q hq;have:=List.all_eq_true.1 hcl (r,.jM t v) (get_mem hr);simp only[List.all_eq_true] at this;exact(qw q RR).1 (this q hq)
  refine⟨⟨G.μ,F2,[],[]⟩,⟨⟨⟨?_, ?_, ?_, ?_,by simp, ?_,R.at_.ok.up,R.at_.ok.bs, ?_, ?_⟩,rfl,rfl,R.at_.fr.less hex⟩, ?_,R.size,R.defers, ?_⟩,hv⟩
  ·intro r c' hr _;have hF2:F2 r=G.F r:=by simp[F2,hr]
   obtain⟨c,h1,h2,h3,rfl⟩:=(hget r c').1 hr;have hq:=R.at_.ok.cell r c h1 (hout r);show iT G.μ m2 (aX w) (Gh U w ⟨G.μ,F2,[],[]⟩) r (vJ S.mem c) (F2 r);rw[hF2];cases c with
   |jB _ _ _ _ _=>cases h2
   |dead=>cases h2
   |box t cs=>obtain⟨b,arr,e1,e2,e3,e4⟩:=hq;exact⟨b,arr,e1,e2,PE.Ji hto _ _ (kR (kQ _ _) hv _ _ e3) (hbox r t _ hr),e4⟩
   |arr fz fl ver s rows=>
    cases fz with
    |true=>exact⟨yS hv _ _ hq.1,hq.2⟩
    |false=>exact yT hv (λ_ _=>rfl) hq
   |xk ver s rows=>exact Ql hv (λ_ _=>rfl) hq
   |jM t v=>obtain⟨e1,b,x,e2,e3,e4⟩:=hq;exact⟨e1,b,x,e2,hv _ _ _ e3,PE hto _ _ (pY (kQ _ _) hv _ _ e4) (ao7 r t _ hr)⟩
  ·intro r r' hne b hb hb';exact R.at_.ok.dj r r' hne b (hF r b hb) (hF r' b hb')
  ·intro r b hb;simp
  ·intro r;simp only[F2];split
   ·simp
   ·exact R.at_.ok.nd r
  ·intro b hb;exact R.at_.ok.lt b (hex b hb)
  ·intro r hr;simp[F2,hr]
  ·intro r hr;simp at hr
  ·intro t v ht;rw[<-htm] at ht;obtain⟨u,h1,rfl⟩:=Ol ht;obtain⟨h2,h3⟩:=R.tm t u h1;refine⟨h2,PE hto u _ (pY (kQ _ _) hv _ _ h3) λr hr=> ?_⟩;refine hroot r (GZ _ _ _ (.inr ?_));rw[List.mem_flatMap];exact⟨(t,JB S.mem u),by rw[<-htm];exact get_mem ht,hr⟩
  ·intro r c hr;obtain⟨c',h1,h2⟩:=R.imp r c hr;have hk:=hM r c hr;have aar:=List.all_eq_true.1 hfm (r,c') (get_mem h1);have hrr:r∈RR:=hroot r (GZ _ _ _ (.inl (by rw[List.mem_filter];exact⟨List.mem_map.2 ⟨(r,c'),get_mem h1,rfl⟩,hk⟩)));cases c' with
   |jB _ _ _ _ _=>simp[hk] at aar
   |dead=>simp[hk] at aar
   |xk _ _ _=>simp[hk] at aar
   |box t cs=>refine⟨_,hto r _ h1 rfl hrr, ?_⟩;cases c<;>simp only[oH,vJ] at h2|-<;>exact h2
   |jM t cs=>refine⟨_,hto r _ h1 rfl hrr, ?_⟩;cases c<;>simp only[oH,vJ] at h2|-<;>exact h2
   |arr fz fl ver s rows=>simp only[hk,bZ] at aar;have hv0:=lq aar;subst hv0;exact⟨_,hto r _ h1 rfl hrr,h2⟩
def UM{f:Nat->Nat}:∀{ks:List Nat},nodupB (ks.map f)=true->∀a b,a∈ks->b∈ks->f a=f b->a=b
 |[],_,a,b,ha,_,_=>absurd ha List.not_mem_nil
 |k::ks,h,a,b,ha,hb,e=>by
  simp only[QY,nodupB,su] at h;have h1:=GV h.1;rcases List.mem_cons.1 ha with e1|ha1<;>rcases List.mem_cons.1 hb with e2|hb1
  ·rw[e1,e2]
  ·exact absurd (by rw[<-e1,e];exact List.mem_map.2 ⟨b,hb1,rfl⟩) h1
  ·exact absurd (by rw[<-e2,<-e];exact List.mem_map.2 ⟨a,ha1,rfl⟩) h1
  ·exact UM h.2 a b ha1 hb1 e
def TF{α:Type}{k:Nat}{x:α}{l:List (Nat×α)}(h:get k l=some x):k∈l.map (·.1):=List.mem_map.2 ⟨_,get_mem h,rfl⟩
def Nq{L:List (Nat×Nat)}:∀{m:Mem} {k':Nat} {c':Cell},get k' (GR L m)=some c'->∃k c,get k m=some c/\ren L k=k'/\c'=Uc L c
 |[],k',c',h=>by simp[GR,get] at h
 |(j,c0)::m,k',c',h=>by
  simp only[GR] at h;rw[get_put] at h;split at h
  ·rename_i e;cases h;exact⟨j,c0,by simp[get],e.symm,rfl⟩
  ·rename_i e;obtain⟨k,c,h1,h2,h3⟩:=Nq h;refine⟨k,c, ?_,h2,h3⟩;have:Nat.beq k j=false:=lT (λq=>e (by rw[<-h2,q]));simp only[get,this,dX];exact h1
def UN{L:List (Nat×Nat)}:∀{m:Mem} (_:∀a b,a∈m.map (·.1)->b∈m.map (·.1)->ren L a=ren L b->a=b) {k:Nat} {c:Cell},get k m=some c->get (ren L k) (GR L m)=some (Uc L c)
 |[],_,k,c,h=>by simp[get] at h
 |(j,c0)::m,hi,k,c,h=>by
  simp only[GR];rw[get_put]
  by_cases hk:k=j
  ·subst hk;have:Nat.beq k k=true:=Nat.beq_refl k;simp only[get,this,bZ,dG] at h;subst h;rw[if_pos rfl]
  ·have hb:Nat.beq k j=false:=lT hk;simp only[get,hb,dX] at h;rw[if_neg]
   ·exact UN (λa b ha hb=>hi a b (zmm _ ha) (zmm _ hb)) h
   ·intro e;exact hk (hi k j (zmm _ (TF h)) List.mem_cons_self e)
def XI{L:List (Nat×Nat)}:∀{tm:iF} {t:Nat} {v:V},get t (Ud L tm)=some v->∃u,get t tm=some u/\v=FM L u
 |[],t,v,h=>by simp[Ud,get] at h
 |(j,u)::tm,t,v,h=>by
  simp only[Ud,get] at h|-;cases hb:Nat.beq t j with
  |true=>rw[hb] at h;simp only[bZ,dG] at h;exact⟨u,rfl,h.symm⟩
  |false=>rw[hb] at h;simp only[dX] at h|-;exact XI h
mutual
def TG{L:List (Nat×Nat)}{μ μ':Nat->Value}{m m':Mem}{h:View}(hm:∀k c,get k m=some c->get (ren L k) m'=some (Uc L c)/\μ' (ren L k)=μ k):∀(v:V) (g:Value),aC μ m h v g->aC μ' m' h (FM L v) g
 | .d x,g,q=>q
 | .nil s,g,q=>q
 | .own r v0,g,q=>by
  simp only[FM,aC] at q|-;refine⟨q.1, ?_⟩;have q2:=q.2;cases hr:get r m with
  |none=>rw[hr] at q2;exact q2.elim
  |some c=>
   rw[hr] at q2;obtain⟨h1,h2⟩:=hm r c hr;rw[h1];cases c with
   |jB ver s rows i off=>exact⟨q2.1,λe=>by rw[h2];exact q2.2 e⟩
   |box t cs=>exact q2.elim
   |jM t cs=>exact q2.elim
   |arr fz fl ver s rows=>exact⟨q2.1,λe=>by rw[h2];exact q2.2 e⟩
   |dead=>trivial
   |xk ver s rows=>exact⟨q2.1,λe=>by rw[h2];exact q2.2 e⟩
 | .ptr r off,g,q=>by
  simp only[FM,aC] at q|-;refine⟨q.1, ?_⟩;have q2:=q.2;cases hr:get r m with
  |none=>rw[hr] at q2;exact q2.elim
  |some c=>
   rw[hr] at q2;obtain⟨h1,h2⟩:=hm r c hr;rw[h1];cases c with
   |jB _ _ _ _ _=>exact q2.elim
   |box t cs=>obtain⟨b,e1,e2⟩:=q2;exact⟨b,by rw[h2];exact e1,e2⟩
   |jM t cs=>obtain⟨b,e1,e2⟩:=q2;exact⟨b,by rw[h2];exact e1,e2⟩
   |arr fz fl ver s rows=>exact q2.elim
   |dead=>trivial
   |xk _ _ _=>exact q2.elim
 | .lI r v0 i off,g,q=>by
  simp only[FM,aC] at q|-;refine⟨q.1, ?_⟩;have q2:=q.2;cases hr:get r m with
  |none=>rw[hr] at q2;exact q2.elim
  |some c=>
   rw[hr] at q2;obtain⟨h1,h2⟩:=hm r c hr;rw[h1];cases c with
   |jB ver s rows i off=>refine⟨q2.1,λe=> ?_⟩;obtain⟨b,n,cap,e1,e2⟩:=q2.2 e;exact⟨b,n,cap,by rw[h2];exact e1,e2⟩
   |box t cs=>exact q2.elim
   |jM t cs=>exact q2.elim
   |arr fz fl ver s rows=>refine⟨q2.1,λe=> ?_⟩;obtain⟨b,n,cap,e1,e2⟩:=q2.2 e;exact⟨b,n,cap,by rw[h2];exact e1,e2⟩
   |dead=>trivial
   |xk ver s rows=>refine⟨q2.1,λe=> ?_⟩;obtain⟨b,o,n,cap,e1,e2⟩:=q2.2 e;exact⟨b,o,n,cap,by rw[h2];exact e1,e2⟩
 | .lS row off,g,q=>q
 | .sG v,g,q=>by simp only[FM,aC] at q|-;obtain⟨b,x,e,h1,h2⟩:=q;exact⟨b,x,e,h1,TG hm v x h2⟩
 | .clo f a b,g,q=>by simp only[FM,aC] at q|-;obtain⟨x,y,e,h1,h2⟩:=q;exact⟨x,y,e,Jj hm a _ h1,Jj hm b _ h2⟩
 | .agg cs,g,q=>by simp only[FM,aC] at q|-;obtain⟨x,e,h1⟩:=q;exact⟨x,e,Jj hm cs _ h1⟩
 | .Gz vs,g,q=>by simp only[FM,aC] at q|-;obtain⟨x,e,h1⟩:=q;exact⟨x,e,Jj hm vs _ h1⟩
 | .undef,g,q=>trivial
def Jj{L:List (Nat×Nat)}{μ μ':Nat->Value}{m m':Mem}{h:View}(hm:∀k c,get k m=some c->get (ren L k) m'=some (Uc L c)/\μ' (ren L k)=μ k):∀(vs:List V) (gs:List Value),bD μ m h vs gs->bD μ' m' h (KJ L vs) gs
 |[],gs,q=>q
 |v::vs,gs,q=>by simp only[KJ,bD] at q|-;obtain⟨g,gs',rfl,h1,h2⟩:=q;exact⟨g,gs',rfl,TG hm v g h1,Jj hm vs gs' h2⟩
end
open Classical in
def aef(R:Rel base U M0 w0 ν M nt w S G a)(hM:∀r c,get r M=some c->BL r=true)(L:List (Nat×Nat)):
  ∃G',Rel base U M0 w0 ν M nt w (YK L S) G' a/\(Gh U w G).le (Gh U w G'):=by
 simp only[YK];cases hc:OZ L S.mem with
 |false=>exact⟨G,R,View.le_refl _⟩
 |true=>
  simp only;simp only[OZ,su] at hc;obtain⟨⟨hnd,himp⟩,hll⟩:=hc;have hinj:=UM hnd
  let inv:Nat->Nat:=λk'=>if h:∃k,k∈S.mem.map (·.1)/\ren L k=k' then h.choose else k'
  let F2:Nat->List Nat:=λk'=>if∃k,k∈S.mem.map (·.1)/\ren L k=k' then G.F (inv k') else[]
  have hinv:∀k,k∈S.mem.map (·.1)->inv (ren L k)=k:=by
   intro k hk;have hex:∃j,j∈S.mem.map (·.1)/\ren L j=ren L k:=⟨k,hk,rfl⟩
   simp only[inv,dif_pos hex];exact hinj _ _ hex.choose_spec.1 hk hex.choose_spec.2
  have hF2:∀k,k∈S.mem.map (·.1)->F2 (ren L k)=G.F k:=by
   intro k hk;have hex:∃j,j∈S.mem.map (·.1)/\ren L j=ren L k:=⟨k,hk,rfl⟩
   simp only[F2,if_pos hex,hinv k hk]
  have hF:∀r b,b∈F2 r->∃k,k∈S.mem.map (·.1)/\ren L k=r/\b∈G.F k:=by
   intro r b hb;simp only[F2] at hb;split at hb
   ·rename_i hex;obtain⟨k,h1,rfl⟩:=hex;rw[hinv k h1] at hb;exact⟨k,h1,rfl,hb⟩
   ·simp at hb
  have hex:∀b,excl F2 [] b->excl G.F G.E b:=by
   rintro b (hb|⟨r,hb⟩)
   ·simp at hb
   ·obtain⟨k,_,_,h⟩:=hF r b hb;exact .inr ⟨k,h⟩
  have hv:(Gh U w G).le (Gh U w ⟨G.μ ∘ inv,F2,[],[]⟩):=Em (λ_ x=>x) hex;have hm:∀k c,get k S.mem=some c->get (ren L k) (GR L S.mem)=some (Uc L c)/\(G.μ ∘ inv) (ren L k)=G.μ k:=by intro k c hk;exact⟨UN hinj hk,by show G.μ (inv (ren L k))=_;rw[hinv k (TF hk)]⟩
  have hout:∀r,r ∉ G.out:=λr=>by rw[R.at_.out];simp
  refine⟨⟨G.μ ∘ inv,F2,[],[]⟩,⟨⟨⟨?_, ?_, ?_, ?_,by simp, ?_,R.at_.ok.up,R.at_.ok.bs, ?_, ?_⟩,rfl,rfl,R.at_.fr.less hex⟩, ?_,R.size,R.defers, ?_⟩,hv⟩
  ·intro r c' hr _;obtain⟨k,c,h1,rfl,rfl⟩:=Nq hr;have hq:=R.at_.ok.cell k c h1 (hout k);show iT (G.μ ∘ inv) (GR L S.mem) (aX w) (Gh U w ⟨G.μ ∘ inv,F2,[],[]⟩) (ren L k) (Uc L c) (F2 (ren L k));rw[hF2 k (TF h1)];have hmu:=(hm k c h1).2;cases c with
   |jB _ _ _ _ _=>have:=List.all_eq_true.1 hll _ (get_mem h1);cases this
   |dead=>exact hq
   |box t cs=>obtain⟨b,arr,e1,e2,e3,e4⟩:=hq;exact⟨b,arr,by rw[hmu];exact e1,e2,Jj hm _ _ (kR (kQ _ _) hv _ _ e3),e4⟩
   |arr fz fl ver s rows=>
    cases fz with
    |true=>have hq':ro (Gh U w G) (.sl true s rows) (G.μ k)/\G.F k=[]:=hq;refine⟨?_,hq'.2⟩;rw[hmu];exact yS hv _ _ hq'.1
    |false=>have hq':KD (aX w) (Gh U w G) fl s rows (G.μ k) (G.F k):=hq;show KD (aX w) (Gh U w ⟨G.μ ∘ inv,F2,[],[]⟩) fl s rows ((G.μ ∘ inv) (ren L k)) (G.F k);rw[hmu];exact yT hv (λ_ _=>rfl) hq'
   |xk ver s rows=>have hq':O5 (aX w) (Gh U w G) s rows (G.μ k) (G.F k):=hq;show O5 (aX w) (Gh U w ⟨G.μ ∘ inv,F2,[],[]⟩) s rows ((G.μ ∘ inv) (ren L k)) (G.F k);rw[hmu];exact Ql hv (λ_ _=>rfl) hq'
   |jM t v=>obtain⟨e1,b,x,e2,e3,e4⟩:=hq;exact⟨e1,b,x,by rw[hmu];exact e2,hv _ _ _ e3,TG hm _ _ (pY (kQ _ _) hv _ _ e4)⟩
  ·intro r r' hne b hb hb';obtain⟨k,_,rfl,h1⟩:=hF r b hb;obtain⟨k',_,rfl,h2⟩:=hF r' b hb';exact R.at_.ok.dj k k' (λe=>hne (by rw[e])) b h1 h2
  ·intro r b hb;simp
  ·intro r;simp only[F2];split
   ·exact R.at_.ok.nd _
   ·simp
  ·intro b hb;exact R.at_.ok.lt b (hex b hb)
  ·intro r hr;simp only[F2];split
   ·rename_i hq;obtain⟨k,h1,rfl⟩:=hq;obtain⟨⟨k2,c⟩,h2,h3⟩:=List.mem_map.1 h1;simp only at h3;subst h3;cases hg:get k2 S.mem with
    |none=>rw[hinv k2 h1];exact R.at_.ok.none_ _ hg
    |some c2=>rw[(hm k2 c2 hg).1] at hr;cases hr
   ·rfl
  ·intro r hr;simp at hr
  ·intro t v ht;obtain⟨u,h1,rfl⟩:=XI ht;obtain⟨h2,h3⟩:=R.tm t u h1;exact⟨h2,TG hm u _ (pY (kQ _ _) hv _ _ h3)⟩
  ·intro r c hr;obtain⟨c',h1,h2⟩:=R.imp r c hr;have hk:=hM r c hr;have hir:=List.all_eq_true.1 himp r (TF h1);simp only[hk,bZ] at hir;have her:=lq hir;obtain⟨h3,h4⟩:=hm r c' h1;rw[her] at h3 h4;refine⟨_,h3, ?_⟩;cases c<;>cases c'<;>simp only[oH,Uc] at h2|-<;>first
    |exact⟨h2.1,h4.trans h2.2⟩
    |exact⟨h2.1,h2.2.1,λe=>⟨h4.trans (h2.2.2 e).1,(h2.2.2 e).2⟩⟩
    |exact⟨h2.1,h2.2.1,λe=>⟨h4.trans (h2.2.2 e).1,(h2.2.2 e).2⟩⟩
    |exact⟨h2.1,λe=>⟨h4.trans (h2.2 e).1,(h2.2 e).2⟩⟩
    |exact h4.trans h2
    |trivial
    |exact h2
def afG(R:Rel base U M0 w0 ν M nt w S G a)(hM:∀r c,get r M=some c->BL r=true):
  ∃G',Rel base U M0 w0 ν M nt w (canon S) G' a/\(Gh U w G).le (Gh U w G'):=by
 unfold canon;cases ahu S.tm S.mem with
 |nil=>exact⟨G,R,View.le_refl _⟩
 |cons k o=>exact aef R hM _
def afH(R:Rel base U M0 w0 ν M nt w S G a)(hM:∀r c,get r M=some c->BL r=true){ts:List Nat}(h:prune ts S=some S'):
  ∃G',Rel base U M0 w0 ν M nt w S' G' a/\(Gh U w G).le (Gh U w G'):=by
 simp only[prune] at h;cases hp:NU ts S with
 |none=>simp[hp] at h
 |some S1=>simp only[hp,dG] at h;subst h;obtain⟨G1,R1,v1⟩:=aee R hM hp;obtain⟨G2,R2,v2⟩:=afG R1 hM;exact⟨G2,R2,v1.trans' v2⟩
end
end Go.Vm
namespace Go.Vm
open Go
def Jk{α:Type}{f:Nat->Option α}{x:α}(h:lim f=some x):∃n,f n=some x:=by
 unfold lim at h;split at h
 ·rename_i hx;have:=Classical.choose_spec hx;obtain⟨n,hn⟩:=this;simp only[dG] at h;exact⟨n,by rw[hn,h]⟩
 ·cases h
def al3:Ex->Exit
 | .normal=> .normal
 | .exit id=> .exit id
 | .ret=> .ret
section
variable {base:Nat} {U:Nat->Prop} {M0:List Nat} {w0:World} {ν:Nat->Value} {M:Mem} {nt:Nat} {X:Ctx} {K:fM} {fn:Nat}
def ak0(base:Nat)(U:Nat->Prop)(M0:List Nat)(w0:World)(ν:Nat->Value)(M:Mem)(nt:Nat)(X:Ctx)(K:fM)(fn:Nat):Prop:=
 ∀(id:Nat) (ops:Array Oper) (draw:Bool) (w:World) (S S':St) (G:GS) (a:Act) (Q:Exit->Act->World->Prop),Rel base U M0 w0 ν M nt w S G a->region X K fn id ops draw S=some S'->
  (∀w' G' a',Rel base U M0 w0 ν M nt w' S' G' a'->(Gh U w G).le (Gh U w' G')->Q .normal a' w')->(Code.region id ops draw).wp X.P Q a w
def afI(hR:ak0 base U M0 w0 ν M nt X K fn)(c:Code):∀{w:World} {S S':St} {ex:Ex} {G:GS} {a:Act} {Q:Exit->Act->World->Prop},Rel base U M0 w0 ν M nt w S G a->den X K fn c S=some (ex,S')->
  (∀w' G' a',Rel base U M0 w0 ν M nt w' S' G' a'->(Gh U w G).le (Gh U w' G')->Q (al3 ex) a' w')->c.wp X.P Q a w:=by
 induction c with
 |skip=>intro w S S' ex G a Q R h hn;simp only[den,dG,eH] at h;obtain⟨rfl,rfl⟩:=h;exact Go.wp_skip (hn _ _ _ R (View.le_refl _))
 |region id ops draw=>
  intro w S S' ex G a Q R h hn;simp only[den] at h;cases hr:region X K fn id ops draw S with
  |none=>simp[hr] at h
  |some S1=>simp only[hr,dG,eH] at h;obtain⟨rfl,rfl⟩:=h;exact hR id ops draw w S S1 G a Q R hr hn
 |seq x y ihx ihy=>
  intro w S S' ex G a Q R h hn;simp only[den] at h;refine wp_seq ?_;cases hx:den X K fn x S with
  |none=>simp[hx] at h
  |some r=>
   obtain⟨e1,S1⟩:=r;rw[hx] at h;cases e1 with
   |normal=>simp only at h;exact ihx R hx λw1 G1 a1 R1 v1=>ihy R1 h λw' G' a' R' v'=>hn w' G' a' R' (v1.trans' v')
   |exit id=>simp only[dG,eH] at h;obtain⟨rfl,rfl⟩:=h;exact ihx R hx λw1 G1 a1 R1 v1=>hn w1 G1 a1 R1 v1
   |ret=>simp only[dG,eH] at h;obtain⟨rfl,rfl⟩:=h;exact ihx R hx λw1 G1 a1 R1 v1=>hn w1 G1 a1 R1 v1
 |cond c x y ihx ihy=>
  intro w S S' ex G a Q R h hn;simp only[den] at h;have hc:∀b,MZ X.P S.tm c=some b->a.eval c=.bool b:=by
   intro b hb;have:=Jb (P:=X.P) R.tm 0 c;have he:ev X.P S.tm 0 c=.d (.bool b):=by
    unfold MZ at hb;revert hb;generalize ev X.P S.tm 0 c=v;intro hb;cases v with
    |d x=>
     cases x with
     |bool b'=>exact congrArg (λq=>V.d (.bool q)) (Option.some.inj hb)
     |_=>cases hb
    |_=>cases hb
   rw[he] at this;simpa[aC,ro] using this
  cases hb:MZ X.P S.tm c with
  |none=>simp[hb] at h
  |some b=>
   rw[hb] at h;cases b with
   |true=>exact wp_cond (hc _ hb) (ihx R h hn)
   |false=>exact wp_cond (hc _ hb) (ihy R h hn)
 |block id c ih=>
  intro w S S' ex G a Q R h hn;simp only[den] at h;refine wp_block ?_;cases hx:den X K fn c S with
  |none=>simp[hx] at h
  |some r=>
   obtain⟨e1,S1⟩:=r;rw[hx] at h;cases e1 with
   |normal=>simp only[dG,eH] at h;obtain⟨rfl,rfl⟩:=h;exact ih R hx λw1 G1 a1 R1 v1=>hn w1 G1 a1 R1 v1
   |ret=>simp only[dG,eH] at h;obtain⟨rfl,rfl⟩:=h;exact ih R hx λw1 G1 a1 R1 v1=>hn w1 G1 a1 R1 v1
   |exit j=>
    refine ih R hx λw1 G1 a1 R1 v1=> ?_
    simp only[al3,Exit.inBlock]
    by_cases hj:j=id
    ·subst hj;simp only[Nat.beq_refl,bZ,dG,eH] at h;obtain⟨rfl,rfl⟩:=h;simp only[if_true];exact hn w1 G1 a1 R1 v1
    ·dsimp only at h;rw[lT hj] at h;simp only[dX,dG,eH] at h;obtain⟨rfl,rfl⟩:=h;simp only[hj,if_false];exact hn w1 G1 a1 R1 v1
 |loop c ih=>
  intro w S S' ex G a Q R h hn;simp only[den,Ig] at h;have hl:=Jk h;clear h;obtain⟨n,h⟩:=hl;refine wp_loop_rounds n ?_;induction n generalizing w S G a with
  |zero=>simp[iter] at h
  |succ n ihn=>
   simp only[iter] at h;rw[rounds_succ];cases hx:den X K fn c S with
   |none=>simp[hx] at h
   |some r=>
    obtain⟨e1,S1⟩:=r;rw[hx] at h;cases e1 with
    |normal=>exact ih R hx λw1 G1 a1 R1 v1=>ihn R1 (λw' G' a' R' v'=>hn w' G' a' R' (v1.trans' v')) h
    |exit id=>simp only[dG,eH] at h;obtain⟨rfl,rfl⟩:=h;exact ih R hx λw1 G1 a1 R1 v1=>hn w1 G1 a1 R1 v1
    |ret=>simp only[dG,eH] at h;obtain⟨rfl,rfl⟩:=h;exact ih R hx λw1 G1 a1 R1 v1=>hn w1 G1 a1 R1 v1
 |exit id=>intro w S S' ex G a Q R h hn;simp only[den,dG,eH] at h;obtain⟨rfl,rfl⟩:=h;exact wp_exit (hn _ _ _ R (View.le_refl _))
 |ret=>intro w S S' ex G a Q R h hn;simp only[den,dG,eH] at h;obtain⟨rfl,rfl⟩:=h;exact wp_ret (hn _ _ _ R (View.le_refl _))
 |_=>intro w S S' ex G a Q R h hn;simp[den] at h
end
end Go.Vm
namespace Go.Vm
open Go
structure ZR(S T:St):Prop where
 tm:∀t,get t S.tm=get t T.tm
 mem:∀k,get k S.mem=get k T.mem
def ZR.refl(S:St):ZR S S:=⟨λ_=>rfl,λ_=>rfl⟩
def ZR.symm{S T:St}(h:ZR S T):ZR T S:=⟨λt=>(h.tm t).symm,λk=>(h.mem k).symm⟩
def ZR.trans{S T V:St}(h:ZR S T)(k:ZR T V):ZR S V:=⟨λt=>(h.tm t).trans (k.tm t),λj=>(h.mem j).trans (k.mem j)⟩
def Ns{ops:Array Oper}{o:Oper}{tm GY tm':iF}{b:Bool}(h:∀t,t∈o.looksAt ops->get t GY=get t tm)(hw:vK ops tm o=some (b,tm')):∃atZ,vK ops GY o=some (b,atZ):=by
 unfold vK at hw|-;cases hg:o.guard with
 |none=>simp only[hg,dG,eH] at hw;exact⟨GY,by simp[hw.1]⟩
 |some jw=>
  obtain⟨j,want⟩:=jw;simp only[hg] at hw|-;cases hj:ops[j]? with
  |none=>simp[hj] at hw
  |some oj=>
   simp only[hj] at hw|-;cases hd:oj.dst with
   |none=>simp[hd] at hw
   |some d=>
    simp only[hd,IY] at hw|-;rw[h d (by simp[Oper.looksAt,hg,hj,hd])];split at hw
    ·split at hw
     all_goals
      simp only[dG,eH] at hw;exact⟨_,congrArg (λx=>some (x,_)) hw.1⟩
    ·split at hw
     ·simp only[dG,eH] at hw;exact⟨_,congrArg (λx=>some (x,_)) hw.1⟩
     ·cases hw
    ·cases hw
section
variable {X:Ctx} {K:fM} {fn:Nat} {ops:Array Oper}
def Lh{i:Nat}{o:Oper}{S S':St}{lg:Log}(ho:ops[i]? =some o)(h:sD X K fn ops i S=some (S',lg)):
  (∀k,k ∉ lg.w->get k S'.mem=get k S.mem)/\(∀t,o.dst≠some t->get t S'.tm=get t S.tm)/\
  ∀T:St,(∀t,t∈o.looksAt ops->get t T.tm=get t S.tm)->(∀k,k∈lg.r->get k T.mem=get k S.mem)->
   ∃T',sD X K fn ops i T=some (T',lg)/\(∀k,k∈lg.w->get k T'.mem=get k S'.mem)/\(∀k,k ∉ lg.w->get k T'.mem=get k T.mem)/\
    (∀t,o.dst=some t->get t T'.tm=get t S'.tm)/\(∀t,o.dst≠some t->get t T'.tm=get t T.tm):=by
 unfold sD at h;simp only[ho] at h;have hdel:∀(tm:iF) t,o.dst≠some t->get t (Q5 (yQ X.P fn) o.dst tm)=get t tm:=by
  intro tm t ht;unfold Q5;cases DJ (yQ X.P fn) o.dst<;>cases hd:o.dst with
  |none=>rfl
  |some d=>first|exact Ej (λe=>ht (by rw[hd,e])) tm|exact eU (λe=>ht (by rw[hd,e])) _ tm
 have hput:∀(tm:iF) v t,o.dst≠some t->get t (NJ o.dst v tm)=get t tm:=by
  intro tm v t ht;cases hd:o.dst with
  |none=>rfl
  |some d=>exact eU (λe=>ht (by rw[hd,e])) v tm
 cases hw:vK ops S.tm o with
 |none=>simp[hw] at h
 |some bt=>
  obtain⟨b,tm⟩:=bt;have hsame:=Gi hw;cases b with
  |false=>
   simp only[hw,dG,eH] at h;obtain⟨rfl,rfl⟩:=h;refine⟨λ_ _=>rfl,λt ht=>by rw[hdel tm t ht,hsame t],λT ht hk=> ?_⟩;obtain⟨GY,hw2⟩:=Ns ht hw;have YU:=Gi hw2;refine⟨⟨Q5 (yQ X.P fn) o.dst GY,T.mem⟩, ?_,λk hk=>by simp[Log.none] at hk,λ_ _=>rfl, ?_,λt ht=>by rw[hdel GY t ht,YU t]⟩
   ·unfold sD;simp only[ho,hw2]
   ·intro t htd;rw[htd];simp only[Q5,ahs,NJ];cases DJ (yQ X.P fn) (some t) with
    |false=>simp only[dX];rw[BM,BM]
    |true=>simp only[bZ];rw[dA,dA]
  |true=>
   simp only[hw] at h;cases hv:(Xj X K fn tm o).run S.mem .none with
   |none=>simp[hv] at h
   |some r=>
    obtain⟨v,m',l⟩:=r;simp only[hv] at h;cases hd:DJ (yQ X.P fn) o.dst with
    |false=>simp[hd] at h
    |true=>
     simp only[hd,bZ,dG,eH] at h;obtain⟨rfl,rfl⟩:=h;obtain⟨R,W,e,h1,h2⟩:=aea _ hv;simp only[Log.none,List.append_nil] at e;subst e;refine⟨h1,λt ht=>by rw[hput tm v t ht,hsame t],λT ht hk=> ?_⟩;obtain⟨m2,q1,q2,q3⟩:=h2 T.mem .none hk;obtain⟨GY,hw2⟩:=Ns ht hw;have YU:=Gi hw2;refine⟨⟨NJ o.dst v GY,m2⟩, ?_,q2,q3, ?_,λt ht=>by rw[hput GY v t ht,YU t]⟩
     ·unfold sD;have hc:Xj X K fn GY o=Xj X K fn tm o:=aec λx hx i hi=>by rw[YU,hsame];exact ht i (by subst hi;exact List.mem_append_left _ (List.mem_filterMap.2 ⟨.tmp i,by simpa using hx,rfl⟩))
      simp only[ho,hw2,hc,q1,hd,bZ];simp[Log.none]
     ·intro t htd;rw[htd];simp only[NJ];rw[dA,dA]
def Qq{a b:List Nat}(h:ahw a b=true):∀k,k∈a->k ∉ b:=λk hk=>GV (List.all_eq_true.1 h k hk)
structure aas(ops:Array Oper)(i j:Nat)(li lj:Log):Prop where
 ex:∃a b,ops[i]? =some a/\ops[j]? =some b/\(∀d,a.dst=some d->d ∉ b.looksAt ops)/\(∀d,a.dst=some d->b.dst≠some d)/\(∀d,b.dst=some d->d ∉ a.looksAt ops)
 wr:∀k,k∈li.w->k ∉ lj.r
 ww:∀k,k∈li.w->k ∉ lj.w
 rw:∀k,k∈li.r->k ∉ lj.w
def swap{i j:Nat}{li lj:Log}{S S1 S2:St}(hI:aas ops i j li lj)(h1:sD X K fn ops i S=some (S1,li))(h2:sD X K fn ops j S1=some (S2,lj)):
  ∃T1 T2,sD X K fn ops j S=some (T1,lj)/\sD X K fn ops i T1=some (T2,li)/\ZR S2 T2:=by
 obtain⟨a,b,ha,hb,i1,i2,i3⟩:=hI.ex;obtain⟨a1,a2,a3⟩:=Lh ha h1;obtain⟨b1,b2,b3⟩:=Lh hb h2;obtain⟨T1,c1,c2,c3,c4,c5⟩:=b3 S (λt ht=>(a2 t (λe=>i1 t e ht)).symm) (λk hk=>(a1 k (λhw=>hI.wr k hw hk)).symm);obtain⟨T2,d1,d2,d3,d4,d5⟩:=a3 T1 (λt ht=>c5 t (λe=>i3 t e ht)) (λk hk=>c3 k (hI.rw k hk));refine⟨T1,T2,c1,d1,λt=> ?_,λk=> ?_⟩
 ·by_cases hta:a.dst=some t
  ·rw[b2 t (λe=>i2 t hta e),d4 t hta]
  ·rw[d5 t hta]
   by_cases htb:b.dst=some t
   ·rw[c4 t htb]
   ·rw[c5 t htb,b2 t htb,a2 t hta]
 ·by_cases hka:k∈li.w
  ·rw[b1 k (hI.ww k hka),d2 k hka]
  ·rw[d3 k hka]
   by_cases hkb:k∈lj.w
   ·rw[c2 k hkb]
   ·rw[c3 k hkb,b1 k hkb,a1 k hka]
def Tr(X:Ctx)(K:fM)(fn:Nat)(ops:Array Oper):List (Nat×Log)->St->St->Prop
 |[],S,S'=>S=S'
 |(i,l)::is,S,S'=>∃S1,sD X K fn ops i S=some (S1,l)/\Tr X K fn ops is S1 S'
def UO{i:Nat}{S S':St}{l:Log}(h:sD X K fn ops i S=some (S',l)):∃o,ops[i]? =some o:=by
 cases ho:ops[i]? with
 |some o=>exact⟨o,rfl⟩
 |none=>simp[sD,ho] at h
def aeg{i:Nat}{S S1 T:St}{l:Log}(h:sD X K fn ops i S=some (S1,l))(hE:ZR S T):∃T1,sD X K fn ops i T=some (T1,l)/\ZR S1 T1:=by
 obtain⟨o,ho⟩:=UO h;obtain⟨a1,a2,a3⟩:=Lh ho h;obtain⟨T1,c1,c2,c3,c4,c5⟩:=a3 T (λt _=>(hE.tm t).symm) (λk _=>(hE.mem k).symm);refine⟨T1,c1,λt=> ?_,λk=> ?_⟩
 ·by_cases ht:o.dst=some t
  ·rw[c4 t ht]
  ·rw[c5 t ht,a2 t ht,hE.tm t]
 ·by_cases hk:k∈l.w
  ·rw[c2 k hk]
  ·rw[c3 k hk,a1 k hk,hE.mem k]
def Tr.eqv:∀{is:List (Nat×Log)} {S S' T:St},Tr X K fn ops is S S'->ZR S T->∃T',Tr X K fn ops is T T'/\ZR S' T'
 |[],S,S',T,h,hE=>⟨T,rfl,by cases h;exact hE⟩
 |(i,l)::is,S,S',T,⟨S1,h1,h2⟩,hE=>by obtain⟨T1,c1,e1⟩:=aeg h1 hE;obtain⟨T',c2,e2⟩:=Tr.eqv h2 e1;exact⟨T',⟨T1,c1,c2⟩,e2⟩
def Tr.front{i:Nat}{l:Log}{post:List (Nat×Log)}:∀{pre:List (Nat×Log)} {S S':St},Tr X K fn ops (pre++(i,l)::post) S S'->(∀x,x∈pre->aas ops x.1 i x.2 l)->
  ∃S'',Tr X K fn ops ((i,l)::(pre++post)) S S''/\ZR S' S''
 |[],S,S',h,_=>⟨S',h,ZR.refl _⟩
 |(j,lj)::pre,S,S',⟨S1,h1,h2⟩,hI=>by obtain⟨T',⟨T1,t1,t2⟩,e1⟩:=Tr.front h2 (λx hx=>hI x (by simp[hx]));obtain⟨V1,V2,v1,v2,ev⟩:=swap (hI (j,lj) (by simp)) h1 t1;obtain⟨V',w1,e2⟩:=Tr.eqv t2 ev;exact⟨V',⟨V1,v1,V2,v2,w1⟩,e1.trans e2⟩
end
end Go.Vm
namespace Go.Vm
open Go
def Kz(acc:Array Nat)(o:Oper):Array Nat:=acc.push (o.after.foldl (λs e=>if Region.binds .any e then s|||2 ^ e.on|||acc.getD e.on 0 else s) 0)
def aat(look:Nat->Nat)(j:Nat):∀(es:List Edge) (s:Nat),(es.foldl (λs e=>if Region.binds .any e then s|||2 ^ e.on|||look e.on else s) s).testBit j=true->
  s.testBit j=true\/∃e,e∈es/\Region.binds .any e=true/\(j=e.on\/(look e.on).testBit j=true)
 |[],s,h=> .inl h
 |e::es,s,h=>by
  simp only[List.foldl_cons] at h;rcases aat look j es _ h with h|⟨e',h1,h2⟩
  ·cases hb:Region.binds .any e with
   |false=>simp only[hb,Bool.false_eq_true,if_false] at h;exact .inl h
   |true=>
    simp only[hb,if_true,Nat.testBit_or,Bool.or_eq_true] at h;rcases h with(h|h)|h
    ·exact .inl h
    ·rw[Nat.testBit_two_pow] at h;exact .inr ⟨e,by simp,hb,.inl (by simpa using(of_decide_eq_true h).symm)⟩
    ·exact .inr ⟨e,by simp,hb,.inr h⟩
  ·exact .inr ⟨e',by simp[h1],h2⟩
def ao8(l:List Oper):∀(acc:Array Nat),(l.foldl Kz acc).size=acc.size+l.length/\(∀i,i<acc.size->(l.foldl Kz acc).getD i 0=acc.getD i 0)/\
  ∀k j,((l.foldl Kz acc).getD (acc.size+k) 0).testBit j=true->∃o e,l[k]? =some o/\e∈o.after/\Region.binds .any e=true/\(j=e.on\/(e.on<acc.size+k/\((l.foldl Kz acc).getD e.on 0).testBit j=true)):=by
 induction l with
 |nil=>intro acc;refine⟨by simp,λi _=>rfl,λk j h=> ?_⟩;rw[List.foldl_nil,Array.getD,dif_neg au] at h;simp at h
 |cons o l ih=>
  intro acc;obtain⟨s1,s2,s3⟩:=ih (Kz acc o);have hsz:(Kz acc o).size=acc.size+1:=by simp[Kz]
  rw[hsz] at s1 s2 s3;have hold:∀i,i<acc.size->(Kz acc o).getD i 0=acc.getD i 0:=by intro i hi;simp only[Kz,Array.getD_eq_getD_getElem?,Array.getElem?_push];rw[if_neg au]
  refine⟨by rw[List.foldl_cons,s1,OL];omega,λi hi=>by rw[List.foldl_cons,s2 i au,hold i hi],λk j h=> ?_⟩;rw[List.foldl_cons] at h|-;cases k with
  |zero=>
   rw[Nat.add_zero,s2 _ au] at h;have hv:(Kz acc o).getD acc.size 0=o.after.foldl (λs e=>if Region.binds .any e then s|||2 ^ e.on|||acc.getD e.on 0 else s) 0:=by simp[Kz,Array.getD_eq_getD_getElem?]
   rw[hv,<-Array.foldl_toList] at h;rcases aat (λi=>acc.getD i 0) j _ 0 h with h|⟨e,h1,h2,h3⟩
   ·simp at h
   ·refine⟨o,e,rfl,by simpa using h1,h2, ?_⟩;rcases h3 with h3|h3
    ·exact .inl h3
    ·have hlt:e.on<acc.size:=by
      rcases Nat.lt_or_ge e.on acc.size with h'|h'
      ·exact h'
      ·simp[Array.getD,Nat.not_lt.2 h'] at h3
     refine .inr ⟨au, ?_⟩;rw[s2 _ au,hold _ hlt];exact h3
  |succ k=>obtain⟨o',e,q1,q2,q3,q4⟩:=s3 k j (by rwa [show acc.size+(k+1)=acc.size+1+k by omega] at h);exact⟨o',e,by simpa using q1,q2,q3,q4.imp id fun⟨x,y⟩=>⟨au,y⟩⟩
def UQ{ops:Array Oper}{i j:Nat}(h:ordered (Region.before ops) i j=true):∃o e,ops[i]? =some o/\e∈o.after/\Region.binds .any e=true/\(j=e.on\/(e.on<i/\ordered (Region.before ops) e.on j=true)):=by
 have he:Region.before ops=ops.toList.foldl Kz #[]:=by unfold Region.before;rw[<-Array.foldl_toList];rfl
 unfold ordered at h|-;rw[he] at h|-;obtain⟨o,e,h1,h2,h3,h4⟩:=(ao8 ops.toList #[]).2.2 i j (by simpa using h);exact⟨o,e,by simpa using h1,h2,h3,by simpa using h4⟩
end Go.Vm
namespace Go.Vm
open Go
section
variable {base:Nat} {U:Nat->Prop} {M0:List Nat} {w0 w:World} {ν:Nat->Value} {M:Mem} {nt:Nat} {S T:St} {G:GS} {a:Act} {X:Ctx} {K:fM} {fn:Nat} {ops:Array Oper}
def Qr(h:ZR S T)(μ:Nat->Value):sF μ S.mem μ T.mem:=λr c hc=>⟨c,by rw[<-h.mem r];exact hc,Q8 μ r c⟩
def Rel.eqv(R:Rel base U M0 w0 ν M nt w S G a)(h:ZR S T):Rel base U M0 w0 ν M nt w T G a:=by
 have ok:=R.at_.ok;refine⟨⟨⟨?_,ok.dj,ok.OM,ok.nd,ok.Ug,ok.lt,ok.up,ok.bs, ?_,ok.out_⟩,R.at_.E,R.at_.out,R.at_.fr⟩, ?_,R.size,R.defers,mZ R.imp (Qr h _)⟩
 ·intro r c hc ho;exact yU (Qr h _) (View.le_refl _) rfl (λ_ _=>rfl) (ok.cell r c (by rw[h.mem r];exact hc) ho)
 ·intro r hr;exact ok.none_ r (by rw[h.mem r];exact hr)
 ·intro t v hv;obtain⟨h1,h2⟩:=R.tm t v (by rw[h.tm t];exact hv);exact⟨h1,pY (Qr h _) (View.le_refl _) _ _ h2⟩
def Cl(ops:Array Oper)(listed:Array Bool):Prop:=∀k,listed.getD k false=true->∀o,ops[k]? =some o->∀e,e∈o.after->Region.binds .any e=true->listed.getD e.on false=true
def Cl.path{listed:Array Bool}(h:Cl ops listed):∀(k j:Nat),listed.getD k false=true->ordered (Region.before ops) k j=true->listed.getD j false=true:=by
 intro k;induction k using Nat.strongRecOn with
 |_ k ih=>
  intro j hk ho;obtain⟨o,e,h1,h2,h3,h4⟩:=UQ ho;have he:=h k hk o h1 e h2 h3;rcases h4 with rfl|⟨h5,h6⟩
  ·exact he
  ·exact ih e.on h5 j he h6
def Ok(ops:Array Oper):List (Nat×Log)->Prop:=List.Pairwise λp q=>ordered (Region.before ops) q.1 p.1=true\/aas ops p.1 q.1 p.2 q.2
def RG:∀{L:List (Nat×Log)},KL ops (Region.before ops) L=true->L.Pairwise λq p=>ordered (Region.before ops) q.1 p.1=true\/aas ops p.1 q.1 p.2 q.2
 |[],_=>List.Pairwise.nil
 |(i,l)::L,h=>by
  simp only[KL,su] at h;refine List.Pairwise.cons ?_ (RG h.2);rintro⟨j,l'⟩ hj;have:=List.all_eq_true.1 h.1 (j,l') hj;simp only[Bool.or_eq_true,su] at this;rcases this with h1|⟨h1,h2⟩
  ·exact .inl h1
  ·right;cases ha:ops[i]? with
   |none=>simp[ha] at h2
   |some a=>
    cases hb:ops[j]? with
    |none=>simp[ha,hb] at h2
    |some b=>simp only[ha,hb] at h2;obtain⟨p1,p2,p3⟩:=Oper.apart_spec h2;simp only[Log.apart,su] at h1;refine⟨⟨b,a,hb,ha,p3,λd hd he=>p2 d he hd,p1⟩,λk hk hr=>Qq h1.2 k hr hk,λk hk hr=>Qq h1.1.2 k hr hk,λk hk hr=>Qq h1.1.1 k hr hk⟩
end
end Go.Vm
