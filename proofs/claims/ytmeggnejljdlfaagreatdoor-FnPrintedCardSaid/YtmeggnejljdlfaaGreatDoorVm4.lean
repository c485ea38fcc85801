import Derived.Test.YtmeggnejljdlfaaGreatDoorVm2
import Derived.Laws.StructEq
import Derived.Laws.Strings
import Derived.Laws.BytesString
import Derived.LoopN
import Derived.CheckFast
import Derived.IntWalk
import Derived.ChangeShapes
import Derived.ChangeOld
import Derived.Carry
import Derived.WideShapes
import Derived.ProofKit
import Derived.Handed
import Derived.LaidLaws
import Derived.LaidHandle
import Derived.Shelf.Vars
import Derived.OpenShut
import Derived.ChangeArms
import Derived.LaidMore
set_option linter.defProp false
set_option linter.unusedVariables false
set_option linter.unusedSimpArgs false
open Go.IntKind (i64)
namespace Go.Vm
open Go
section
variable {base:Nat} {U:Nat->Prop} {M0:List Nat} {w0 w w':World} {m m':Mem} {G G':GS} {P:Program}
def asH(μ:Nat->Value)(m:Mem)(h:View):Option V->Option Value->Prop
 |none,g=>g=none
 |some v,g=>∃x,g=some x/\aO μ m h v x
def ZT{μ:Nat->Value}{h:View}{o:Option V}{g:Option Value}{d n:Int}{l l':Log}(hq:asH μ m h o g)(hr:(bound o d).run m l=some (n,m',l')):
  m'=m/\((g=none/\n=d)\/∃k,g=some (.int k n)):=by
 unfold bound at hr;split at hr
 ·change some (_,_,_)=_ at hr;simp only[jF,nT] at hr;obtain⟨rfl,rfl,_⟩:=hr;exact⟨rfl,.inl ⟨hq,rfl⟩⟩
 ·change some (_,_,_)=_ at hr;simp only[jF,nT] at hr;obtain⟨rfl,rfl,_⟩:=hr;obtain⟨x,rfl,hx⟩:=hq;simp only[aO,ro] at hx;exact⟨rfl,.inr ⟨_,by rw[hx]⟩⟩
 ·exact(ahR hr).elim
def apb{α:Type}{l r:List α}{a b:Int}(h:cut l a b=some r):0<=a/\a<=b/\b<=l.length/\r=(l.drop a.toNat).take (b.toNat - a.toNat):=by
 unfold cut at h;cases hc:(decide (0<=a) && decide (a<=b) && decide (b<=(l.length:Int))) with
 |false=>simp[hc] at h
 |true=>simp only[hc,aK,jF] at h;simp only[xw,decide_eq_true_eq] at hc;exact⟨hc.1.1,hc.1.2,hc.2,h.symm⟩
def V3{ZG:Bool}{len cap:Nat}{lo hi:Option Value}{a b:Int}(ha:(lo=none/\a=0)\/∃k,lo=some (.int k a))(hb:(hi=none/\b=len)\/∃k,hi=some (.int k b))
  (h0:0<=a) (h1:a<=b) (h2:b<=len) (h3:len<=cap):(Instr.sliceBounds ZG len cap lo hi none).run P w=.ok (a.toNat,b.toNat,cap) w:=by
 have hbc:b<=cap:=ak;have h0b:0<=b:=ak;rcases ha with⟨rfl,rfl⟩|⟨k,rfl⟩<;>rcases hb with⟨rfl,rfl⟩|⟨k',rfl⟩
 ·simp[Instr.sliceBounds]
 ·simp[Instr.sliceBounds,Instr.sliceBound,asIntOf,h0b,hbc]
 ·simp[Instr.sliceBounds,Instr.sliceBound,asIntOf,h0,h2,h1]
 ·have:(a:Int)<=(b.toNat:Int):=ak;simp[Instr.sliceBounds,Instr.sliceBound,asIntOf,h0b,hbc,h0,this];omega
def afy{h:View}{s:Nat}:∀{rows:List Row} {b o:Nat} (n:Nat),oW h s rows b o->oW h s (rows.drop n) b (o+n * s)
 |rows,b,o,0,q=>by simpa using q
 |[],b,o,n+1,q=>by simp[oW]
 |r::rows,b,o,n+1,q=>by simp only[oW] at q;have:=afy n q.2.2;rw[List.drop_succ_cons,Nat.add_mul,Nat.one_mul,show o+(n * s+s)=o+s+n * s by omega];exact this
def afz{h:View}{s:Nat}:∀{rows:List Row} {b o:Nat} (n:Nat),oW h s rows b o->oW h s (rows.take n) b o
 |rows,b,o,0,q=>by simp[oW]
 |[],b,o,n+1,q=>by simp[oW]
 |r::rows,b,o,n+1,q=>by simp only[oW] at q;simp only[List.take_succ_cons,oW];exact⟨q.1,q.2.1,afz n q.2.2⟩
def axt{h:View}{o:Bool}{s:Nat}{rows rows':List Row}{t e:TypeId}{inf:TypeInfo}{g:Value}{lo hi:Option Value}{a b:Int}(hu:P.underlying t=some (.slice e))(hi':P.info? e=some inf)(hs:s=inf.size)
  (hq:ro h (.sl o s rows) g) (ha:(lo=none/\a=0)\/∃k,lo=some (.int k a)) (hb:(hi=none/\b=rows.length)\/∃k,hi=some (.int k b)) (hc:cut rows a b=some rows'):
  ∃g',(Instr.sliceAt t g lo hi none).run P w=.ok g' w/\ro h (.sl false s rows') g':=by
 obtain⟨h0,h1,h2,rfl⟩:=apb hc;simp only[ro] at hq;obtain⟨ad,cap,rfl,hcap,hne⟩:=hq;have hrun:=V3 (P:=P) (w:=w) (ZG:=true) ha hb h0 h1 ak hcap;have hlen:(List.take (b.toNat - a.toNat) (List.drop a.toNat rows)).length=b.toNat - a.toNat:=by simp;omega
 refine⟨.slice (if cap=a.toNat then ad else ad.map (·.add (a.toNat * inf.size))) (b.toNat - a.toNat) (cap - a.toNat), ?_, ?_⟩
 ·simp only[Instr.sliceAt,Sem.run_bind,run_underlying hu,Result.andThen_ok,Instr.slice,hrun,sizeOf,typeInfo];simp[hi']
 ·simp only[ro];refine⟨_,cap - a.toNat,by rw[hlen],by rw[hlen];omega, ?_⟩;intro hne';have hpos:0<b.toNat - a.toNat:=by rw[<-hlen];exact List.length_pos_iff.2 hne'
  have hrows:rows≠[]:=by intro e;subst e;simp at hne'
  obtain⟨bb,oo,rfl,hr⟩:=hne hrows;have hca:¬cap=a.toNat:=ak;refine⟨bb,oo+a.toNat * s, ?_,afz _ (afy _ hr)⟩;subst hs;simp[hca,Addr.add]
def ak0(s:List UInt8)(a b:Nat)(h:a<=b)(hb:b<=s.length):(ByteArray.mk ⟨s⟩).extract a b=⟨⟨(s.drop a).take (b - a)⟩⟩:=by
 have:((ByteArray.mk ⟨s⟩).extract a b).data=⟨(s.drop a).take (b - a)⟩:=by rw[ByteArray.data_extract];apply Array.ext';simp[Array.toList_extract,List.extract_eq_take_drop]
 exact congrArg ByteArray.mk this
def avG(hA:At base U M0 w0 w m G){t:TypeId}{x:V}{gx:Value}{lo hi:Option V}{glo ghi:Option Value}(hx:aO G.μ m (Gh U w G) x gx)(hlo:asH G.μ m (Gh U w G) lo glo)(hhi:asH G.μ m (Gh U w G) hi ghi)
  {v:V} {l l':Log} (hh0:(asn P t x lo hi).run m l=some (v,m',l')):NQ base U M0 w0 w m G P (Instr.sliceAt t gx glo ghi none) v m':=by
 have gen:∀(x:V),aO G.μ m (Gh U w G) x gx->(do
   let e<-op' (elT P t)
   ck (BA P e)
   let(s,rows)<-seen x
   ck (Nat.beq s (oU P e))
   let l<-bound lo 0
   let h<-bound hi rows.length
   let rows'<-op' (cut rows l h)
   match x with
   | .own r ver=>do
    match<-rd r with
    |some (.arr _ fl jM s rows)=>do
     ck (Nat.beq ver jM)
     wr r (.arr true fl ver s rows)
     pure (.d (.sl false s rows'))
    |_=> .fail
   |_=>pure (.d (.sl false s rows')):Acc V).run m l=some (v,m',l')->NQ base U M0 w0 w m G P (Instr.sliceAt t gx glo ghi none) v m':=by
  intro x hx h;replace h:=aj h;obtain⟨e,m1,l1,h1,h⟩:=h;obtain⟨he,rfl,rfl⟩:=jc h1;have he:=VX he;replace h:=aj h;obtain⟨_,m1,l1,h1,h⟩:=h;obtain⟨hok,rfl,rfl⟩:=fJ h1;obtain⟨d',hd'⟩:=EN hok;obtain⟨inf,Nu⟩:=zA hd';have hsz:=JZ Nu;replace h:=aj h;obtain⟨⟨s,rows⟩,m1,l1,h1,h⟩:=h;obtain⟨rfl,hfull⟩:=at7 hA.ok hx hA.out h1;simp only at h;replace h:=aj h;obtain⟨_,m2,l2,h2,h⟩:=h;obtain⟨hs,rfl,rfl⟩:=fJ h2;have hs:=yV hs;replace h:=aj h;obtain⟨a,m2,l2,h2,h⟩:=h;obtain⟨rfl,ha⟩:=ZT hlo h2;replace h:=aj h;obtain⟨b,m3,l3,h3,h⟩:=h;obtain⟨rfl,hb⟩:=ZT hhi h3;replace h:=aj h;obtain⟨rows',m4,l4,h4,h⟩:=h;obtain⟨hcut,rfl,rfl⟩:=jc h4;have axu:∀{h':View} {G1:GS} {m1':Mem} {o:Bool},Nx base U M0 w0 w m4 G w m1' G1->h'=Gh U w G1->ro h' (.sl o s rows) gx->NQ base U M0 w0 w m4 G P (Instr.sliceAt t gx glo ghi none) (.d (.sl false s rows')) m1':=by intro h' G1 m1' o hnx hh hro;subst hh;obtain⟨g',hrun,hg'⟩:=axt (w:=w) he Nu (hs.trans hsz) hro ha hb hcut;exact⟨g',w,G1,hrun,hnx,hg'⟩
  cases x with
  |own r ver=>
   simp only at h;replace h:=aj h;obtain⟨c,m5,l5,h5,h⟩:=h;rw[uG] at h5;cases h5;cases hc:get r m4 with
   |none=>rw[hc] at h;exact aF h
   |some c=>
    rw[hc] at h;cases c with
    |arr fz fl jM s2 aLG=>simp only at h;replace h:=aj h;obtain⟨_,m5,l5,h5,h⟩:=h;obtain⟨hbq,rfl,rfl⟩:=fJ h5;have hbq:=yV hbq;subst hbq;replace h:=aj h;obtain⟨_,m5,l5,h5,h⟩:=h;rw[DK] at h5;simp only[jF,nT] at h5;obtain⟨_,rfl,_⟩:=h5;simp only[run_pure,jF,nT] at h;obtain⟨rfl,rfl,_⟩:=h;simp only[seen] at h1;replace h1:=aj h1;obtain⟨c,m6,l6,h6,h1⟩:=h1;rw[uG] at h6;cases h6;rw[hc] at h1;simp only at h1;replace h1:=aj h1;obtain⟨_,m6,l6,h6,h1⟩:=h1;obtain⟨_,rfl,rfl⟩:=fJ h6;simp only[run_pure,jF,nT] at h1;obtain⟨⟨rfl,rfl⟩,_⟩:=h1;obtain⟨k1,k2,k3⟩:=hA.ok.freeze hc (by rw[hA.out];simp);simp only[aO,hc] at hx;have hgx:=hx.2.2 trivial;rw[<-hgx] at k3;rw[hA.E] at k3;exact axu (hA.still k1 k2 hA.out) rfl (ahU (fl:=fl) k3)
    |_=>exact aF h
  |d y=>
   cases y with
   |sl o s2 aLG=>simp only[seen,run_pure,jF,nT] at h1 h;obtain⟨⟨rfl,rfl⟩,_⟩:=h1;obtain⟨rfl,rfl,_⟩:=h;exact axu (o:=o) hA.nx rfl hx
   |_=>exact aF h1
  |nil s2=>simp only[seen,run_pure,jF,nT] at h1 h;obtain⟨⟨rfl,rfl⟩,_⟩:=h1;obtain⟨rfl,rfl,_⟩:=h;refine axu (o:=false) hA.nx rfl ?_;simp only[aO] at hx;subst hx;simp[ro]
  |_=>exact aF h1
 have h:=hh0;cases x with
 |d y=>
  cases y with
  |str s=>
   simp only[asn] at h;replace h:=aj h;obtain⟨_,m1,l1,h1,h⟩:=h;obtain⟨hu,rfl,rfl⟩:=fJ h1;replace h:=aj h;obtain⟨a,m2,l2,h2,h⟩:=h;obtain⟨rfl,ha⟩:=ZT hlo h2;replace h:=aj h;obtain⟨b,m3,l3,h3,h⟩:=h;obtain⟨rfl,hb⟩:=ZT hhi h3;replace h:=aj h;obtain⟨s',m4,l4,h4,h⟩:=h;obtain⟨hcut,rfl,rfl⟩:=jc h4;simp only[run_pure,jF,nT] at h;obtain⟨rfl,rfl,_⟩:=h;obtain⟨h0,h1,h2,rfl⟩:=apb hcut;simp only[aO,ro] at hx;subst hx;have hu:P.underlying t=some .string:=by
    cases hd:P.underlying t with
    |none=>simp[hd] at hu
    |some d=>rw[hd] at hu;cases d<;>simp at hu;rfl
   have hrun:=V3 (P:=P) (w:=w) (ZG:=false) (len:=s.length) (cap:=s.length) ha hb h0 h1 h2 (Nat.le_refl _);have hsize:(ByteArray.mk ⟨s⟩).size=s.length:=rfl;refine NQ.same hA (g:=.string ((ByteArray.mk ⟨s⟩).extract a.toNat b.toNat)) ?_ ?_
   ·simp only[Instr.sliceAt,Sem.run_bind,run_underlying hu,Result.andThen_ok,Instr.slice];simp[hsize,hrun]
   ·simp only[aO,ro];rw[ak0 s _ _ ak ak]
  |sl o s rows=>exact gen _ hx h
  |int _ _=>exact gen _ hx h
  |bool _=>exact gen _ hx h
  |Zo=>exact gen _ hx h
 |nil _=>exact gen _ hx h
 |own _ _=>exact gen _ hx h
 |ptr _ _=>exact gen _ hx h
 |EL _ _ _ _=>exact gen _ hx h
 |zx _ _=>exact gen _ hx h
 |NR _=>exact gen _ hx h
 |clo _ _ _=>exact gen _ hx h
 |agg _=>exact gen _ hx h
 |JV _=>exact gen _ hx h
 |undef=>exact gen _ hx h
def avH(hA:At base U M0 w0 w m G){t:TypeId}{x:V}{gx:Value}{lo hi:Option V}{glo ghi:Option Value}(hx:aO G.μ m (Gh U w G) x gx)(hlo:asH G.μ m (Gh U w G) lo glo)(hhi:asH G.μ m (Gh U w G) hi ghi)
  {v:V} {l l':Log} (h:(anA P t x lo hi).run m l=some (v,m',l')):NQ base U M0 w0 w m G P (Instr.sliceAt t gx glo ghi none) v m':=by
 cases x with
 |zx row off=>
  simp only[anA] at h;replace h:=aj h;obtain⟨q,m1,l1,h1,h⟩:=h;obtain⟨ha,rfl,rfl⟩:=jc h1;obtain⟨n,e⟩:=q;simp only at h;replace h:=aj h;obtain⟨_,m1,l1,h1,h⟩:=h;obtain⟨hok,rfl,rfl⟩:=fJ h1;replace h:=aj h;obtain⟨_,m1,l1,h1,h⟩:=h;obtain⟨hk,rfl,rfl⟩:=fJ h1;simp only[xw,Nat.beq_eq] at hk;obtain⟨hsz,rfl,hlen⟩:=hk;cases lo<;>try exact aF h
  cases hi<;>try exact aF h
  simp only[run_pure,jF,nT] at h;obtain⟨rfl,rfl,_⟩:=h;simp only[asH] at hlo hhi;subst hlo hhi;simp only[aO] at hx;obtain⟨b,o,rfl,hr⟩:=hx;have hu:=ao9 ha;obtain⟨d',hd'⟩:=EN hok;obtain⟨inf,Nu⟩:=zA hd';have hrun:=V3 (P:=P) (w:=w) (ZG:=false) (len:=n) (cap:=n) (lo:=none) (hi:=none) (a:=0) (b:=n) (.inl ⟨rfl,rfl⟩) (.inl ⟨rfl,rfl⟩) ak ak ak (Nat.le_refl _);refine NQ.same hA (g:=.slice (some ⟨b,o,none⟩) n n) ?_ ?_
  ·simp only[Instr.sliceAt,Sem.run_bind,run_underlying hu,Result.andThen_ok,Instr.sureAddr,sizeOf,typeInfo];simp only[Sem.run_pure,Result.andThen_ok];rw[hrun];simp[Nu,UR]
  ·simp only[aO,ro];refine⟨_,n,by simp[hlen],by simp[hlen],λ_=>⟨b,o,rfl,ahT row b o hr⟩⟩
 |_=>exact avG hA hx hlo hhi h
def YL{H:Heap}{h:View}{fl:Bool}{s:Nat}:∀{rows:List Row} {cs:List Value} {N:List Nat} (n:Nat),Ih H h fl s rows cs N->∃N' N2,N=N'++N2/\Ih H h fl s (rows.take n) cs N'
 |rows,cs,N,0,q=>⟨[],N,by simp,by cases fl<;>simp[Ih,iI,gJ]⟩
 |[],cs,N,n+1,q=>⟨N,[],by simp,by simpa using q⟩
 |r::rs,cs,N,n+1,q=>by
  cases fl with
  |true=>simp only[Ih,iI] at q;obtain⟨⟨q1,q2,q3⟩,rfl⟩:=q;obtain⟨N',N2,e,k⟩:=YL (H:=H) (fl:=true) n (show Ih H h true s rs (cs.drop s) [] from⟨q3,rfl⟩);obtain⟨rfl,rfl⟩:=List.append_eq_nil_iff.1 e.symm;exact⟨[],[],rfl,⟨⟨q1,q2,k.1⟩,rfl⟩⟩
  |false=>simp only[Ih,gJ] at q;obtain⟨q1,N1,N3,rfl,q2,q3⟩:=q;obtain⟨N',N2,rfl,k⟩:=YL (fl:=false) n (show Ih H h false s rs (cs.drop s) N3 from q3);refine⟨N1++N',N2,by simp, ?_⟩;simp only[Ih,List.take_succ_cons,gJ];exact⟨q1,N1,N',rfl,q2,k⟩
def avI(hA:At base U M0 w0 w m G){t:TypeId}{x:V}{gx:Value}{hi:Option V}{ghi:Option Value}(hx:aO G.μ m (Gh U w G) x gx)(hhi:asH G.μ m (Gh U w G) hi ghi)
  {v:V} {l l':Log} (h:(aso P t x hi).run m l=some (v,m',l')):NQ base U M0 w0 w m G P (Instr.sliceAt t gx none ghi none) v m':=by
 simp only[aso] at h;replace h:=aj h;obtain⟨e,m1,l1,h1,h⟩:=h;obtain⟨he,rfl,rfl⟩:=jc h1;have hu:=VX he;replace h:=aj h;obtain⟨_,m2,l2,h2,h⟩:=h;obtain⟨hok,rfl,rfl⟩:=fJ h2;obtain⟨d',hd'⟩:=EN hok;obtain⟨inf,Nu⟩:=zA hd';have hsz:=JZ Nu;cases x<;>try exact aF h
 rename_i r ver;simp only at h;replace h:=aj h;obtain⟨c,m3,l3,h3,h⟩:=h;rw[uG] at h3;cases h3;cases hc:get r m2 with
 |none=>rw[hc] at h;exact aF h
 |some c=>
 rw[hc] at h;cases c with
 |box _ _=>exact aF h
 |dead=>exact aF h
 |VG _ _ _=>exact aF h
 |AQ _ _=>exact aF h
 |zy _ _ _ _ _=>exact aF h
 |arr fz fl jM s rows=>
 cases fz with
 |true=>exact aF h
 |false=>
 simp only at h;replace h:=aj h;obtain⟨_,m3,l3,h3,h⟩:=h;obtain⟨hb,rfl,rfl⟩:=fJ h3;have hb:=yV hb;subst hb;replace h:=aj h;obtain⟨_,m4,l4,h4,h⟩:=h;obtain⟨hs,rfl,rfl⟩:=fJ h4;have hs:=yV hs;subst hs;replace h:=aj h;obtain⟨k,m5,l5,h5,h⟩:=h;obtain⟨rfl,hb⟩:=ZT hhi h5;replace h:=aj h;obtain⟨_,m6,l6,h6,h⟩:=h;obtain⟨hk,rfl,rfl⟩:=fJ h6;simp only[xw,decide_eq_true_eq] at hk;replace h:=aj h;obtain⟨_,m7,l7,h7,h⟩:=h;rw[DK] at h7;simp only[jF,nT] at h7;obtain⟨_,rfl,_⟩:=h7;simp only[run_pure,jF,nT] at h;obtain⟨rfl,rfl,_⟩:=h;simp only[aO,hc] at hx;have hx:=hx.2.2 trivial;subst hx;have hcell:=hA.ok.cell r _ hc (by rw[hA.out];simp);simp only[nY] at hcell;have asE:¬ver=ver+1:=ak;have hlen:(rows.take k.toNat).length=k.toNat:=by rw[VF];omega
 have fin:∀(g:Value) (N:List Nat),N.Nodup->(∀b,b∈N->b∈G.F r)->(∀h':View,(Gh U w G).le h'->aa8 (dA w) h' fl (oU P e) (rows.take k.toNat) g N)->(Instr.sliceAt t (G.μ r) none ghi none).run P w=.ok g w->ZG g->
   NQ base U M0 w0 w m6 G P (Instr.sliceAt t (G.μ r) none ghi none) (.own r (ver+1)) (put r (.arr false fl (ver+1) (oU P e) (rows.take k.toNat)) m6):=by
  intro g N hN hNs VY hrun hone;refine⟨g,w,_,hrun,hA.ok.rewrite hA.out hA.fr (μ':=upM G.μ r g) (N:=N) hc (Keep.refl _ _) hN (λb hb=>⟨.inl (hNs b hb),(hA.ok.lt b (.inr ⟨r,hNs b hb⟩)).1⟩) (λj hj=>Ld g hj) ⟨ak,rfl,λe=>absurd e asE⟩ (λh' hv hml _=> ?_), ?_⟩
  ·simp only[nY,BF];exact VY h' hv
  ·simp[aO,gV,hone]
 rcases hcell with⟨rfl,hμ,hF⟩|⟨b,cap,cs,T,N',k1,k2,k3,k4,k5,k6⟩
 ·have hrun:=V3 (P:=P) (w:=w) (ZG:=true) (len:=0) (cap:=0) (lo:=none) (hi:=ghi) (a:=0) (b:=k) (.inl ⟨rfl,rfl⟩) hb ak hk.1 hk.2 (Nat.le_refl _);have hk0:k.toNat=0:=by have:=hk.2;simp at this;omega
  refine fin (.slice none 0 0) [] (by simp) (by simp) (λh' hv=> .inl ⟨by simp,rfl,rfl⟩) ?_ ⟨_,_,_,rfl⟩;rw[hμ];simp only[Instr.sliceAt,Sem.run_bind,run_underlying hu,Result.andThen_ok,Instr.slice,hrun,sizeOf,typeInfo];simp[Nu,hk0]
 ·have hrun:=V3 (P:=P) (w:=w) (ZG:=true) (len:=rows.length) (cap:=cap) (lo:=none) (hi:=ghi) (a:=0) (b:=k) (.inl ⟨rfl,rfl⟩) hb ak hk.1 hk.2 k2;have k5':Ih (dA w) (Gh U w G) fl (oU P e) rows cs.toList N':=by
   cases fl with
   |true=>exact k5
   |false=>exact k5
  obtain⟨N1,N2,aLH,hq⟩:=YL k.toNat k5';have hnd:=hA.ok.nd r;rw[k6,aLH,<-VE] at hnd;refine fin (.slice (some ⟨b,0,none⟩) k.toNat cap) (b::N1) (List.nodup_append.1 hnd).1 (λj hj=> ?_) (λh' hv=> .inr ⟨b,cap,cs,T,N1,by rw[hlen],by rw[hlen];have:=hk.2;omega,k3,k4, ?_,rfl⟩) ?_ ⟨_,_,_,rfl⟩
  ·rw[k6,aLH,<-VE];exact List.mem_append_left _ hj
  ·have:=Py hv (λ_ _=>rfl) hq;cases fl with
   |true=>exact this
   |false=>exact this
  ·rw[k1];simp only[Instr.sliceAt,Sem.run_bind,run_underlying hu,Result.andThen_ok,Instr.slice,hrun,sizeOf,typeInfo];simp[Nu,UR]
def axv(hA:At base U M0 w0 w m G){t:TypeId}{x lo:V}{gx glo:Value}(hx:aO G.μ m (Gh U w G) x gx)(hlo:aO G.μ m (Gh U w G) lo glo)
  {v:V} {l l':Log} (h:(aG2 P t x lo).run m l=some (v,m',l')):NQ base U M0 w0 w m G P (Instr.sliceAt t gx (some glo) none none) v m':=aF h
def gvD:D->Value
 | .int k n=> .int k n
 | .bool b=> .bool b
 | .str s=> .string ⟨⟨s⟩⟩
 |_=> .nilFunc
def aLI{h:View}{x:D}(hf:x.flat=true):ro h x (gvD x):=by
 cases x with
 |sl _ _ _=>simp[D.flat] at hf
 |_=>simp[gvD,ro]
def aCj{op:BinOp}{k:IntKind}{a b:Int}{v:V}{t:TypeId}(ho:shiftOp op=false)(hz:nz op b=true)(h:aIT op k a b=some v):∃x,v=.d x/\x.flat=true/\(binOp op t (.int k a) (.int k b)).run P w=.ok (gvD x) w:=by
 cases op
 case add=>cases h;exact⟨_,rfl,rfl,by simp[binOp,Op.intArith,gvD]⟩
 case sub=>cases h;exact⟨_,rfl,rfl,by simp[binOp,Op.intArith,gvD]⟩
 case mul=>cases h;exact⟨_,rfl,rfl,by simp[binOp,Op.intArith,gvD]⟩
 case and=>cases h;exact⟨_,rfl,rfl,by simp[binOp,Op.intBits,gvD]⟩
 case or=>cases h;exact⟨_,rfl,rfl,by simp[binOp,Op.intBits,gvD]⟩
 case xor=>cases h;exact⟨_,rfl,rfl,by simp[binOp,Op.intBits,gvD]⟩
 case eql=>cases h;exact⟨_,rfl,rfl,by simp[binOp,Op.intCmp,gvD]⟩
 case neq=>cases h;exact⟨_,rfl,rfl,by simp[binOp,Op.intCmp,gvD]⟩
 case lss=>cases h;exact⟨_,rfl,rfl,by simp[binOp,Op.intCmp,gvD]⟩
 case leq=>cases h;exact⟨_,rfl,rfl,by simp[binOp,Op.intCmp,gvD]⟩
 case gtr=>cases h;exact⟨_,rfl,rfl,by simp[binOp,Op.intCmp,gvD]⟩
 case geq=>cases h;exact⟨_,rfl,rfl,by simp[binOp,Op.intCmp,gvD]⟩
 case quo=>
  have hb:¬b=0:=by simpa[nz] using hz
  ·cases h;exact⟨_,rfl,rfl,by simp[binOp,Op.intDiv,hb,gvD]⟩
 case rem=>
  have hb:¬b=0:=by simpa[nz] using hz
  ·cases h;exact⟨_,rfl,rfl,by simp[binOp,Op.intDiv,hb,gvD]⟩
 all_goals first|(cases ho;done)|(cases h;done)
def apc{op:BinOp}{k k':IntKind}{a b:Int}{v:V}{t:TypeId}(h:acX op k a b=some v):∃x,v=.d x/\x.flat=true/\(binOp op t (.int k a) (.int k' b)).run P w=.ok (gvD x) w:=by
 unfold acX at h
 by_cases hb:b<0
 ·simp[hb] at h
 ·simp only[hb,decide_false,bg] at h;cases op<;>simp only at h<;>first|(cases h;done)|skip
  all_goals
   cases h;exact⟨_,rfl,rfl,by simp[binOp,Op.shift,hb,gvD]⟩
def toList_mk(s:List UInt8):(ByteArray.mk ⟨s⟩).toList=s:=by rw[ByteArray.toList_eq]
def avJ(a b:List UInt8):ByteArray.mk ⟨a⟩++ByteArray.mk ⟨b⟩=⟨⟨a++b⟩⟩:=by
 have:(ByteArray.mk ⟨a⟩++ByteArray.mk ⟨b⟩).data=⟨a++b⟩:=by rw[ByteArray.data_append];simp
 exact congrArg ByteArray.mk this
def aCk{op:BinOp}{a b:List UInt8}{v:V}{t:TypeId}{l l':Log}(h:(aIU op a b).run m l=some (v,m',l')):
  m'=m/\∃x,v=.d x/\x.flat=true/\(binOp op t (.string ⟨⟨a⟩⟩) (.string ⟨⟨b⟩⟩)).run P w=.ok (gvD x) w:=by
 cases op<;>simp only[aIU] at h<;>try exact aF h
 case add=>
  cases hc:Nat.ble (a.length+b.length) asf with
  |false=>rw[hc] at h;simp[Acc.run] at h
  |true=>
   rw[hc] at h;change some (_,_,_)=_ at h;simp only[jF,nT] at h;obtain⟨rfl,rfl,_⟩:=h;have hc:=Nat.le_of_ble_eq_true hc;have hm:IntKind.i64.max=(asf:Int):=by decide
   have hn:¬((((ByteArray.mk ⟨a⟩).size+(ByteArray.mk ⟨b⟩).size:Nat):Int)>IntKind.i64.max):=by rw[hm];have h1:(ByteArray.mk ⟨a⟩).size=a.length:=rfl;have h2:(ByteArray.mk ⟨b⟩).size=b.length:=rfl;rw[h1,h2];omega
   refine⟨rfl,_,rfl,rfl, ?_⟩;simp only[binOp,Op.stringOp,if_neg hn,Sem.run_pure,avJ,gvD]
 all_goals
  change some (_,_,_)=_ at h;simp only[jF,nT] at h;obtain⟨rfl,rfl,_⟩:=h;refine⟨rfl,_,rfl,rfl, ?_⟩;simp[binOp,Op.stringOp,toList_mk,gvD]
def asI{t:TypeId}(h:boolT P t=true):P.underlying t=some .bool:=by
 unfold boolT at h;cases hd:P.underlying t with
 |none=>simp[hd] at h
 |some d=>rw[hd] at h;cases d<;>simp at h;rfl
def apd{op:BinOp}{t:TypeId}{ox oy:Operand}{a b:Value}(h:∀c,a≠.agg c)(hn:a≠.nilIface):(eqGuard op t ox oy a b).run P w=.ok () w:=by
 unfold eqGuard;cases op<;>simp
 all_goals cases a<;>first|exact absurd rfl (h _)|exact absurd rfl hn|simp
def ak1{t:TypeId}(h:P.underlying t=some .bool)(a b:Bool):(Op.equalIn Op.maxDepth t (.bool a) (.bool b)).run P w=.ok (a==b) w:=by
 have:∀d,(Op.equalIn (d+1) t (.bool a) (.bool b)).run P w=.ok (a==b) w:=by intro d;simp[Op.equalIn,run_underlying h]
 exact this 9999
def aI3(hA:At base U M0 w0 w m G){op:BinOp}{t:TypeId}{ox oy:Operand}{x y:V}{gx gy:Value}(hx:aO G.μ m (Gh U w G) x gx)(hy:aO G.μ m (Gh U w G) y gy){v:V}{l l':Log}(h:(bin (boolT P t) op x y).run m l=some (v,m',l')):
  NQ base U M0 w0 w m G P (do eqGuard op t ox oy gx gy;binOp op t gx gy) v m':=by
 have close:∀{x:D},(∀c,gx≠.agg c)->gx≠.nilIface->x.flat=true->(binOp op t gx gy).run P w=.ok (gvD x) w->NQ base U M0 w0 w m G P (do eqGuard op t ox oy gx gy;binOp op t gx gy) (.d x) m:=by intro x h1 h2 hq hr;refine NQ.same hA (g:=gvD x) ?_ (by simp only[aO];exact aLI hq);simp only[Sem.run_bind,apd h1 h2,Result.andThen_ok,hr]
 unfold bin at h;split at h
 ·simp only[aO,ro] at hx hy;subst hx hy;split at h
  ·rename_i ho;cases hb:acX op _ _ _ with
   |none=>rw[hb] at h;simp[Acc.run] at h
   |some r=>rw[hb] at h;change some (_,_,_)=_ at h;simp only[jF,nT] at h;obtain⟨rfl,rfl,_⟩:=h;obtain⟨x,rfl,hq,hr⟩:=apc (P:=P) (w:=w) (t:=t) hb;exact close (by simp) (by simp) hq hr
  ·rename_i ho;split at h
   ·rename_i hk;have hk:=of_decide_eq_true hk;subst hk;cases hz:nz op _ with
    |false=>rw[hz] at h;cases h
    |true=>
    rw[hz] at h;simp only[Acc.run] at h;cases hb:aIT op _ _ _ with
    |none=>rw[hb] at h;simp[Acc.run] at h
    |some r=>rw[hb] at h;change some (_,_,_)=_ at h;simp only[jF,nT] at h;obtain⟨rfl,rfl,_⟩:=h;obtain⟨x,rfl,hq,hr⟩:=aCj (P:=P) (w:=w) (t:=t) ho hz hb;exact close (by simp) (by simp) hq hr
   ·exact aF h
 ·simp only[aO,ro] at hx hy;subst hx hy;obtain⟨rfl,x,rfl,hq,hr⟩:=aCk (P:=P) (w:=w) (t:=t) h;exact close (by simp) (by simp) hq hr
 ·simp only[aO,ro] at hx hy;subst hx hy;split at h
  ·rename_i hbt;have hbt:=asI hbt;cases op<;>simp only[aLx] at h<;>try(simp[Acc.run] at h;done)
   all_goals
    change some (_,_,_)=_ at h;simp only[jF,nT] at h;obtain⟨rfl,rfl,_⟩:=h;refine close (by simp) (by simp) rfl ?_;simp only[binOp,Op.equal,Sem.run_bind,ak1 hbt,Result.andThen_ok,Sem.run_pure,gvD]
  ·exact aF h
 ·exact aF h
def aCl(hA:At base U M0 w0 w m G){op:BinOp}{t:TypeId}{ox oy:Operand}{x y:V}{gx gy:Value}(hx:aO G.μ m (Gh U w G) x gx)(hy:aO G.μ m (Gh U w G) y gy){v:V}{l l':Log}(h:(aLy P t op x y).run m l=some (v,m',l')):
  NQ base U M0 w0 w m G P (do eqGuard op t ox oy gx gy;binOp op t gx gy) v m':=aI3 hA hx hy h
def aLJ(hA:At base U M0 w0 w m G){op:UnOp}{x:V}{gx:Value}(hx:aO G.μ m (Gh U w G) x gx){v:V}{l l':Log}(h:(un op x).run m l=some (v,m',l')):
  NQ base U M0 w0 w m G P (Op.unary op gx) v m':=by
 unfold un at h;split at h
 ·change some (_,_,_)=_ at h;simp only[jF,nT] at h;obtain⟨rfl,rfl,_⟩:=h;simp only[aO,ro] at hx;subst hx;refine NQ.same hA (g:=.int _ _) (by simp only[Op.unary,Op.intArith,Sem.run_pure];rfl) (by simp[aO,ro])
 ·change some (_,_,_)=_ at h;simp only[jF,nT] at h;obtain⟨rfl,rfl,_⟩:=h;simp only[aO,ro] at hx;subst hx;refine NQ.same hA (g:=.bool _) (by simp only[Op.unary,Sem.run_pure];rfl) (by simp[aO,ro])
 ·exact aF h
def axw(hA:At base U M0 w0 w m G){c x y:V}{gc gx gy:Value}(hc:aO G.μ m (Gh U w G) c gc)(hx:aO G.μ m (Gh U w G) x gx)(hy:aO G.μ m (Gh U w G) y gy){v:V}{l l':Log}(h:(aw5 c x y).run m l=some (v,m',l')):
  NQ base U M0 w0 w m G P (do pure (if<-Go.asBool gc then gx else gy)) v m':=by
 unfold aw5 at h;split at h
 ·rename_i c;simp only[aO,ro] at hc;subst hc;split at h
  ·rename_i a b;change some (_,_,_)=_ at h;simp only[jF,nT] at h;obtain⟨rfl,rfl,_⟩:=h;simp only[aO,ro] at hx hy;subst hx hy;refine NQ.same hA (g:=.bool (bif c then a else b)) ?_ (by simp[aO,ro]);cases c<;>simp[Go.asBool]
  ·split at h
   ·change some (_,_,_)=_ at h;simp only[jF,nT] at h;obtain⟨rfl,rfl,_⟩:=h;exact NQ.same hA (g:=gx) (by simp[Go.asBool]) hx
   ·change some (_,_,_)=_ at h;simp only[jF,nT] at h;obtain⟨rfl,rfl,_⟩:=h;exact NQ.same hA (g:=gy) (by simp[Go.asBool]) hy
 ·exact aF h
def afA{h:View}:∀{rows:List Row} {cs:List Value} {bs:List UInt8},bytesOf rows=some bs->iI h 1 rows cs->cs.length=rows.length->
  ∃ns:List Int,cs=ns.map (Value.int .u8)/\bs=ns.map (λn=>UInt8.ofNat n.toNat)
 |[],cs,bs,hb,_,hl=>by simp only[bytesOf,jF] at hb;subst hb;have:cs=[]:=List.length_eq_zero_iff.1 hl;subst this;exact⟨[],rfl,rfl⟩
 |r::rs,cs,bs,hb,hs,hl=>by
  simp only[bytesOf] at hb;cases ha:asByte r with
  |none=>simp[ha] at hb
  |some b=>
   cases hb2:bytesOf rs with
   |none=>simp[ha,hb2] at hb
   |some bs2=>
    simp only[ha,hb2,jF] at hb;subst hb;simp only[iI] at hs;obtain⟨_,h1,h2⟩:=hs;cases cs with
    |nil=>simp at hl
    |cons c cs=>
     obtain⟨ns,e1,e2⟩:=afA hb2 (by simpa using h2) (by simpa using hl);unfold asByte at ha;split at ha
     ·rename_i n _;simp only[jF] at ha;subst ha;simp only[jg] at h1;obtain⟨v,cs',e,hv,_⟩:=h1;simp only[ro] at hv;simp only[List.cons.injEq] at e;obtain⟨rfl,rfl⟩:=e;exact⟨n::ns,by rw[hv,PO,e1],by rw[PO,e2]⟩
     ·cases ha
def foldl_push:∀(ns:List Int) (acc:List UInt8),ns.foldl (λr n=>r.push (UInt8.ofNat n.toNat)) (ByteArray.mk ⟨acc⟩)=⟨⟨acc++ns.map (λn=>UInt8.ofNat n.toNat)⟩⟩
 |[],acc=>by simp
 |n::ns,acc=>by
  rw[List.foldl_cons];have:(ByteArray.mk ⟨acc⟩).push (UInt8.ofNat n.toNat)=⟨⟨acc++[UInt8.ofNat n.toNat]⟩⟩:=by simp[ByteArray.push]
  rw[this,foldl_push ns];simp
def ape(hA:At base U M0 w0 w m G){src dst:TypeId}{x:V}{gx:Value}(hx:aO G.μ m (Gh U w G) x gx){v:V}{l l':Log}(h:(ahK P src dst x).run m l=some (v,m',l')):
  NQ base U M0 w0 w m G P (convert src dst gx) v m':=by
 unfold ahK at h;split at h
 next hs hd=>
  split at h
  ·change some (_,_,_)=_ at h;simp only[jF,nT] at h;obtain⟨rfl,rfl,_⟩:=h;simp only[aO,ro] at hx;subst hx;refine NQ.same hA (g:=.int _ _) ?_ (by simp only[aO,ro];rfl);simp[convert,run_underlying hs,run_underlying hd,Conv.intToInt]
  ·exact aF h
 next hs hd=>
  split at h
  ·change some (_,_,_)=_ at h;simp only[jF,nT] at h;obtain⟨rfl,rfl,_⟩:=h;have hx0:=hx;simp only[aO,ro] at hx;subst hx;refine NQ.same hA (g:=.string _) ?_ hx0;simp[convert,run_underlying hs,run_underlying hd]
  ·exact aF h
 next e hs hd=>
  replace h:=aj h;obtain⟨_,m1,l1,h1,h⟩:=h;obtain⟨he,rfl,rfl⟩:=pW h1;have he:P.underlying e=some (.int .u8):=by
   cases hu:P.underlying e with
   |none=>simp[hu] at he
   |some d=>rw[hu] at he;cases d<;>first|(simp at he;done)|(rename_i k;cases k<;>first|rfl|(simp at he;done))
  replace h:=aj h;obtain⟨⟨s,rows⟩,m1,l1,h1,h⟩:=h;obtain⟨rfl,hq⟩:=at7 hA.ok hx hA.out h1;simp only at h;obtain⟨hs1,h⟩:=bck h;have hs1:=yV hs1;subst hs1;obtain⟨bs,hb,h⟩:=bop h;obtain⟨rfl,rfl,_⟩:=Zw h;simp only[ro] at hq;obtain⟨a,cap,rfl,hcap,hne⟩:=hq;refine NQ.same hA (g:=.string ⟨⟨bs⟩⟩) ?_ (by simp only[aO,ro]);rw[run_convert_bytes_string w src dst e a rows.length cap hs he hd]
  by_cases hr:rows=[]
  ·subst hr;simp only[bytesOf,jF] at hb;subst hb;cases a with
   |none=>simp[Conv.bytesToString];rfl
   |some a=>have hl:=run_loadCells_list (P:=P) w a [] (by simp);have:=run_bytesToString (P:=P) w a 0 cap [] (by simpa using hl);exact this
  ·obtain⟨b,o,rfl,hrr⟩:=hne hr;obtain⟨cs,hl,hc,hss⟩:=YI rows o hrr;rw[Nat.mul_one] at hl;obtain⟨ns,rfl,rfl⟩:=afA hb hss hl;have hlc:=run_loadCells_list (P:=P) w ⟨b,o,none⟩ (ns.map (Value.int .u8)) (λj v hj=>by rw[UR];exact hc j v hj);rw[hl] at hlc;rw[run_bytesToString w _ rows.length cap ns hlc];have:=foldl_push ns [];rw[List.nil_append] at this;rw[<-this];rfl
 next=>exact aF h
def axx{μ:Nat->Value}{h:View}{vs:List V}{a:Array Value}{i:Nat}{v:V}(q:dn μ m h vs a.toList)(hi:vs[i]? =some v):∃x,a[i]? =some x/\aO μ m h v x:=by obtain⟨x,h1,h2⟩:=alM q hi;exact⟨x,by simpa using h1,h2⟩
end
def ab6(gs:List Value):Value:=match gs with
 |[g]=>g
 |gs=> .tuple gs.toArray
def aue:List Cell->List Cell->Prop
 |[],cs=>cs=[]
 |c::cs,ds=>∃d ds',ds=d::ds'/\sameKind c d/\aue cs ds'
def aik{a b c:Cell}(h:sameKind a b)(k:sameKind b c):sameKind a c:=by
 cases a<;>cases b<;>cases c<;>simp only[sameKind] at h k|-
 ·exact h.trans k
 ·exact⟨h.1,k.2.1,h.2.2.1.trans k.2.2.1,h.2.2.2.trans k.2.2.2⟩
def afB{m:Mem}:∀{rs:List Nat} {cs ds:List Cell},kinds m rs cs->aue cs ds->kinds m rs ds
 |[],cs,ds,h,k=>by simp only[kinds] at h;subst h;exact k
 |r::rs,cs,ds,h,k=>by obtain⟨c,c',cs',rfl,h1,h2,h3⟩:=h;obtain⟨d,ds',rfl,k1,k2⟩:=k;exact⟨c,d,ds',rfl,h1,aik h2 k1,afB h3 k2⟩
structure Given(X:Ctx)(base:Nat)(U:Nat->Prop)(w:World)(f:FuncId)(args:List V)(cells:List Cell)(gargs jD:List Value)(N1 N2:List Nat):Prop where
 nd:(N1++N2).Nodup
 lt:∀b,b∈N1++N2->b<w.heap.size/\base<=b/\U b
 up:∀b,w.heap.size<=b->U b
 bs:base<=w.heap.size
 args:VU X.UO f (impμ jD) (uF 0 cells) (dA w) (view w U (· ∈N1++N2)) 0 args gargs N1
 cells:cellsB (dA w) (view w U (· ∈N1++N2)) cells jD N2
 gl:ahS X (view w U (· ∈N1++N2))
structure Did(P:Program)(U:Nat->Prop)(w w':World)(N:List Nat)(ts:List TypeId)(cells outs:List Cell)(jD:List Value)(rows:List Row)(gs:List Value)(M1 M2:List Nat):Prop where
 keep:Keep N w w'
 nd:(M1++M2).Nodup
 mem:∀b,b∈M1++M2->(b∈N\/w.heap.size<=b)/\b<w'.heap.size
 kd:aue cells outs
 cells:cellsB (dA w') (view w' U (· ∈M1++M2)) outs jD M1
 res:Xd P (dA w') (view w' U (· ∈M1++M2)) ts rows gs M2
def Sound(X:Ctx)(K:lN):Prop:=∀(f:FuncId) (fn:Func) (args:List V) (cells:List Cell) (rows:List Row) (outs:List Cell),X.P.funcs[f]? =some fn->fn.body.isSome=true->K f args cells=some (rows,outs)->
 ∀(base:Nat) (U:Nat->Prop) (w:World) (gargs jD:List Value) (N1 N2:List Nat),Given X base U w f args cells gargs jD N1 N2->
  Calls X.P f gargs.toArray w λe w'=>∃gs M1 M2,e=.returned (ab6 gs)/\Did X.P U w w' (N1++N2) fn.resultTypes.toList cells outs jD rows gs M1 M2
section
variable {base:Nat} {U:Nat->Prop} {M0:List Nat} {w0 w w':World} {m m':Mem} {G G':GS} {X:Ctx}
def Gi.outs(hg:Gi base U w m G){out:List Nat}(h:∀r,r∈G.out↔r∈out):Gi base U w m {G with out:=out}:=
 ⟨λr c hc ho=>hg.cell r c hc (λhx=>ho ((h r).1 hx)),hg.dj,hg.djE,hg.nd,hg.ndE,hg.lt,hg.up,hg.bs,hg.none_,λr hr=>hg.out_ r ((h r).2 hr)⟩
def At.first(hA:At base U M0 w0 w m G):(view w0 U (· ∈M0)).le (Gh U w G):=by
 intro b o v hv;obtain⟨h1,h2,h3⟩:=VI hv;have hb:b<w0.heap.size:=by
  simp only[World.cell?] at h3;cases ho:w0.heap[b]? with
  |none=>simp[ho] at h3
  |some x=>exact(Array.getElem?_eq_some_iff.1 ho).1
 have hk:=hA.fr.keep.block b hb h2;refine ahb h1 (λhx=> ?_) ?_
 ·rcases hA.fr.fr b hx with h|h
  ·exact h2 h
  ·omega
 ·simp only[World.cell?] at h3|-;rw[hk];exact h3
structure ab7(X:Ctx)(K:lN)(U:Nat->Prop)(M0:List Nat)(w0:World):Prop where
 sound:Sound X K
 gl:ahS X (view w0 U (· ∈M0))
def axy{K:lN}(hKG:ab7 X K U M0 w0)(hA:At base U M0 w0 w m G){fn dst f:Nat}{args:List V}{gargs:List Value}(hs:dn G.μ m (Gh U w G) args gargs){v:V}{l l':Log}(h:(acZ X K fn dst f args).run m l=some (v,m',l')):
  (callFunc f gargs.toArray).run X.P w=.ok (.enter f gargs.toArray) w/\
  Calls X.P f gargs.toArray w λe w'=>∃g G',e=.returned g/\Nx base U M0 w0 w m G w' m' G'/\aO G'.μ m' (Gh U w' G') v g:=by
 have hK:=hKG.sound;simp only[acZ] at h;obtain⟨g,hf,h⟩:=bop h;obtain⟨hbody,h⟩:=bck h;simp only[xw,Bool.not_eq_true'] at hbody;have hnone:g.body≠none:=by intro hb;simp[hb] at hbody
 have hnm : g.name ≠ "runtime.NumGoroutine" := by
  intro he;simp[he] at hbody
 refine⟨by simp[callFunc,hf,hnm,hnone], ?_⟩;generalize himp:Vb X.UO f 0 [] args=imp at h;have hnd:imp.Nodup:=by rw[<-himp];exact abm _ _ _ _ _ (by simp)
 replace h:=aj h;obtain⟨args1,m1,l1,h1,h⟩:=h;obtain⟨G1,N1,t1,q1⟩:=afo hA.ok hs hA.out h1;have hout1:G1.out=[]:=t1.out.trans hA.out;have hE1:G1.E=N1:=by rw[t1.E,hA.E];rfl
 replace h:=aj h;obtain⟨cells,m2,l2,h2,h⟩:=h;obtain⟨G2,N2,t2,q2,kd2⟩:=aeh t1.ok hnd (λr hr=>⟨hr,by rw[hout1];simp⟩) (λr hr=>by rw[hout1] at hr;simp at hr) h2;have hout2:∀r,r∈G2.out↔r∈imp:=λr=>by rw[t2.out,hout1];simp
 have hE2:G2.E=N1++N2:=by rw[t2.E,hE1]
 have hkd:kinds m2 imp cells:=ac4 (λr hr=>t2.here r hr) kd2;have hq1:=XV (A:=X.UO) (f:=f) t2.le.mem t2.le.view (H':=dA w) (λ_ _=>rfl) q1;replace h:=aj h;obtain⟨⟨args2,Uo⟩,m3,l3,h3,h⟩:=h;have C:alF base U w m2 G2 imp cells:=⟨t2.ok,hout2,hkd⟩
 obtain⟨rfl,hq2⟩:=afp C hq1 h3;have hq2:=hq2 Uo (λ_ hr=>hr);simp only at h;replace h:=aj h;obtain⟨_,m4,l4,h4,h⟩:=h;obtain⟨auf,rfl,rfl⟩:=fJ h4;have auf:∀r,r∈Uo->r ∉ imp:=λr hr=>VT (List.all_eq_true.1 auf r hr)
 replace h:=aj h;obtain⟨⟨rows,outs⟩,m4,l4,h4,h⟩:=h;obtain⟨hKr,rfl,rfl⟩:=jc h4;simp only at h;obtain⟨hlen,h⟩:=bck h;have aI4:Given X base (ZJ U G2 Uo) w f args2 cells gargs (imp.map G2.μ) N1 N2:=by
  refine⟨by rw[<-hE2];exact t2.ok.ndE, ?_, ?_,t2.ok.bs,by rw[<-hE2];exact hq2, ?_,by rw[<-hE2];exact SA Ve (SA t2.le.view (SA t1.le.view (SA hA.first hKG.gl)))⟩
  ·intro b hb;rw[<-hE2] at hb;have:=t2.ok.lt b (.inl hb);exact⟨this.1,this.2.1,this.2.2,λr hr=>absurd hb (t2.ok.djE r b hr)⟩
  ·intro b hb;exact⟨t2.ok.up b hb,λr hr=>by have:=(t2.ok.lt b (.inr ⟨r,hr⟩)).1;omega⟩
  ·rw[<-hE2,t2.μ];exact Ur Ve q2
 refine Calls.mono (hK f g args2 cells rows outs hf hbody.1 hKr base _ w gargs _ N1 N2 aI4) ?_;rintro e w' ⟨gs,M1,M2,rfl,D⟩;have hkeep:Keep G2.E w w':=by rw[hE2];exact D.keep
 obtain⟨k3,v3⟩:=t2.ok.world hkeep (E':=M1++M2) D.nd (λb hb=>by rw[hE2];exact D.mem b hb);generalize aG8:(!(Uo.isEmpty) &&(aaT X.P (X.UO.att fn dst) 0 g.resultTypes.toList && imp.isEmpty))=need at h;obtain⟨hpure,h⟩:=bck h;replace h:=aj h;obtain⟨_,m4,l4,h4,h⟩:=h;have hL:∀r,r∈(bif need then[] else Uo)->r∈Uo:=by
  intro r hr;cases need with
  |true=>simp at hr
  |false=>exact hr
 obtain⟨F',k4,le4,f1,f2,f3⟩:=alG k3 (λr hr=>by show r ∉ G2.out;rw[hout2];exact auf r (hL r hr)) h4;replace h:=aj h;obtain⟨_,m5,l5,h5,h⟩:=h;have k4':=k4.outs (out:=imp) hout2;have aY2:kinds m4 imp (outs.drop 0):=by rw[List.drop_zero];exact ac4 (λr hr=>f3 r (λhx=>auf r (hL r hx) hr)) (afB hkd D.kd)
 have aG9:need=false->(view w' (ZJ U G2 Uo) (· ∈M1++M2)).le (Gh U w' ⟨G2.μ,F',M1++M2,imp⟩):=by
  intro hn b o x hx;obtain⟨p1,p2,p3⟩:=VI hx;refine ahb p1.1 ?_ p3;rintro(hb|⟨r,hb⟩)
  ·exact p2 hb
  ·have hb:b∈F' r:=hb;rcases f2 r with hr|hr
   ·rw[hr] at hb;simp at hb
   ·have:b∈G2.F r:=by rw[hr] at hb;exact hb
    have hrl:=p1.2 r this;have:=f1 r (by rw[hn];exact hrl);rw[this] at hb;simp at hb
 have hcells:cellsB (dA w') (Gh U w' ⟨G2.μ,F',M1++M2,imp⟩) (outs.drop 0) (imp.map G2.μ) M1:=by
  rw[List.drop_zero];cases need with
  |false=>exact Ur (aG9 rfl) D.cells
  |true=>
   simp only[xw,List.isEmpty_iff] at aG8;have aLK:=aG8.2.2;subst aLK;have hc0:cells=[]:=by simpa[kinds] using hkd
   subst hc0;have ho0:outs=[]:=D.kd;subst ho0;exact D.cells
 have hres:Xd X.P (dA w') (Gh U w' ⟨G2.μ,F',M1++M2,imp⟩) g.resultTypes.toList rows gs M2:=by
  cases need with
  |false=>exact VW (aG9 rfl) (λ_ _=>rfl) D.res
  |true=>exact ah6 hpure D.res
 obtain⟨G5,c5⟩:=ah8 k4' hnd rfl aY2 (N:=M1) (E:=M2) (List.Perm.refl _) hcells h5;replace h:=aj h;obtain⟨vs,m6,l6,h6,h⟩:=h;obtain⟨G6,c6,s6⟩:=alK (ri:=0) c5.ok (λr hr=>by rw[c5.out] at hr;simp at hr) (N:=M2) (E:=[]) (by rw[c5.E];simp) (by rw[List.drop_zero];exact VW c5.le.view (λ_ _=>rfl) hres) h6;have hm6:m'=m6/\aO G6.μ m6 (Gh U w' G6) v (ab6 gs):=by
  have aHa:=jG s6;split at h
  ·obtain⟨rfl,rfl,_⟩:=Zw h;obtain⟨g0,gs0,rfl,q1,q2⟩:=oJ s6;simp only[dn] at q2;subst q2;exact⟨rfl,q1⟩
  ·rename_i hne;obtain⟨rfl,rfl,_⟩:=Zw h;refine⟨rfl, ?_⟩;unfold ab6;split
   ·rename_i g0;cases vs with
    |nil=>simp at aHa
    |cons v0 vs=>
     cases vs with
     |nil=>exact absurd rfl (hne v0)
     |cons _ _=>simp at aHa
   ·simp only[aO];exact⟨_,rfl,by simpa using s6⟩
 obtain⟨rfl,VY⟩:=hm6;have aY3:∀b,excl G2.F G2.E b->excl G.F G.E b:=λb hb=>t1.le.ex b (t2.le.ex b hb)
 have hold:∀b,excl G2.F G2.E b->b∈M0\/w0.heap.size<=b:=λb hb=>hA.fr.fr b (aY3 b hb)
 refine⟨ab6 gs,G6,rfl,⟨c6.ok,c6.E,c6.out.trans c5.out, ?_, ?_, ?_, ?_⟩,VY⟩
 ·have a1:=wG t1.le.mem t2.le.mem;have a2:=wG a1 le4.mem;exact wG (wG a2 c5.le.mem) c6.le.mem
 ·exact(((t1.le.view.trans' t2.le.view).trans' v3).trans' le4.view).trans' (c5.le.view.trans' c6.le.view)
 ·exact hA.fr.keep.trans hkeep (λx hx=>hold x (.inl hx))
 ·intro b hb;have hb:=c5.le.ex b (c6.le.ex b hb);rcases hb with hb|⟨r,hb⟩
  ·rcases(D.mem b hb).1 with h'|h'
   ·exact hold b (.inl (by rw[hE2];exact h'))
   ·exact .inr (Nat.le_trans hA.fr.keep.size h')
  ·have hb:b∈F' r:=hb;rcases f2 r with hr|hr
   ·have:F' r=[]:=hr;rw[this] at hb;simp at hb
   ·exact hold b (.inr ⟨r,by have:F' r=G2.F r:=hr;rw[<-this];exact hb⟩)
end
def aCm{H:Heap}{h:View}{x:D}{v:Value}{N:List Nat}(hf:x.flat=true)(q:ow H h x v N):N=[]/\ro h x v:=by
 cases x with
 |sl o s rows=>simp[D.flat] at hf
 |_=>simp only[ow] at q;exact⟨q.2,by simp only[ro];exact q.1⟩
def ail{H:Heap}{h:View}:∀{r:Row} {cs:List Value} {N:List Nat},r.all D.flat=true->iW H h r cs N->N=[]/\jg h r cs
 |[],cs,N,_,q=>by simp only[iW] at q;exact⟨q,trivial⟩
 |x::r,cs,N,hf,q=>by simp only[iW] at q;obtain⟨v,cs',N1,N2,rfl,rfl,q1,q2⟩:=q;simp only[List.all_cons,xw] at hf;obtain⟨rfl,h1⟩:=aCm hf.1 q1;obtain⟨rfl,h2⟩:=ail hf.2 q2;exact⟨rfl,v,cs',rfl,h1,h2⟩
def afC{H:Heap}{h:View}{s:Nat}:∀{rs:List Row} {cs:List Value} {N:List Nat},ay rs=true->gJ H h s rs cs N->N=[]/\iI h s rs cs
 |[],cs,N,_,q=>by simp only[gJ] at q;exact⟨q,trivial⟩
 |r::rs,cs,N,hf,q=>by simp only[gJ] at q;obtain⟨hl,N1,N2,rfl,q1,q2⟩:=q;simp only[ay,List.all_cons,xw] at hf;obtain⟨rfl,h1⟩:=ail hf.1 q1;obtain⟨rfl,h2⟩:=afC (rs:=rs) hf.2 q2;exact⟨rfl,hl,h1,h2⟩
def axz{H:Heap}{h:View}{fl:Bool}{s:Nat}{rows:List Row}{v:Value}{N:List Nat}(ho:afh fl rows=true)(q:ow H h (.sl true s rows) v N):aa8 H h fl s rows v N:=by
 cases fl with
 |false=>exact at6 q
 |true=>
  simp only[ow] at q;rcases q with q|⟨b,cap,cs,t,N',h1,h2,h3,h4,h5,rfl⟩
  ·exact .inl q
  ·obtain⟨rfl,h6⟩:=afC (by simpa[afh] using ho) h5;exact .inr ⟨b,cap,cs,t,[],h1,h2,h3,h4,⟨h6,rfl⟩,rfl⟩
def apf{α:Type}:∀{l:List α} {i:Nat} {x:α},l[i]? =some x->l.set i x=l
 |[],i,x,h=>by simp at h
 |y::l,0,x,h=>by simp only[List.getElem?_cons_zero,jF] at h;rw[h];rfl
 |y::l,i+1,x,h=>by rw[List.set_cons_succ,apf (by simpa using h)]
def asJ{H:Heap}{h:View}{row:Row}{cs:List Value}{N:List Nat}{j:Nat}{x:D}(q:iW H h row cs N)(hx:row[j]? =some x):
  ∃g Na N1 Nb,cs[j]? =some g/\N=Na++N1++Nb/\ow H h x g N1/\
   ∀(H':Heap) (h':View) (x':D) (g':Value) (N':List Nat),h.le h'->(∀b,b∈Na++Nb->H' b=H b)->ow H' h' x' g' N'->iW H' h' (splice row j [x']) (cs.set j g') (Na++N'++Nb):=by
 obtain⟨_,e2⟩:=Uw (b:=x) hx;have hjl:=(PN.1 hx).1;rw[e2] at q;obtain⟨Na,Nr,rfl,qa,qr⟩:=BH.1 q;have l1:(row.take j).length=j:=by simp;omega
 rw[l1] at qr;obtain⟨g,cs',N1,Nb,ec,rfl,q1,qb⟩:=GU qr;refine⟨g,Na,N1,Nb, ?_,by simp,q1, ?_⟩
 ·have:(cs.drop j)[0]? =some g:=by rw[ec];rfl
  simpa using this
 ·intro H' h' x' g' N' hl hH q';have hs:splice row j [x']=row.take j++(x'::row.drop (j+1)):=by simp[splice]
  rw[hs,JR,BH];refine⟨Na,N'++Nb,rfl,Px ?_ (JX hl _ _ _ (λb hb=>hH b (by simp[hb])) qa), ?_⟩
  ·rw[l1,List.take_set_of_le (Nat.le_refl _)]
  ·rw[l1,List.drop_set,if_neg (Nat.lt_irrefl _),Nat.sub_self,ec];simp only[List.set_cons_zero,iW];exact⟨g',cs',N',Nb,rfl,rfl,q',JX hl _ _ _ (λb hb=>hH b (by simp[hb])) qb⟩
def apg{H:Heap}{h:View}{s:Nat}{rows:List Row}{cs:List Value}{N:List Nat}{i off:Nat}{row:Row}{x:D}(q:gJ H h s rows cs N)(hi:rows[i]? =some row)(ho:off<s)(hx:row[off]? =some x):
  ∃g Na N1 Nb,cs[i * s+off]? =some g/\N=Na++N1++Nb/\ow H h x g N1/\hole H h s rows row i off cs Na Nb:=by
 have hil:=(PN.1 hi).1;have e2:=(Uw (b:=row) hi).2;rw[e2] at q;obtain⟨Na,Nr,rfl,qa,qr⟩:=DN.1 q;have l1:(rows.take i).length=i:=by simp;omega
 rw[l1] at qr;simp only[gJ] at qr;obtain⟨hl,N1,Nb,rfl,q1,qb⟩:=qr;obtain⟨g,Nc,Nd,Ne,hg,rfl,q2,qh⟩:=asJ q1 hx;refine⟨g,Na++Nc,Nd,Ne++Nb,by simpa using hg,by simp,q2, ?_⟩;intro H' h' x' g' N' hle hH q';have hle:h.le h':=hle;rw[(Uw (b:=splice row off [x']) hi).1];have eN:Na++Nc++N'++(Ne++Nb)=Na++((Nc++N'++Ne)++Nb):=by simp
 rw[eN,DN];refine⟨Na,_,rfl,Uu ?_ (BD hle s _ _ _ (λb hb=>hH b (by simp[hb])) qa), ?_⟩
 ·rw[l1,List.take_set_of_le ak]
 ·rw[l1,List.drop_set,if_neg ak,show i * s+off - i * s=off from by omega];simp only[gJ];refine⟨?_,Nc++N'++Ne,Nb,rfl, ?_, ?_⟩
  ·rw[IJ (by simp;omega)];exact hl
  ·exact qh H' h' x' g' N' hle (λb hb=>hH b (by simp only[List.mem_append] at hb|-;rcases hb with h|h<;>simp[h])) q'
  ·rw[List.drop_set_of_lt ho];exact BD hle s _ _ _ (λb hb=>hH b (by simp[hb])) qb
section
variable {base:Nat} {U:Nat->Prop} {M0:List Nat} {w0 w w':World} {m m':Mem} {G G':GS} {P:Program}
def Gi.two(hg:Gi base U w m G)(ho:G.out=[]){r k:Nat}(hrk:r≠k)(c1 c2:Cell)(μ':Nat->Value)(N1 N2:List Nat)(hs:(N1++N2).Nodup)(hsub:∀b,b∈N1++N2->b∈G.F r\/b∈G.F k)
  (hle:Ep G.μ m μ' (put r c1 (put k c2 m))) (hμ:∀j,j≠k->μ' j=G.μ j)
  (hc:(Gh U w G).le (view w U (excl (RZ (RZ G.F k N2) r N1) G.E))->nY μ' (put r c1 (put k c2 m)) (dA w) (view w U (excl (RZ (RZ G.F k N2) r N1) G.E)) r c1 N1/\
   nY μ' (put r c1 (put k c2 m)) (dA w) (view w U (excl (RZ (RZ G.F k N2) r N1) G.E)) k c2 N2):
  Gi base U w (put r c1 (put k c2 m)) ⟨μ',RZ (RZ G.F k N2) r N1,G.E,[]⟩/\Zq m G (put r c1 (put k c2 m)) ⟨μ',RZ (RZ G.F k N2) r N1,G.E,[]⟩:=by
 have hF:∀j b,b∈RZ (RZ G.F k N2) r N1 j->(j=r/\b∈N1)\/(j=k/\b∈N2)\/(j≠r/\j≠k/\b∈G.F j):=by
  intro j b hb
  by_cases e:j=r
  ·subst e;rw[uJ] at hb;exact .inl ⟨rfl,hb⟩
  ·rw[iJ _ e] at hb
   by_cases e2:j=k
   ·subst e2;rw[uJ] at hb;exact .inr (.inl ⟨rfl,hb⟩)
   ·rw[iJ _ e2] at hb;exact .inr (.inr ⟨e,e2,hb⟩)
 have hin:∀b,b∈N1\/b∈N2->(∃j,(j=r\/j=k)/\b∈G.F j):=λb hb=>(hsub b (List.mem_append.2 hb)).elim (λh=>⟨r,.inl rfl,h⟩) (λh=>⟨k,.inr rfl,h⟩)
 have hex:∀b,excl (RZ (RZ G.F k N2) r N1) G.E b->excl G.F G.E b:=by
  rintro b (hb|⟨j,hb⟩)
  ·exact .inl hb
  ·rcases hF j b hb with⟨_,h⟩|⟨_,h⟩|⟨_,_,h⟩
   ·obtain⟨j',_,h'⟩:=hin b (.inl h);exact .inr ⟨j',h'⟩
   ·obtain⟨j',_,h'⟩:=hin b (.inr h);exact .inr ⟨j',h'⟩
   ·exact .inr ⟨j,h⟩
 have hv:(Gh U w G).le (view w U (excl (RZ (RZ G.F k N2) r N1) G.E)):=Vd (λ_ x=>x) hex;have hN:=List.nodup_append.1 hs;obtain⟨s1,s2⟩:=hc hv;refine⟨show MInv base U (put r c1 (put k c2 m)) w μ' (RZ (RZ G.F k N2) r N1) G.E [] from ?_,⟨hle,hex⟩⟩;refine⟨?_, ?_, ?_, ?_,hg.ndE,λb hb=>hg.lt b (hex b hb),hg.up,hg.bs, ?_,by simp⟩
 ·intro j c hj _;rw[get_put] at hj
  by_cases e:j=r
  ·subst e;rw[if_pos rfl] at hj;cases hj;rw[uJ];exact s1
  ·rw[if_neg e,get_put] at hj;rw[iJ _ e]
   by_cases e2:j=k
   ·subst e2;rw[if_pos rfl] at hj;cases hj;rw[uJ];exact s2
   ·rw[if_neg e2] at hj;rw[iJ _ e2];exact Lc hle hv (hμ j e2) (λb _=>rfl) (hg.cell j c hj (by rw[ho];simp))
 ·intro j j' hne b hb hb';rcases hF j b hb with⟨rfl,h⟩|⟨rfl,h⟩|⟨e1,e2,h⟩<;>rcases hF j' b hb' with⟨rfl,h'⟩|⟨rfl,h'⟩|⟨e1',e2',h'⟩
  ·exact hne rfl
  ·exact hN.2.2 b h b h' rfl
  ·obtain⟨x,hx,hb⟩:=hin b (.inl h);exact hg.dj x j' (by rintro rfl;rcases hx with rfl|rfl<;>contradiction) b hb h'
  ·exact hN.2.2 b h' b h rfl
  ·exact hne rfl
  ·obtain⟨x,hx,hb⟩:=hin b (.inr h);exact hg.dj x j' (by rintro rfl;rcases hx with rfl|rfl<;>contradiction) b hb h'
  ·obtain⟨x,hx,hb⟩:=hin b (.inl h');exact hg.dj x j (by rintro rfl;rcases hx with rfl|rfl<;>contradiction) b hb h
  ·obtain⟨x,hx,hb⟩:=hin b (.inr h');exact hg.dj x j (by rintro rfl;rcases hx with rfl|rfl<;>contradiction) b hb h
  ·exact hg.dj j j' hne b h h'
 ·intro j b hb hE;rcases hF j b hb with⟨_,h⟩|⟨_,h⟩|⟨_,_,h⟩
  ·obtain⟨x,_,hb⟩:=hin b (.inl h);exact hg.djE x b hb hE
  ·obtain⟨x,_,hb⟩:=hin b (.inr h);exact hg.djE x b hb hE
  ·exact hg.djE j b h hE
 ·intro j
  by_cases e:j=r
  ·subst e;rw[uJ];exact hN.1
  ·rw[iJ _ e]
   by_cases e2:j=k
   ·subst e2;rw[uJ];exact hN.2.1
   ·rw[iJ _ e2];exact hg.nd j
 ·intro j hj;rw[get_put] at hj
  by_cases e:j=r
  ·rw[if_pos e] at hj;cases hj
  ·rw[if_neg e,get_put] at hj;rw[iJ _ e]
   by_cases e2:j=k
   ·rw[if_pos e2] at hj;cases hj
   ·rw[if_neg e2] at hj;rw[iJ _ e2];exact hg.none_ j hj
def alV{μ μ':Nat->Value}{r k:Nat}{c1 c2:Cell}(hμ:∀j,j≠k->μ' j=μ j)(h1:∀c,get r m=some c->yF μ μ' r c c1)(h2:∀c,get k m=some c->yF μ μ' k c c2):Ep μ m μ' (put r c1 (put k c2 m)):=by
 intro j c hj;rw[get_put]
 by_cases e:j=r
 ·subst e;exact⟨c1,by rw[if_pos rfl],h1 c hj⟩
 ·rw[if_neg e,get_put]
  by_cases e2:j=k
  ·subst e2;exact⟨c2,by rw[if_pos rfl],h2 c hj⟩
  ·rw[if_neg e2];refine⟨c,hj, ?_⟩;cases c<;>simp[yF,hμ j e2]
def axA(hA:At base U M0 w0 w m G){t:TypeId}{a:V}{ga:Value}(ha:aO G.μ m (Gh U w G) a ga){v:V}{l l':Log}(h:(aw8 P t a).run m l=some (v,m',l')):
  NQ base U M0 w0 w m G P (Instr.loadAt t ga) v m':=by
 simp only[aw8] at h;replace h:=aj h;obtain⟨_,m1,l1,h1,h⟩:=h;obtain⟨hok,rfl,rfl⟩:=pW h1;simp only[xw,Bool.not_eq_true'] at hok;obtain⟨hok,hsz,hagg⟩:=hok;have hsz:=yV hsz;replace h:=aj h;obtain⟨e,m1,l1,h1,h⟩:=h;obtain⟨he,e1,e2⟩:=jc h1;subst e1 e2;cases a with
 |EL r ver i off=>
  simp only at h;replace h:=aj h;obtain⟨c,m2,l2,h2,h⟩:=h;rw[uG] at h2;cases h2;cases hc:get r m1 with
  |none=>rw[hc] at h;exact aF h
  |some c=>
   rw[hc] at h;cases c with
   |arr fz fl jM s rows=>
    cases fz with
    |true=>exact aF h
    |false=>cases fl with
     |true=>exact aF h
     |false=>
      simp only at h;replace h:=aj h;obtain⟨_,m2,l2,h2,h⟩:=h;obtain⟨hb,e1,e2⟩:=fJ h2;subst e1 e2;simp only[xw] at hb;have asE:=yV hb.1;have hoff:=Nat.le_of_ble_eq_true hb.2;subst asE;replace h:=aj h;obtain⟨row,m2,l2,h2,h⟩:=h;obtain⟨hrow,e1,e2⟩:=jc h2;subst e1 e2;replace h:=aj h;obtain⟨rs,m2,l2,h2,h⟩:=h;obtain⟨hrs,e1,e2⟩:=jc h2;subst e1 e2;replace h:=aj h;obtain⟨_,m2,l2,h2,h⟩:=h;obtain⟨hfl,e1,e2⟩:=fJ h2;subst e1 e2;replace h:=aj h;obtain⟨_,m2,l2,h2,h⟩:=h;obtain⟨hn,rfl⟩:=YB h2;replace h:=aj h;obtain⟨_,m3,l3,h3,h⟩:=h;rw[DK] at h3;cases h3;simp only[run_pure,jF,nT] at h;obtain⟨rfl,rfl,_⟩:=h;simp only[aO,hc] at ha;obtain⟨b,n,cap,hμ,rfl⟩:=ha.2.2 trivial;have hcell:=hA.ok.cell r _ hc (by rw[hA.out];simp);rcases hcell with⟨e0,_⟩|⟨b',cap',cs,T,N',k1,k2,k3,k4,k5,k6⟩
      ·rw[e0] at hrow;simp at hrow
      rw[hμ] at k1;simp only[Value.slice.injEq,jF,Addr.mk.injEq] at k1;obtain⟨⟨rfl,_⟩,rfl,rfl⟩:=k1;have hx:row[off]? =some (.sl true (oU P e) rs):=aua (ah2 (by simpa[aoY] using hrs)) (by simp);obtain⟨g,Na,Nc,Nb,hg,rfl,q1,qh⟩:=apg k5 hrow ak hx;have hrun:(Instr.loadAt t (.pointer (some ⟨b,i * s+off,none⟩))).run P w=.ok g w:=by
       refine Pq (cs:=[g]) hok (by rw[hsz];rfl) (λj v hj=> ?_) (by simp[valOf,hagg]);cases j with
       |succ j=>simp at hj
       |zero=>simp only[List.getElem?_cons_zero,jF] at hj;subst hj;have:=full_cell (w:=w) k3 (i * s+off);rw[hg] at this;exact this
      have hrk:r≠Je r:=λe=>by rw[<-e,hc] at hn;cases hn
      have hnd:=hA.ok.nd r;rw[k6] at hnd;have hmem:∀y,y∈(b::(Na++Nb))++Nc->y∈G.F r:=λy hy=>by rw[k6];simp only[VE,List.mem_cons,List.mem_append] at hy|-;rcases hy with h|(h|h)|h<;>simp[h]
      have hperm:(b::(Na++Nc++Nb)).Perm ((b::(Na++Nb))++Nc):=by refine List.Perm.cons b ?_;show(Na++Nc++Nb).Perm ((Na++Nb)++Nc);rw[JR,JR];exact List.Perm.append_left Na List.perm_append_comm
      have hμ':∀j,j≠Je r->upM G.μ (Je r) g j=G.μ j:=λj hj=>Ld g hj
      obtain⟨z1,z2⟩:=hA.ok.two hA.out hrk (.zy ver s rows i off) (.arr false true 0 (oU P e) rs) (upM G.μ (Je r) g) (b::(Na++Nb)) Nc (hperm.nodup_iff.1 hnd) (λy hy=> .inl (hmem y hy))
       (alV hμ' (λc h=>by rw[hc] at h;cases h;exact⟨rfl,Nat.le_refl _,λ_=>⟨hμ' r hrk,rfl⟩⟩) (λc h=>by rw[hn] at h;cases h)) hμ'
       (λhv=>⟨⟨b,cap,cs,T,g,row,Na,Nb,by rw[hμ' r hrk];exact hμ,k2,k3,k4,hg,hrow,ak,alC hv (λ_ _=>rfl) qh,by
        unfold alB;rw[jX (Ne.symm hrk),gV];exact BF _ _ _,rfl⟩,by
        simp only[nY,BF];exact VH hv (λ_ _=>rfl) (axz (fl:=true) (by simpa[afh] using hfl) q1)⟩)
      have hsl:ZG g:=by simp only[ow] at q1;rcases q1 with⟨_,rfl,_⟩|⟨_,_,_,_,_,rfl,_⟩<;>exact⟨_,_,_,rfl⟩
      refine⟨g,w,_,hrun,hA.still z1 z2 rfl, ?_⟩;simp only[aO,jX (Ne.symm hrk),gV,BF];exact⟨hsl,Nat.le_refl _,λ_=>trivial⟩
   |_=>exact aF h
 |_=>exact aF h
def alW(hA:At base U M0 w0 w m G){k:Nat}{u:Unit}{l l':Log}(h:(anx k).run m l=some (u,m',l')):∃G',Nx base U M0 w0 w m G w m' G':=by
 have stay:∀{l2:Log},(Pure.pure ():Acc Unit).run m l2=some (u,m',l')->∃G',Nx base U M0 w0 w m G w m' G':=by intro l2 h;simp only[run_pure,jF,nT] at h;obtain⟨_,rfl,_⟩:=h;exact⟨G,hA.nx⟩
 unfold anx at h;cases hk:aw7 k with
 |false=>rw[hk] at h;exact stay h
 |true=>
  rw[hk] at h;simp only at h;have hkb:=Nat.le_of_ble_eq_true hk;replace h:=aj h;obtain⟨c,m1,l1,h1,h⟩:=h;rw[uG] at h1;simp only[jF,nT] at h1;obtain⟨rfl,rfl,rfl⟩:=h1;cases hc:get (k - Qc) m with
  |none=>rw[hc] at h;exact stay h
  |some c=>
   rw[hc] at h;cases c with
   |zy ver s rows i off=>
    simp only at h;replace h:=aj h;obtain⟨c2,m1,l1,h1,h⟩:=h;rw[uG] at h1;simp only[jF,nT] at h1;obtain⟨rfl,rfl,rfl⟩:=h1;split at h
    ·rename_i e rs hck;replace h:=aj h;obtain⟨_,m1,l1,h1,h⟩:=h;obtain⟨hfl,e1,e2⟩:=fJ h1;subst e1 e2;replace h:=aj h;obtain⟨row,m1,l1,h1,h⟩:=h;obtain⟨hrow,e1,e2⟩:=jc h1;subst e1 e2;replace h:=aj h;obtain⟨_,m2,l2,h2,h⟩:=h;rw[DK] at h2;cases h2;simp only[DK,jF,nT] at h;obtain⟨_,rfl,_⟩:=h;have hkey:Je (k - Qc)=k:=by unfold Je;omega
     have hrk:k - Qc≠k:=by unfold Qc at *;omega
     obtain⟨b,cap,cs,T,g,row',Na,Nb,k1,k2,k3,k4,k5,k6,k7,k8,k9,k10⟩:=hA.ok.cell _ _ hc (by rw[hA.out];simp);rw[hrow] at k6;cases k6;unfold alB at k9;rw[hkey,hck] at k9;simp only at k9;have harr:=hA.ok.cell _ _ hck (by rw[hA.out];simp);simp only[nY] at harr;have how:=anH (by simpa[afh] using hfl) harr;rw[k9] at how;have hnd:=hA.ok.nd (k - Qc);rw[k10] at hnd;have hdj:∀y,y∈G.F k->y≠b/\y ∉ Na/\y ∉ Nb:=λy hy=>by
      have h1:=λhx=>hA.ok.dj _ _ hrk y hx hy
      rw[k10] at h1;simp only[List.mem_cons,List.mem_append] at h1;exact⟨λe=>h1 (.inl e),λe=>h1 (.inr (.inl e)),λe=>h1 (.inr (.inr e))⟩
     obtain⟨z1,z2⟩:=hA.ok.two hA.out hrk (.arr false false ver s (rows.set i (splice row off [.sl true e rs]))) .dead G.μ (b::(Na++G.F k++Nb)) [] (by
       have h2:=List.nodup_cons.1 hnd;have h3:=List.nodup_append.1 h2.2;rw[List.append_nil];refine List.nodup_cons.2 ⟨?_,List.nodup_append.2 ⟨List.nodup_append.2 ⟨h3.1,hA.ok.nd k,λx hx y hy e=>(hdj y hy).2.1 (e ▸ hx)⟩,h3.2.1,λx hx y hy e=> ?_⟩⟩
       ·simp only[List.mem_append,not_or] at h2|-;exact⟨⟨h2.1.1,λhx=>(hdj b hx).1 rfl⟩,h2.1.2⟩
       ·rcases List.mem_append.1 hx with hx|hx
        ·exact h3.2.2 x hx y hy e
        ·exact(hdj x hx).2.2 (e ▸ hy)) (λy hy=>by
       rw[k10];simp only[List.append_nil,List.mem_cons,List.mem_append] at hy|-;rcases hy with h|(h|h)|h
       ·exact .inl (.inl h)
       ·exact .inl (.inr (.inl h))
       ·exact .inr h
       ·exact .inl (.inr (.inr h)))
      (alV (λ_ _=>rfl) (λc h=>by rw[hc] at h;cases h;exact⟨rfl,Nat.le_refl _,λ_=>⟨rfl,rfl⟩⟩) (λc h=>by rw[hck] at h;cases h;trivial)) (λ_ _=>rfl)
      (λhv=>⟨by
       refine .inr ⟨b,cap,cs,T,Na++G.F k++Nb,by rw[k1];simp,by simpa using k2,k3,k4, ?_,rfl⟩;have:=k8 (dA w) _ (.sl true e rs) g (G.F k) hv (λ_ _=>rfl) (YA hv how)
       rwa [apf k5] at this,rfl⟩)
     exact⟨_,hA.still z1 z2 rfl⟩
    ·exact stay h
   |_=>exact stay h
def ain(hA:At base U M0 w0 w m G){a:V}{u:Unit}{l l':Log}(h:(ag6 a).run m l=some (u,m',l')):∃G',Nx base U M0 w0 w m G w m' G':=by
 cases a with
 |own r v=>exact alW hA h
 |EL r v i o=>exact alW hA h
 |_=>simp only[ag6,run_pure,jF,nT] at h;obtain⟨_,rfl,_⟩:=h;exact⟨G,hA.nx⟩
def aI5{H:Heap}{h h':View}(hl:h.le h'){s:Nat}{rows:List Row}{v:Value}{N:List Nat}(hs:abW h' H N)(q:agi H h s rows v N):ro h' (.sl false s rows) v:=by
 simp only[ro];rcases q with⟨rfl,rfl,_⟩|⟨b,o,cap,cs,t,rfl,h2,h3,h4,h5,rfl⟩
 ·exact⟨none,0,rfl,Nat.le_refl _,λe=>absurd rfl e⟩
 ·exact⟨_,cap,rfl,h2,λ_=>⟨b,o,rfl,Xa rows o _ (λj v hj=>hs b (by simp) cs t _ h3 (o+j) v (by rwa [List.getElem?_drop] at hj)) (qp hl _ _ _ h5)⟩⟩
def At.release(hA:At base U M0 w0 w m G){r ver s:Nat}{rows:List Row}(hc:get r m=some (.VG ver s rows)):∃G',Nx base U M0 w0 w m G w (put r .dead m) G'/\ro (Gh U w G') (.sl false s rows) (G.μ r):=by
 have hro:r ∉ G.out:=by rw[hA.out];simp
 have hle:Ep G.μ m G.μ (put r .dead m):=EM (λ_ _=>rfl) (λc h=>by rw[hc] at h;cases h;trivial);have hcell:agi (dA w) (Gh U w G) s rows (G.μ r) (G.F r):=hA.ok.cell r _ hc hro;obtain⟨z1,z2⟩:=hA.ok.set r .dead G.μ [] G.E G.out (by simpa using hA.ok.ndE) (by simp;exact λb hb=> .inr hb) hle (λ_ _=>rfl) (λ_ _=>Iff.rfl) (λ_=>rfl) (λ_ _=>rfl);have hnx:=hA.still z1 z2 hA.out;refine⟨_,hnx,aI5 hnx.view (Le λb hb=>⟨(hA.ok.lt b (.inr ⟨r,hb⟩)).2.2, ?_⟩) hcell⟩;rintro(hE|⟨k,hk⟩)
 ·simp at hE
 ·have hk:b∈RZ G.F r [] k:=hk
  by_cases e:k=r
  ·subst e;simp at hk
  ·rw[iJ _ e] at hk;exact hA.ok.dj r k (Ne.symm e) b hb hk
def axB{k:Nat}{u:Unit}{l l':Log}(h:(free k).run m l=some (u,m',l')):get k m=none/\m'=m:=by
 simp only[free] at h;replace h:=aj h;obtain⟨c',m4,l4,h4,h⟩:=h;rw[uG] at h4;cases h4;cases hd:get k m with
 |some c=>rw[hd] at h;exact aF h
 |none=>rw[hd] at h;simp only[run_pure,jF,nT] at h;exact⟨rfl,h.2.1.symm⟩
def anM{x y:V}(h:ag7 x y=true):x=y:=by
 unfold ag7 at h;split at h
 ·simp only[xw] at h;have h1:=yV h.1;have h2:=yV h.2;subst h1 h2;rfl
 ·cases h
def avK(hA:At base U M0 w0 w m G){dst:Nat}{t ty ry:TypeId}{x y:V}{gx gy:Value}(hx:aO G.μ m (Gh U w G) x gx)(hy:aO G.μ m (Gh U w G) y gy)(hxy:ag7 x y=true){v:V}{l l':Log}(h:(asl P dst t ty x).run m l=some (v,m',l')):
  NQ base U M0 w0 w m G P (Builtin.append_ #[t,ty] ry #[gx,gy]) v m':=by
 cases anM hxy;simp only[asl] at h;replace h:=aj h;obtain⟨e,m1,l1,h1,h⟩:=h;obtain⟨he,e1,e2⟩:=jc h1;subst e1 e2;replace h:=aj h;obtain⟨_,m1,l1,h1,h⟩:=h;obtain⟨hs1,e1,e2⟩:=fJ h1;subst e1 e2;replace h:=aj h;obtain⟨_,m1,l1,h1,h⟩:=h;obtain⟨hty,e1,e2⟩:=fJ h1;subst e1 e2;replace h:=aj h;obtain⟨z,m1,l1,h1,h⟩:=h;obtain⟨hz,e1,e2⟩:=jc h1;subst e1 e2;replace h:=aj h;obtain⟨_,m1,l1,h1,h⟩:=h;obtain⟨hzs,e1,e2⟩:=fJ h1;subst e1 e2;have hu:=VX he;have hty':(∃e',P.underlying ty=some (.slice e'))\/P.underlying ty=some .string:=by
  unfold sliceT at hty;cases hq:P.underlying ty with
  |none=>simp[hq] at hty
  |some d=>rw[hq] at hty;cases d<;>simp at hty;exact .inl ⟨_,rfl⟩
 obtain⟨inf,zv,hi,hzv,axr⟩:=SB (m:=m1) (μ:=G.μ) (h:=Gh U w G) hz;have hzs:zv.cells.size=oU P e:=by rw[<-yV hzs,<-jG axr,Array.length_toList]
 have hsz:oU P e=inf.size:=JZ hi;have hby:VP P e=inf.bytes:=by simp[VP,hi]
 cases x with
 |own r ver=>
  simp only at h;replace h:=aj h;obtain⟨c,m3,l3,h3,h⟩:=h;rw[uG] at h3;cases h3;cases hc:get r m1 with
  |none=>rw[hc] at h;exact aF h
  |some c=>
   rw[hc] at h;cases c with
   |arr fz fl jM s rows=>
    cases fz with
    |true=>exact aF h
    |false=>cases fl with
     |true=>exact aF h
     |false=>
      simp only at h;replace h:=aj h;obtain⟨_,m2,l2,h2,h⟩:=h;obtain⟨hb,e1,e2⟩:=fJ h2;subst e1 e2;simp only[xw] at hb;have hb1:=yV hb.1;have hb2:=yV hb.2;subst hb1;replace h:=aj h;obtain⟨_,m2,l2,h2,h⟩:=h;obtain⟨hroom,e1,e2⟩:=fJ h2;subst e1 e2;simp only[xw] at hroom;have hr1:=Ux hroom.1;rw[hby] at hr1;have hr2:=Ux hroom.2;replace h:=aj h;obtain⟨_,m2,l2,h2,h⟩:=h;obtain⟨hdn,e1⟩:=axB h2;subst e1;replace h:=aj h;obtain⟨_,m3,l3,h3,h⟩:=h;rw[DK] at h3;cases h3;replace h:=aj h;obtain⟨_,m3,l3,h3,h⟩:=h;rw[DK] at h3;cases h3;simp only[run_pure,jF,nT] at h;obtain⟨rfl,rfl,_⟩:=h;simp only[aO,hc] at hx hy;have hx:=hx.2.2 trivial;have hy:=hy.2.2 trivial;subst hx;cases hy;have hro:r ∉ G.out:=by rw[hA.out];simp
      obtain⟨k1,k2,k3⟩:=hA.ok.kill hc hro;have hrd:dst≠r:=λe=>by rw[e,hc] at hdn;cases hdn
      have aY4:get dst (put r .dead m2)=none:=by rw[jX hrd];exact hdn
      have ac8:Fr M0 w0 w ⟨G.μ,RZ G.F r [],G.E++G.F r,G.out⟩:=hA.fr.less k2.ex;have hlen:(aG rows).length=rows.length:=Ti rows;obtain⟨N0,hq0,aLL⟩:∃N0,(∀b,b∈N0->b∈G.F r)/\N0.Nodup/\∀h':View,(Gh U w ⟨G.μ,RZ G.F r [],G.E++G.F r,G.out⟩).le h'->(∀j,j∈G.E++G.F r->j ∉ N0->abW h' (dA w) [j])->agi (dA w) h' s (aG rows) (G.μ r) N0:=by
       rcases k3 with⟨rfl,hμ,hF⟩|⟨b,cap,cs,T,N',h1,h2,h3,h4,h5,hF⟩
       ·exact⟨[],by simp,by simp,λh' _ _=> .inl ⟨rfl,hμ,rfl⟩⟩
       ·have hnd:=hA.ok.nd r;rw[hF] at hnd;refine⟨[b],by simp[hF],by simp,λh' hv hs=> .inr ⟨b,0,cap,cs,T,by rw[hlen];exact h1,by rw[hlen];exact h2,h3,by rw[h4];omega, ?_,rfl⟩⟩;rw[List.drop_zero];refine ZQ (JY (k2.view.trans' hv) s rows cs.toList N' (λy hy=> ?_) h5);refine hs y (by rw[hF];simp[hy]) (λhb=> ?_) y (by simp);simp only[List.mem_singleton] at hb;exact(List.nodup_cons.1 hnd).1 (hb ▸ hy)
      obtain⟨aIZ,hq⟩:=aLL;have hnx1:=k1.fresh hA.out ac8 (c':=.VG 0 s (aG rows)) (gv:=G.μ r) (N:=N0) aY4 (Keep.refl [] w) aIZ (λb hb=>⟨.inl (by simp[hq0 b hb]),(hA.ok.lt b (.inr ⟨r,hq0 b hb⟩)).1⟩)
       (λh' hv _ hs=>by simp only[nY,BF];exact hq h' hv hs)
      have hA1:=hnx1.at_;have hcell:agi (dA w) (Gh U w ⟨upM G.μ dst (G.μ r),RZ (RZ G.F r []) dst N0,[],[]⟩) s (aG rows) (upM G.μ dst (G.μ r) dst) (RZ (RZ G.F r []) dst N0 dst):=
       hA1.ok.cell dst _ (gV _ _ _) (by simp)
      obtain⟨news,hsrc,hsn⟩:∃news,Src P inf.size w (upM G.μ dst (G.μ r) dst) (aG rows).length news/\iI (Gh U w ⟨upM G.μ dst (G.μ r),RZ (RZ G.F r []) dst N0,[],[]⟩) s (aG rows) news:=by
       rcases hcell with⟨e0,hμ,_⟩|⟨b,o,cap,cs,T,h1,h2,h3,h4,h5,_⟩
       ·rw[e0,hμ];exact⟨[],Src.slice (by simp) (by simp) (by simp),trivial⟩
       ·have hle:(aG rows).length * s<=(cs.toList.drop o).length:=by
         have hl:(cs.toList.drop o).length=cs.size - o:=by simp
         rw[hl];have:=Nat.mul_le_mul_right s h2;omega
        rw[h1];refine⟨(cs.toList.drop o).take ((aG rows).length * s),Src.slice (by rw[VF,Nat.min_eq_left hle,<-hsz,<-hb2]) (λu hu=>Vf h5 u hu) (λ_=>⟨b,o,rfl,λj v hj=> ?_⟩),rQ (by rw[List.take_take,Nat.min_self]) h5⟩;rw[List.getElem?_take] at hj;split at hj
        ·rw[List.getElem?_drop] at hj;have:=full_cell (w:=w) h3 (o+j);rw[hj] at this;exact this
        ·cases hj
      obtain⟨g,w',G2,hrun,hnx2,hs2⟩:=aud (ry:=ry) hA1.ok (Zq.refl _ _) hA1.out hA1.fr (gV dst _ _) hu hty' hi hzv (hb2.trans hsz) (by rw[hb2];exact hzs) hsrc ⟨hsn,rfl⟩ (by rw[hlen];exact hr1) (by rw[hlen];exact hr2) hcell;obtain⟨G3,hnx3,aY5⟩:=hnx2.at_.release (gV dst _ _);simp only[aO,gV] at hs2;have hg:=hs2.2.2 trivial;simp only[BF] at hrun;refine⟨g,w',G3,hrun, ?_, ?_⟩
      ·have:=(Nx.after k2 hnx1).trans (hnx2.trans hnx3)
       rwa [ahc,ahc] at this
      ·simp only[aO];rw[hg];exact aY5
   |_=>exact aF h
 |_=>exact aF h
end
section
variable {base:Nat} {U:Nat->Prop} {M0:List Nat} {w0 w w':World} {m m':Mem} {G G':GS} {X:Ctx}
def aLM(P:Program)(w:World)(s:Sem Value):((do pure (.value (<-s))):Sem Next).run P w=(s.run P w).andThen λg w'=> .ok (.value g) w':=by simp only[Sem.run_bind,Sem.run_pure]
def NT{o:Oper}{a:Act}{next:Act->World->Prop}{Q:Exit->Act->World->Prop}{s:Sem Value}{v:V}
  (he:(execOp a.eval o).run X.P w=((do pure (.value (<-s))):Sem Next).run X.P w) (h:NQ base U M0 w0 w m G X.P s v m')
  (hn:∀g w' G',Nx base U M0 w0 w m G w' m' G'->aO G'.μ m' (Gh U w' G') v g->next (a.put o.dst g) w'):o.wp X.P a w next Q:=by
 obtain⟨g,w',G',hr,hx,hs⟩:=h;exact Us (by rw[he,aLM,hr];rfl) (hn g w' G' hx hs)
def asK{P:Program}{tm:mD}{xs:List Operand}{ts:List TypeId}{a:V}(h:wF P tm xs ts=[a]):∃x,xs=[x]/\a=ev P tm (ts.headD 0) x:=by
 cases xs with
 |nil=>simp[wF] at h
 |cons x xs=>
  cases xs with
  |nil=>simp only[wF,List.cons.injEq,and_true] at h;exact⟨x,rfl,h.symm⟩
  |cons _ _=>simp[wF] at h
def ab8{P:Program}{tm:mD}{xs:List Operand}{ts:List TypeId}{a b:V}(h:wF P tm xs ts=[a,b]):∃x y,xs=[x,y]/\a=ev P tm (ts.headD 0) x/\b=ev P tm (ts.tail.headD 0) y:=by
 cases xs with
 |nil=>simp[wF] at h
 |cons x xs=>
  cases xs with
  |nil=>simp[wF] at h
  |cons y xs=>
   cases xs with
   |nil=>simp only[wF,List.cons.injEq,and_true] at h;exact⟨x,y,rfl,h.1.symm,h.2.symm⟩
   |cons _ _=>simp[wF] at h
def XW{α:Type}{a:Array α}{l:List α}(h:a.toList=l):a=l.toArray:=by rw[<-h]
def aI6(hg:ahS X (Gh U w G)){tm:mD}{a:Act}(hT:ac7 G.μ m (Gh U w G) tm a)(t:TypeId)(x:Operand):aO G.μ m (Gh U w G) (evG X tm t x) (a.eval x):=by
 cases x with
 |global g=>
  simp only[evG];cases hr:X.glob g with
  |none=>simp[aO]
  |some row=>simp only[aO];exact⟨g,0,rfl,hg.row g row hr⟩
 |tmp i=>exact ZO (P:=X.P) hT t (.tmp i)
 |const v=>exact ZO (P:=X.P) hT t (.const v)
 |func f=>exact ZO (P:=X.P) hT t (.func f)
def aph{base:Nat}{U:Nat->Prop}{M0:List Nat}{w0 w:World}{G:GS}{m:Mem}(hA:At base U M0 w0 w m G):∀{vs:List V} {gs:List Value} (_:dn G.μ m (Gh U w G) vs gs) {vs':List V} {m':Mem} {l l':Log}
  (_:(ao3 vs).run m l=some (vs',m',l')),m'=m/\dn G.μ m (Gh U w G) vs' gs
 |[],gs,hv,vs',m',l,l',h=>by simp only[ao3,run_pure,jF,nT] at h;obtain⟨rfl,rfl,rfl⟩:=h;exact⟨rfl,hv⟩
 |v::vs,gs,hv,vs',m',l,l',h=>by
  obtain⟨g,gs',rfl,hv1,hv2⟩:=oJ hv;simp only[ao3] at h;replace h:=aj h;obtain⟨x,m1,l1,h1,h⟩:=h;replace h:=aj h;obtain⟨ys,m2,l2,h2,h⟩:=h;obtain⟨rfl,rfl,rfl⟩:=Zw h;have step:m1=m/\aO G.μ m (Gh U w G) x g:=by
   cases v with
   |ptr r off=>
    simp only at h1;replace h1:=aj h1;obtain⟨c,m3,l3,h3,h1⟩:=h1;rw[uG] at h3;cases h3;cases hc:get r m with
    |none=>rw[hc] at h1;obtain⟨rfl,rfl,rfl⟩:=Zw h1;exact⟨rfl,hv1⟩
    |some c=>
     rw[hc] at h1;cases c with
     |AQ T x=>simp only at h1;obtain⟨h0,h1⟩:=bck h1;have h0:=yV h0;subst h0;obtain⟨rfl,rfl,rfl⟩:=Zw h1;refine⟨rfl, ?_⟩;simp only[aO,hc] at hv1|-;obtain⟨_,b,hμ,rfl⟩:=hv1;obtain⟨_,b',y,e1,e2,e3⟩:=hA.ok.cell r _ hc (by rw[hA.out];simp);rw[hμ] at e1;cases e1;exact⟨b,y,rfl,e2,e3⟩
     |_=>obtain⟨rfl,rfl,rfl⟩:=Zw h1;exact⟨rfl,hv1⟩
   |_=>obtain⟨rfl,rfl,rfl⟩:=Zw h1;exact⟨rfl,hv1⟩
  obtain⟨rfl,hx⟩:=step;obtain⟨hm2,hys⟩:=aph hA hv2 h2;refine⟨hm2, ?_⟩;simp only[dn];exact⟨g,gs',rfl,hx,hys⟩
def aI7{K:lN}(hK:ab7 X K U M0 w0)(hA:At base U M0 w0 w m G){fn:Nat}{tm:mD}{a:Act}(hT:ac7 G.μ m (Gh U w G) tm a){o:Oper}{v:V}{l l':Log}(h:(vop X K fn tm o).run m l=some (v,m',l'))
  {next:Act->World->Prop} {Q:Exit->Act->World->Prop} (hn:∀g w' G',Nx base U M0 w0 w m G w' m' G'->aO G'.μ m' (Gh U w' G') v g->next (a.put o.dst g) w'):o.wp X.P a w next Q:=by
 have E:=λt x=>ZO (P:=X.P) hT t x
 have EG:=λt x=>aI6 (SA hA.first hK.gl) hT t x
 unfold vop at h;simp only at h;split at h
 ·rename_i x hop;obtain⟨rfl,rfl,_⟩:=Zw h;exact Us (by simp[execOp,hop]) (hn _ _ _ hA.nx (E _ x))
 ·rename_i x hop;obtain⟨rfl,rfl,_⟩:=Zw h;exact Us (by simp[execOp,hop]) (hn _ _ _ hA.nx (E _ x))
 ·rename_i c x y hop;refine NT ?_ (axw hA (E _ c) (E _ x) (E _ y) h) hn;simp[execOp,hop]
 ·rename_i T hop;obtain⟨z,hz,h⟩:=bop h;replace h:=aj h;obtain⟨u,m2,l2,h2,h⟩:=h;obtain⟨rfl,rfl,_⟩:=Zw h;refine NT ?_ (axo hA hz h2) hn;simp[execOp,hop]
 ·rename_i T x hop;obtain⟨hsz,h⟩:=bck h;obtain⟨hone,h⟩:=bck h;replace h:=aj h;obtain⟨u,m2,l2,h2,h⟩:=h;obtain⟨rfl,rfl,_⟩:=Zw h;refine NT ?_ (aI0 hA (E T x) hone h2) hn;simp[execOp,hop]
 ·rename_i T ps hop;refine NT ?_ (avD hA hT h) hn;simp[execOp,hop]
 ·rename_i t n ps hop;refine NT ?_ (aif hA hT h) hn;simp[execOp,hop]
 ·rename_i t x hop;split at h
  ·refine NT ?_ (axA hA (EG 0 x) h) hn;simp[execOp,hop]
  ·obtain⟨g,hr,rfl,hs⟩:=axk hA (EG 0 x) h;refine NT ?_ (NQ.same hA hr hs) hn;simp[execOp,hop]
 ·rename_i t x y hop;replace h:=aj h;obtain⟨u,m1,l1,h1,h⟩:=h;replace h:=aj h;obtain⟨u2,m2,l2,h2,h⟩:=h;obtain⟨rfl,rfl,_⟩:=Zw h;obtain⟨w',G',hr,hx⟩:=avA hA (E 0 x) (E t y) h1;obtain⟨G2,hx2⟩:=ain hx.at_ h2;refine wp_skip (w':=w') ?_ (hn _ _ _ (hx.trans hx2) trivial);simp[execOp,hop,hr]
 ·rename_i x hop;have hE:=EG o.type x;have key:∀{b:Nat} {q:Nat},a.eval x=.pointer (some ⟨b,q,none⟩)->v=evG X tm o.type x->m'=m->o.wp X.P a w next Q:=by intro b q hx hv hm;subst hm;refine Us (g:=a.eval x) ?_ (hn _ _ _ hA.nx (by rw[hv];exact hE));simp[execOp,hop,hx]
  split at h
  ·rename_i r off hv;simp only[run_pure,jF,nT] at h;rw[hv] at hE key;obtain⟨b,q,hp⟩:=hE.1;exact key hp h.1.symm h.2.1.symm
  ·rename_i row off hv;simp only[run_pure,jF,nT] at h;rw[hv] at hE key;obtain⟨b,q,hp,_⟩:=hE;exact key hp h.1.symm h.2.1.symm
  ·rename_i r ver i off hv;simp only[run_pure,jF,nT] at h;rw[hv] at hE key;obtain⟨b,q,hp⟩:=hE.1;exact key hp h.1.symm h.2.1.symm
  ·exact aF h
 ·rename_i op t x y t' hop;refine NT ?_ (aCl (ox:=x) (oy:=y) hA (E t x) (E t' y) h) hn;simp[execOp,hop]
 ·rename_i op t x hop;refine NT ?_ (aLJ hA (E t x) h) hn;simp[execOp,hop]
 ·rename_i s d x hop;refine NT ?_ (ape hA (E s x) h) hn;simp[execOp,hop]
 ·rename_i f first caps hop
  replace h:=aj h;obtain⟨cs,m1,l1,h1,h⟩:=h;obtain⟨rfl,hcs⟩:=aph hA (aaW (P:=X.P) hT caps.toList []) h1;obtain⟨rfl,rfl,_⟩:=Zw h;refine Us (g:=.func (.func f) (first.map a.eval) (caps.map a.eval)) (by simp[execOp,hop,Instr.makeFunc]) (hn _ _ _ hA.nx ?_);simp only[aO];exact⟨_,_,rfl,by simpa using aaW (P:=X.P) hT first.toList [],by simpa using hcs⟩
 ·rename_i t x y hop;refine NT ?_ (akZ hA (E _ x) (E _ y) h) hn;simp[execOp,hop]
 ·rename_i t x lo hi hop;have gen:(anA X.P t (evG X tm t x) (lo.map (ev X.P tm 3)) (hi.map (ev X.P tm 3))).run m l=some (v,m',l')->o.wp X.P a w next Q:=by
   intro h;refine NT ?_ (avH (glo:=lo.map a.eval) (ghi:=hi.map a.eval) hA (EG _ x) ?_ ?_ h) hn
   ·simp[execOp,hop]
   ·cases lo with
    |none=>rfl
    |some x=>exact⟨_,rfl,E _ x⟩
   ·cases hi with
    |none=>rfl
    |some x=>exact⟨_,rfl,E _ x⟩
  cases ht:X.UO.trunc fn (o.dst.getD 0) with
  |false=>rw[ht] at h;exact gen h
  |true=>
   rw[ht] at h;cases lo with
   |some z=>
    cases hi with
    |some _=>exact gen h
    |none=>refine NT ?_ (axv hA (E _ x) (E _ z) h) hn;simp[execOp,hop]
   |none=>
    refine NT ?_ (avI (ghi:=hi.map a.eval) hA (E _ x) ?_ h) hn
    ·simp[execOp,hop]
    ·cases hi with
     |none=>rfl
     |some x=>exact⟨_,rfl,E _ x⟩
 ·rename_i T x f hop;refine NT ?_ (akW hA (E _ x) h) hn;simp[execOp,hop]
 ·rename_i T x f hop;refine NT ?_ (avE hA (E _ x) h) hn;simp[execOp,hop]
 ·rename_i t x i hop;refine NT ?_ (akY hA (EG _ x) (E _ i) h) hn;simp[execOp,hop]
 ·rename_i t x i hop;refine NT ?_ (avF hA (E _ x) (E _ i) h) hn;simp[execOp,hop]
 ·rename_i x i hop;split at h
  ·rename_i vs hv;obtain⟨hi,rfl,rfl⟩:=jc h;have hE:=E 0 x;rw[hv] at hE;simp only[aO] at hE;obtain⟨arr,ha,hs⟩:=hE;obtain⟨g,hg,hq⟩:=axx hs hi;refine Us (g:=g) ?_ (hn _ _ _ hA.nx hq);simp[execOp,hop,ha,Instr.extract,hg]
  ·exact aF h
 ·rename_i f args tys hop;split at h
  ·rename_i g first caps hv
   have hE:=E 0 f;rw[hv] at hE;simp only[aO] at hE;obtain⟨fa,ca,hf,hs1,hs2⟩:=hE;have hargs:=Qh (Qh hs1 (aaW (P:=X.P) hT args.toList tys.toList)) hs2;obtain⟨he,hc⟩:=axy hK hA hargs h;have harr:(fa.toList++args.toList.map a.eval++ca.toList).toArray=fa++args.map a.eval++ca:=by apply Array.ext';simp
   rw[harr] at he hc;unfold Oper.wp;have hrun:(execOp a.eval o).run X.P w=.ok (.enter g (fa++args.map a.eval++ca)) w:=by simp only[execOp,hop,resolve,hf,Deferred.ofValue,Sem.run_bind,Sem.run_pure,Result.andThen_ok,invoke,he]
   rw[hrun,Oper.upon_enter];refine Calls.mono hc ?_;rintro e w' ⟨g',G',rfl,hx,hq⟩;exact hn g' w' G' hx hq
  ·exact aF h
 ·rename_i args tys hop;split at h
  ·rename_i x hx;obtain⟨ox,hxs,rfl⟩:=asK hx;obtain⟨hk,h⟩:=bck h;have hx0:=E (tys.toList.headD 0) ox;unfold aLz at hk;split at hk
   ·rename_i t ht;have hxs:=XW hxs;have hts:=XW ht;replace h:=aj h;obtain⟨v1,m1,l1,h1,h⟩:=h;replace h:=aj h;obtain⟨u2,m2,l2,h2,h⟩:=h;obtain⟨rfl,rfl,_⟩:=Zw h;have hlen:=aCi (P:=X.P) (t:=t) (ty:=o.type) hA hx0 ?_ ?_ h1
    ·obtain⟨g,w',G',hr,hx,hs⟩:=hlen;obtain⟨G2,hx2⟩:=ain hx.at_ h2;refine NT (s:=Builtin.len_ #[t] o.type #[a.eval ox]) ?_ ⟨g,w',G2,hr,hx.trans hx2,hx2.aO hs⟩ hn;simp[execOp,hop,resolve,invoke,builtin,hxs,hts]
    ·intro s hs;rw[hs] at hk;simp only at hk;cases hu:X.P.underlying t with
     |none=>rw[hu] at hk;cases hk
     |some d=>rw[hu] at hk;cases d<;>simp at hk;rfl
    ·intro hs;split at hk
     ·rename_i s hv;exact absurd hv (hs s)
     ·cases hu:X.P.underlying t with
      |none=>rw[hu] at hk;cases hk
      |some d=>rw[hu] at hk;cases d<;>simp at hk;exact⟨_,rfl⟩
   ·cases hk
  ·exact aF h
 ·rename_i args tys hop;split at h
  ·rename_i x y t t' hxy ht;obtain⟨ox,oy,hxs,rfl,rfl⟩:=ab8 hxy;have hxs:=XW hxs;have hts:=XW ht;split at h
   ·rename_i hso;refine NT (s:=Builtin.append_ #[t,t'] o.type #[a.eval ox,a.eval oy]) ?_ (avK hA (E _ ox) (E _ oy) hso h) hn;simp[execOp,hop,resolve,invoke,builtin,hxs,hts]
   ·refine NT (s:=Builtin.append_ #[t,t'] o.type #[a.eval ox,a.eval oy]) ?_ (asF hA (E _ ox) (E _ oy) h) hn;simp[execOp,hop,resolve,invoke,builtin,hxs,hts]
  ·exact aF h
 ·rename_i args tys hop;split at h
  ·rename_i k x k' y hxy;obtain⟨ox,oy,hxs,h1,h2⟩:=ab8 hxy;have hxs:=XW hxs;have e1:=E (tys.toList.headD 0) ox;have e2:=E (tys.toList.tail.headD 0) oy;rw[<-h1] at e1;rw[<-h2] at e2;simp only[aO,ro] at e1 e2;obtain⟨rfl,rfl,_⟩:=Zw h;refine Us (g:=.int k (bif decide (x<y) then y else x)) ?_ (hn _ _ _ hA.nx (by simp[aO,ro]))
   by_cases hlt:x<y<;>simp[execOp,hop,resolve,invoke,builtin,hxs,e1,e2,Builtin.max_,Builtin.max2,hlt]
  ·exact aF h
 ·rename_i args tys hop;split at h
  ·rename_i k x k' y hxy;obtain⟨ox,oy,hxs,h1,h2⟩:=ab8 hxy;have hxs:=XW hxs;have e1:=E (tys.toList.headD 0) ox;have e2:=E (tys.toList.tail.headD 0) oy;rw[<-h1] at e1;rw[<-h2] at e2;simp only[aO,ro] at e1 e2;obtain⟨rfl,rfl,_⟩:=Zw h;refine Us (g:=.int k (bif decide (y<x) then y else x)) ?_ (hn _ _ _ hA.nx (by simp[aO,ro]))
   by_cases hlt:y<x<;>simp[execOp,hop,resolve,invoke,builtin,hxs,e1,e2,Builtin.min_,Builtin.min2,hlt]
  ·exact aF h
 ·exact aF h
end
def avL{α:Type}(A:Acc α):∀{m:Mem} {l:Log} {v:α} {m':Mem} {l':Log},A.run m l=some (v,m',l')->
  ∃R W,l'=⟨R++l.r,W++l.w⟩/\(∀k,k ∉ W->get k m'=get k m)/\
   ∀m2 l2,(∀k,k∈R->get k m2=get k m)->∃m2',A.run m2 l2=some (v,m2',⟨R++l2.r,W++l2.w⟩)/\(∀k,k∈W->get k m2'=get k m')/\(∀k,k ∉ W->get k m2'=get k m2):=by
 induction A with
 |ret a=>intro m l v m' l' h;simp only[Acc.run,jF,nT] at h;obtain⟨rfl,rfl,rfl⟩:=h;exact⟨[],[],rfl,λ_ _=>rfl,λm2 l2 _=>⟨m2,rfl,λ_ h=>by simp at h,λ_ _=>rfl⟩⟩
 |fail=>intro m l v m' l' h;simp[Acc.run] at h
 |get k c ih=>intro m l v m' l' h;simp only[Acc.run] at h;obtain⟨R,W,e,h1,h2⟩:=ih _ h;refine⟨R++[k],W,by rw[e];simp[Log.rd],h1,λm2 l2 hm=> ?_⟩;obtain⟨m2',q1,q2,q3⟩:=h2 m2 (l2.rd k) (λj hj=>hm j (by simp[hj]));refine⟨m2', ?_,q2,q3⟩;simp only[Acc.run];rw[hm k (by simp),q1];simp[Log.rd]
 |set k x c ih=>
  intro m l v m' l' h;simp only[Acc.run] at h;obtain⟨R,W,e,h1,h2⟩:=ih h;refine⟨R,W++[k],by rw[e];simp[Log.wr],λj hj=> ?_,λm2 l2 hm=> ?_⟩
  ·simp only[List.mem_append,List.mem_singleton,not_or] at hj;rw[h1 j hj.1,jX hj.2]
  ·obtain⟨m2',q1,q2,q3⟩:=h2 (put k x m2) (l2.wr k) (λj hj=>by
    rw[get_put,get_put];split
    ·rfl
    ·exact hm j hj)
   refine⟨m2', ?_,λj hj=> ?_,λj hj=> ?_⟩
   ·simp only[Acc.run];rw[q1];simp[Log.wr]
   ·by_cases hw:j∈W
    ·exact q2 j hw
    ·have hjk:j=k:=by simpa[hw] using hj
     subst hjk;rw[q3 j hw,h1 j hw,gV,gV]
   ·simp only[List.mem_append,List.mem_singleton,not_or] at hj;rw[q3 j hj.1,jX hj.2]
 |opt o c ih=>
  intro m l v m' l' h;cases o with
  |none=>simp[Acc.run] at h
  |some b=>simp only[Acc.run] at h;obtain⟨R,W,e,h1,h2⟩:=ih _ h;exact⟨R,W,e,h1,λm2 l2 hm=>by simpa only[Acc.run] using h2 m2 l2 hm⟩
 |guard b c ih=>
  intro m l v m' l' h;cases b with
  |false=>simp[Acc.run] at h
  |true=>simp only[Acc.run] at h;obtain⟨R,W,e,h1,h2⟩:=ih h;exact⟨R,W,e,h1,λm2 l2 hm=>by simpa only[Acc.run] using h2 m2 l2 hm⟩
def XY{P:Program}{tm V4:mD}{t:TypeId}{x:Operand}(h:∀i,x=.tmp i->get i tm=get i V4):ev P tm t x=ev P V4 t x:=by
 cases x with
 |tmp i=>simp only[ev,aa7,h i rfl]
 |_=>rfl
def avM{X:Ctx}{tm V4:mD}{t:TypeId}{x:Operand}(h:∀i,x=.tmp i->get i tm=get i V4):evG X tm t x=evG X V4 t x:=by
 cases x with
 |global g=>rfl
 |tmp i=>exact XY (P:=X.P) (t:=t) h
 |const v=>rfl
 |func f=>rfl
def Vg{P:Program}{tm V4:mD}:∀{xs:List Operand} {ts:List TypeId},(∀x∈xs,∀i,x=.tmp i->get i tm=get i V4)->wF P tm xs ts=wF P V4 xs ts
 |[],_,_=>rfl
 |x::xs,ts,h=>by simp only[wF];rw[XY (h x (by simp)),Vg λy hy=>h y (by simp[hy])]
def XZ{P:Program}{T:TypeId}{tm V4:mD}:∀{ps:List (Nat×Operand)} {cs:List V},(∀x∈ps,∀i,x.2=.tmp i->get i tm=get i V4)->xM P T tm ps cs=xM P T V4 ps cs
 |[],_,_=>rfl
 |(f,x)::ps,cs,h=>by
  simp only[xM];have e:∀t,ev P tm t x=ev P V4 t x:=λt=>XY (h (f,x) (by simp))
  have r:∀cs,xM P T tm ps cs=xM P T V4 ps cs:=λcs=>XZ λy hy=>h y (by simp[hy])
  simp only[e,r]
def Xe{P:Program}{e:TypeId}{tm V4:mD}:∀{ps:List (Nat×Operand)} {cs:List V},(∀x∈ps,∀i,x.2=.tmp i->get i tm=get i V4)->uz P e tm ps cs=uz P e V4 ps cs
 |[],_,_=>rfl
 |(f,x)::ps,cs,h=>by
  simp only[uz];have e1:ev P tm e x=ev P V4 e x:=XY (h (f,x) (by simp));have r:∀cs,uz P e tm ps cs=uz P e V4 ps cs:=λcs=>Xe λy hy=>h y (by simp[hy])
  simp only[e1,r]
def X3{P:Program}{T:TypeId}{tm V4:mD}:∀{ps:List (Nat×Operand)} {k:Nat},(∀x∈ps,∀i,x.2=.tmp i->get i tm=get i V4)->xO P T tm k ps=xO P T V4 k ps
 |[],_,_=>rfl
 |(f,x)::ps,k,h=>by
  simp only[xO];have e:∀t,ev P tm t x=ev P V4 t x:=λt=>XY (h (f,x) (by simp))
  have r:∀k,xO P T tm k ps=xO P T V4 k ps:=λk=>X3 λy hy=>h y (by simp[hy])
  simp only[e,r]
def avN{X:Ctx}{K:lN}{fn:Nat}{tm V4:mD}{o:Oper}(h:∀x∈o.op.operands,∀i,x=.tmp i->get i tm=get i V4):vop X K fn tm o=vop X K fn V4 o:=by
 obtain⟨dst,op,type,pos,after,guard⟩:=o;have e:∀{x:Operand} (t:TypeId),x∈op.operands->ev X.P tm t x=ev X.P V4 t x:=λt hx=>XY (h _ hx)
 have eG:∀{x:Operand} (t:TypeId),x∈op.operands->evG X tm t x=evG X V4 t x:=λt hx=>avM (h _ hx)
 cases op<;>simp only[vop]
 case call c=>
  obtain⟨callee,args,tys⟩:=c;have ea:∀ts,wF X.P tm args.toList ts=wF X.P V4 args.toList ts:=λts=>Vg λx hx=>h x (by
   simp only[Op.operands,Call.operands];have hx':x∈args:=by simpa using hx
   cases callee<;>simp[hx'])
  cases callee with
  |value f=>simp only[ea,e (x:=f) 0 (by simp[Op.operands,Call.operands])]
  |invoke r m=>rfl
  |builtin b=>cases b<;>simp only[ea]
 case build t ps=>
  simp only[anC,asq,anB];have:∀cs,xM X.P t tm ps.toList cs=xM X.P t V4 ps.toList cs:=λcs=>XZ λx hx=>h x.2 (by simp only[Op.operands];simp;exact⟨x.1,by simpa using hx⟩)
  have aLN:∀e cs,uz X.P e tm ps.toList cs=uz X.P e V4 ps.toList cs:=λe cs=>Xe λx hx=>h x.2 (by simp only[Op.operands];simp;exact⟨x.1,by simpa using hx⟩)
  simp only[this,aLN]
 case buildSlice t n ps=>
  simp only[WZ];have:∀e,xO X.P e tm 0 ps.toList=xO X.P e V4 0 ps.toList:=λe=>X3 λx hx=>h x.2 (by simp only[Op.operands];simp;exact⟨x.1,by simpa using hx⟩)
  simp only[this]
 case makeFunc f first caps=>
  cases f<;>try rfl
  simp only;rw[Vg (tm:=tm) (V4:=V4) (xs:=first.toList) λx hx=>h x (by have hx':x∈_:=Array.mem_toList_iff.1 hx;simp[Op.operands,hx']),
   Vg (tm:=tm) (V4:=V4) (xs:=caps.toList) λx hx=>h x (by have hx':x∈_:=Array.mem_toList_iff.1 hx;simp[Op.operands,hx'])]
 case load t x=>rw[eG 0 (by simp[Op.operands])]
 case nilCheck x=>rw[eG type (by simp[Op.operands])]
 case indexAddr t x i=>rw[eG t (by simp[Op.operands]),e 3 (x:=i) (by simp[Op.operands])]
 case slice t x lo hi mx=>
  cases mx with
  |some _=>rfl
  |none=>
   simp only;rw[eG t (by simp[Op.operands]),e t (x:=x) (by simp[Op.operands])];generalize X.UO.trunc fn (dst.getD 0)=b;cases lo with
   |none=>cases hi with
    |none=>cases b<;>rfl
    |some y=>cases b<;>simp only[Oa,Option.map_none,e 3 (x:=y) (by simp[Op.operands])]
   |some z=>cases hi with
    |none=>cases b<;>simp only[Oa,Option.map_none,e 3 (x:=z) (by simp[Op.operands])]
    |some y=>cases b<;>simp only[Oa,Option.map_none,e 3 (x:=y) (by simp[Op.operands]),e 3 (x:=z) (by simp[Op.operands])]
 all_goals first
  |rfl
  |(simp only[e _ (by simp[Op.operands]:_∈Op.operands _)];done)
  |skip
 all_goals(simp only[Op.operands] at e;simp_all)
structure Rel(base:Nat)(U:Nat->Prop)(M0:List Nat)(w0:World)(ν:Nat->Value)(M:Mem)(nt:Nat)(w:World)(S:St)(G:GS)(a:Act):Prop where
 at_:At base U M0 w0 w S.mem G
 tm:ac7 G.μ S.mem (Gh U w G) S.tm a
 size:a.tmps.size=nt
 defers:a.defers=[]
 imp:Ep ν M G.μ S.mem
section
variable {base:Nat} {U:Nat->Prop} {M0:List Nat} {w0 w w':World} {ν:Nat->Value} {M:Mem} {nt:Nat} {S S':St} {G G':GS} {a:Act} {X:Ctx}
def ade(a:Act)(dst:Option Tmp)(g:Value):(a.put dst g).tmps.size=a.tmps.size:=by cases dst<;>simp[Act.put]
def put_defers(a:Act)(dst:Option Tmp)(g:Value):(a.put dst g).defers=a.defers:=by cases dst<;>rfl
def Rel.put(R:Rel base U M0 w0 ν M nt w S G a){m':Mem}{v:V}{g:Value}{dst:Option Nat}(hx:Nx base U M0 w0 w S.mem G w' m' G')(hs:aO G'.μ m' (Gh U w' G') v g)(hd:ZB nt dst=true):
  Rel base U M0 w0 ν M nt w' ⟨akT dst v S.tm,m'⟩ G' (a.put dst g):=by
 refine⟨hx.at_, ?_,by rw[ade,R.size],by rw[put_defers,R.defers],wG R.imp hx.mem⟩;intro t u hu;cases dst with
 |none=>simp only[akT] at hu;obtain⟨h1,h2⟩:=R.tm t u hu;exact⟨h1,hx.aO h2⟩
 |some d=>
  simp only[akT] at hu;have hdn:d<nt:=by simpa[ZB] using hd
  rw[ade];rw[get_put] at hu;split at hu
  ·rename_i htd;simp only[jF] at hu;subst hu htd;refine⟨by rw[R.size];exact hdn, ?_⟩;have:((a.put (some t) g).tmps).getD t undef=g:=by simp only[Act.put,Array.getD_eq_getD_getElem?];rw[Array.getElem?_setIfInBounds_self_of_lt (by rw[R.size];exact hdn)];rfl
   rw[this];exact hs
  ·rename_i htd;obtain⟨h1,h2⟩:=R.tm t u hu;refine⟨h1, ?_⟩;have:((a.put (some d) g).tmps).getD t undef=a.tmps.getD t undef:=by simp only[Act.put,Array.getD_eq_getD_getElem?];rw[Array.getElem?_setIfInBounds_ne (Ne.symm htd)]
   rw[this];exact hx.aO h2
def Rel.skip(R:Rel base U M0 w0 ν M nt w S G a)(dst:Option Nat):Rel base U M0 w0 ν M nt w ⟨aB6 dst S.tm,S.mem⟩ G (a.put dst Go.undef):=by
 refine⟨R.at_, ?_,by rw[ade,R.size],by rw[put_defers,R.defers],R.imp⟩;intro t u hu;cases dst with
 |none=>exact R.tm t u hu
 |some d=>
  simp only[aB6] at hu;rw[aCb] at hu;split at hu
  ·cases hu
  ·rename_i htd;obtain⟨h1,h2⟩:=R.tm t u hu;refine⟨by rw[ade];exact h1, ?_⟩;have:((a.put (some d) Go.undef).tmps).getD t Go.undef=a.tmps.getD t Go.undef:=by simp only[Act.put,Array.getD_eq_getD_getElem?];rw[Array.getElem?_setIfInBounds_ne (Ne.symm htd)]
   rw[this];exact h2
def Rel.skip'(R:Rel base U M0 w0 ν M nt w S G a)(dst:Option Nat):Rel base U M0 w0 ν M nt w ⟨afj nt dst S.tm,S.mem⟩ G (a.put dst Go.undef):=by
 unfold afj;cases hd:ZB nt dst with
 |false=>exact R.skip dst
 |true=>exact R.put R.at_.nx (by simp only[aO,dn];exact⟨#[],rfl,rfl⟩) hd
def Rel.tms(R:Rel base U M0 w0 ν M nt w S G a){tm:mD}(h:∀t,get t tm=get t S.tm):Rel base U M0 w0 ν M nt w ⟨tm,S.mem⟩ G a:=
 ⟨R.at_,λt u hu=>R.tm t u (by rw[<-h t];exact hu),R.size,R.defers,R.imp⟩
def apj{t d:Nat}{x:V}{tm:mD}(h:aa7 d tm=x)(hx:x≠.undef):get t (put d x tm)=get t tm:=by
 rw[get_put];split
 ·rename_i e;subst e;unfold aa7 at h;cases hg:get t tm with
  |none=>rw[hg] at h;exact absurd h.symm hx
  |some v=>rw[hg] at h;simp at h;rw[h]
 ·rfl
def Vh{ops:Array Oper}{o:Oper}{b:Bool}{tm tm':mD}(h:GR ops tm o=some (b,tm')):∀t,get t tm'=get t tm:=by
 intro t;unfold GR at h;split at h
 ·simp only[jF,nT] at h;rw[h.2]
 ·split at h
  ·split at h
   ·split at h
    ·rename_i c he;split at h
     all_goals
      simp only[jF,nT] at h;rw[<-h.2];exact apj he (by simp)
    ·rename_i vs he;split at h
     ·simp only[jF,nT] at h;rw[<-h.2];exact apj he (by simp)
     ·cases h
    ·cases h
   ·cases h
  ·cases h
def avO{ops:Array Oper}{o:Oper}{b:Bool}{tm':mD}(R:Rel base U M0 w0 ν M nt w S G a)(h:GR ops S.tm o=some (b,tm')):Region.wanted o (yielded ops a.tmps)=b:=by
 unfold GR at h;unfold Region.wanted;cases hg:o.guard with
 |none=>simp only[hg,jF,nT] at h;simpa using h.1
 |some jw=>
  obtain⟨j,want⟩:=jw;simp only[hg] at h|-;cases hj:ops[j]? with
  |none=>simp[hj] at h
  |some oj=>
   simp only[hj] at h;cases hd:oj.dst with
   |none=>simp[hd] at h
   |some d=>
    simp only[hd] at h;unfold aa7 at h;cases ht:get d S.tm with
    |none=>simp[ht] at h
    |some v=>
     simp only[ht] at h;obtain⟨h1,h2⟩:=R.tm d v ht;cases v with
     |d x=>
      cases x with
      |bool c=>
       simp only[aO,ro] at h2;have hy:yielded ops a.tmps j=some c:=by
        simp only[yielded,hj,Option.bind_some,hd];have:a.tmps[d]? =some (.bool c):=by rw[<-h2,Array.getD_eq_getD_getElem?,Array.getElem?_eq_getElem h1];rfl
        rw[this]
       rw[hy];cases c<;>simp only[jF,nT] at h<;>obtain⟨rfl,_⟩:=h<;>cases want<;>rfl
      |_=>simp at h
     |JV vs=>
      cases vs with
      |cons _ _=>simp at h
      |nil=>
       simp only[jF,nT] at h;simp only[aO,dn] at h2;obtain⟨arr,h3,h4⟩:=h2;have hy:yielded ops a.tmps j=none:=by
        simp only[yielded,hj,Option.bind_some,hd];have:a.tmps[d]? =some (.tuple arr):=by rw[<-h3,Array.getD_eq_getD_getElem?,Array.getElem?_eq_getElem h1];rfl
        rw[this]
       rw[hy,<-h.1];rfl
     |_=>simp at h
def apk{K:lN}(hK:ab7 X K U M0 w0){fn:Nat}(hnt:Zp X.P fn=nt)(R:Rel base U M0 w0 ν M nt w S G a){ops:Array Oper}{i:Nat}{lg:Log}(h:Eo X K fn ops i S=some (S',lg))
  {next:Act->World->Prop} {Q:Exit->Act->World->Prop} (hn:∀w' G' a',Rel base U M0 w0 ν M nt w' S' G' a'->(Gh U w G).le (Gh U w' G')->next a' w'):wpOp X.P ops Q i next a w:=by
 unfold Eo at h;unfold wpOp;cases ho:ops[i]? with
 |none=>simp[ho] at h
 |some o=>
  simp only[ho] at h|-;cases hw:GR ops S.tm o with
  |none=>simp[hw] at h
  |some bt=>
   obtain⟨b,tm⟩:=bt;rw[avO R hw];have R':=R.tms (Vh hw);cases b with
   |false=>simp only[hw,jF,nT] at h;obtain⟨rfl,rfl⟩:=h;simp only[Bool.false_eq_true,if_false];exact hn _ _ _ (hnt ▸ R'.skip' o.dst) (View.le_refl _)
   |true=>
    simp only[hw] at h;simp only[if_true];cases hv:(vop X K fn tm o).run S.mem .none with
    |none=>simp[hv] at h
    |some r=>
     obtain⟨v,m',l⟩:=r;simp only[hv] at h;cases hd:ZB (Zp X.P fn) o.dst with
     |false=>simp[hd] at h
     |true=>simp only[hd,aK,jF,nT] at h;obtain⟨rfl,rfl⟩:=h;rw[hnt] at hd;exact .inl (aI7 hK R'.at_ R'.tm hv λg w' G' hx hs=>hn w' G' _ (R'.put hx hs hd) hx.view)
def aio{K:lN}(hK:ab7 X K U M0 w0){fn:Nat}(hnt:Zp X.P fn=nt){ops:Array Oper}{Q:Exit->Act->World->Prop}{rest:List Nat}:∀{is:List Nat} {w:World} {S S':St} {G:GS} {a:Act} {L L':List (Nat×Log)}
  (_:Rel base U M0 w0 ν M nt w S G a) (_:Pn X K fn ops is S L=some (S',L')) (_:∀w' G' a',Rel base U M0 w0 ν M nt w' S' G' a'->(Gh U w G).le (Gh U w' G')->wpOps X.P ops Q rest a' w'),wpOps X.P ops Q (is++rest) a w
 |[],w,S,S',G,a,L,L',R,h,hn=>by simp only[Pn,jF,nT] at h;obtain⟨rfl,rfl⟩:=h;exact hn w G a R (View.le_refl _)
 |i::is,w,S,S',G,a,L,L',R,h,hn=>by
  rw[VE,wpOps_cons];simp only[Pn] at h;cases h1:Eo X K fn ops i S with
  |none=>simp[h1] at h
  |some r=>obtain⟨S1,l1⟩:=r;simp only[h1] at h;exact apk hK hnt R h1 λw1 G1 a1 R1 v1=>aio hK hnt R1 h λw' G' a' R' v'=>hn w' G' a' R' (v1.trans' v')
def avP{K:lN}(hK:ab7 X K U M0 w0){fn:Nat}(hnt:Zp X.P fn=nt){ops:Array Oper}{Q:Exit->Act->World->Prop}{is:List Nat}{w:World}{S S':St}{G:GS}{a:Act}{L L':List (Nat×Log)}
  (R:Rel base U M0 w0 ν M nt w S G a) (h:Pn X K fn ops is S L=some (S',L')) (hn:∀w' G' a',Rel base U M0 w0 ν M nt w' S' G' a'->(Gh U w G).le (Gh U w' G')->Q .normal a' w'):wpOps X.P ops Q is a w:=by
 have:=aio (rest:=[]) hK hnt R h hn
 rwa [List.append_nil] at this
end
def YM{k:Nat}{c:Cell}{m:Mem}(h:sortedK ((k,c)::m)=true):sortedK m=true:=by
 cases m with
 |nil=>rfl
 |cons x m=>obtain⟨j,d⟩:=x;simp only[sortedK,xw] at h;exact h.2
def aip:∀{m:Mem} {k:Nat} {c:Cell},sortedK ((k,c)::m)=true->∀j d,(j,d)∈m->k<j
 |[],_,_,_,_,_,h=>by simp at h
 |(i,e)::m,k,c,h,j,d,hm=>by
  have h':=h;simp only[sortedK,xw] at h;have hki:k<i:=Nat.le_of_ble_eq_true h.1;simp only[List.mem_cons,nT] at hm;rcases hm with⟨rfl,_⟩|hm
  ·exact hki
  ·exact Nat.lt_trans hki (aip (YM h') j d hm)
def get_mem{α:Type}{k:Nat}{x:α}:∀{l:List (Nat×α)},get k l=some x->(k,x)∈l
 |[],h=>by simp[get] at h
 |(j,y)::l,h=>by
  simp only[get] at h;cases hb:Nat.beq k j with
  |true=>rw[hb] at h;simp only[aK,jF] at h;have:=yV hb;simp[this,h]
  |false=>rw[hb] at h;exact zmm _ (get_mem h)
def get_none{α:Type}{k:Nat}:∀{l:List (Nat×α)},(∀x,(k,x) ∉ l)->get k l=none
 |[],_=>rfl
 |(j,y)::l,h=>by
  have hne:k≠j:=λe=>h y (by simp[e])
  simp only[get,uV hne,bg];exact get_none λx hx=>h x (zmm _ hx)
def live:Cell->Bool
 | .dead=>false
 | .zy ..=>false
 |_=>true
def ZU{all:Mem}{R:List Nat}{k:Nat}:∀{m:Mem},sortedK m=true->∀c',get k (pV all R m)=some c'↔∃c,get k m=some c/\live c=true/\k∈R/\c'=GN all c
 |[],_,c'=>by simp[pV,get]
 |(j,c)::m,hs,c'=>by
  have ih:=ZU (all:=all) (R:=R) (k:=k) (YM hs) c';have hlt:=aip hs
  by_cases hkj:k=j
  ·subst hkj;have hnone:get k m=none:=get_none λx hx=>Nat.lt_irrefl _ (hlt k x hx)
   have hnone':get k (pV all R m)=none:=by
    cases hg:get k (pV all R m) with
    |none=>rfl
    |some c2=>obtain⟨c3,h3,_⟩:=(ZU (all:=all) (R:=R) (k:=k) (YM hs) c2).1 hg;rw[hnone] at h3;cases h3
   have hget:get k ((k,c)::m)=some c:=by simp[get]
   rw[hget];cases c with
   |zy _ _ _ _ _=>simp[pV,hnone',live]
   |dead=>simp[pV,hnone',live]
   |box t cs=>
    cases hm:mem? k R with
    |true=>
     have:=(BG k R).1 hm;simp only[pV,hm,aK];rw[show∀(x:Cell) l,get k ((k,x)::l)=some x from λx l=>by simp[get]];constructor
     ·intro h;exact⟨_,rfl,rfl,this,(Option.some.inj h).symm⟩
     ·rintro⟨c,h1,_,_,rfl⟩;cases h1;rfl
    |false=>
     have hn:k ∉ R:=λh=>by rw[(BG k R).2 h] at hm;cases hm
     simp[pV,hm,hnone',hn]
   |arr fz fl ver s rows=>
    cases hm:mem? k R with
    |true=>
     have:=(BG k R).1 hm;simp only[pV,hm,aK];rw[show∀(x:Cell) l,get k ((k,x)::l)=some x from λx l=>by simp[get]];constructor
     ·intro h;exact⟨_,rfl,rfl,this,(Option.some.inj h).symm⟩
     ·rintro⟨c,h1,_,_,rfl⟩;cases h1;rfl
    |false=>
     have hn:k ∉ R:=λh=>by rw[(BG k R).2 h] at hm;cases hm
     simp[pV,hm,hnone',hn]
   |VG ver s rows=>
    cases hm:mem? k R with
    |true=>
     have:=(BG k R).1 hm;simp only[pV,hm,aK];rw[show∀(x:Cell) l,get k ((k,x)::l)=some x from λx l=>by simp[get]];constructor
     ·intro h;exact⟨_,rfl,rfl,this,(Option.some.inj h).symm⟩
     ·rintro⟨c,h1,_,_,rfl⟩;cases h1;rfl
    |false=>
     have hn:k ∉ R:=λh=>by rw[(BG k R).2 h] at hm;cases hm
     simp[pV,hm,hnone',hn]
   |AQ T v=>
    cases hm:mem? k R with
    |true=>
     have:=(BG k R).1 hm;simp only[pV,hm,aK];rw[show∀(x:Cell) l,get k ((k,x)::l)=some x from λx l=>by simp[get]];constructor
     ·intro h;exact⟨_,rfl,rfl,this,(Option.some.inj h).symm⟩
     ·rintro⟨c,h1,_,_,rfl⟩;cases h1;rfl
    |false=>
     have hn:k ∉ R:=λh=>by rw[(BG k R).2 h] at hm;cases hm
     simp[pV,hm,hnone',hn]
  ·have hget:get k ((j,c)::m)=get k m:=by simp[get,uV hkj]
   rw[hget,<-ih];cases c with
   |zy _ _ _ _ _=>simp[pV]
   |dead=>simp[pV]
   |box t cs=>cases hm:mem? j R<;>simp[pV,hm,get,uV hkj]
   |arr fz fl ver s rows=>cases hm:mem? j R<;>simp[pV,hm,get,uV hkj]
   |VG ver s rows=>cases hm:mem? j R<;>simp[pV,hm,get,uV hkj]
   |AQ T v=>cases hm:mem? j R<;>simp[pV,hm,get,uV hkj]
def V5:∀(as l:List Nat) (x:Nat),x∈l\/x∈as->x∈abT as l
 |[],l,x,h=>by simpa[abT] using h
 |a::as,l,x,h=>by
  simp only[abT];cases hm:mem? a l with
  |true=>
   have:=(BG a l).1 hm;refine V5 as l x ?_;rcases h with h|h
   ·exact .inl h
   ·simp only[List.mem_cons] at h;rcases h with rfl|h
    ·exact .inl this
    ·exact .inr h
  |false=>
   refine V5 as (a::l) x ?_;simp only[List.mem_cons] at h|-;rcases h with h|h|h
   ·exact .inl (.inr h)
   ·exact .inl (.inl h)
   ·exact .inr h
def alX(m:Mem):∀(n:Nat) (l:List Nat) (x:Nat),x∈l->x∈reach m n l
 |0,_,_,h=>h
 |n+1,l,x,h=>alX m n _ x (V5 _ _ _ (.inl h))
def adf{μ:Nat->Value}{m m2:Mem}{h:View}{R:List Nat}(hm:∀r c,get r m=some c->live c=true->r∈R->get r m2=some (GN m c)):
  ∀(v:V) (g:Value),aO μ m h v g->(∀r,r∈refs (Yy m v)->r∈R)->aO μ m2 h (Yy m v) g
 | .d x,g,q,_=>q
 | .nil s,g,q,_=>q
 | .own r ver,g,q,hr=>by
  simp only[aO] at q;simp only[Yy] at hr|-;cases hc:get r m with
  |none=>simp[hc] at q
  |some c=>
   rw[hc] at hr;cases c with
   |zy _ _ _ _ _=>simp[aO]
   |box _ _=>simp[aO]
   |AQ _ _=>simp[aO]
   |dead=>simp[aO]
   |arr fz fl jM s rows=>
    simp only[hc] at q;simp only at hr|-;cases hb:Nat.beq ver jM with
    |false=>simp[aO]
    |true=>rw[hb] at hr;have hv:=yV hb;have:=hm r _ hc rfl (hr r (by simp[refs]));simp only[aK,aO,this,GN];exact⟨q.1,Nat.le_refl _,λ_=>q.2.2 hv⟩
   |VG jM s rows=>
    simp only[hc] at q;simp only at hr|-;cases hb:Nat.beq ver jM with
    |false=>simp[aO]
    |true=>rw[hb] at hr;have hv:=yV hb;have:=hm r _ hc rfl (hr r (by simp[refs]));simp only[aK,aO,this,GN];exact⟨q.1,Nat.le_refl _,λ_=>q.2.2 hv⟩
 | .ptr r off,g,q,hr=>by
  simp only[aO] at q;simp only[Yy] at hr|-;cases hc:get r m with
  |none=>simp[hc] at q
  |some c=>
   rw[hc] at hr;cases c with
   |zy _ _ _ _ _=>simp[aO]
   |arr _ _ _ _ _=>simp[aO]
   |dead=>simp[aO]
   |VG _ _ _=>simp[aO]
   |box t cs=>simp only[hc] at q;have:=hm r _ hc rfl (hr r (by simp[refs]));simp only[aO,this,GN];exact q
   |AQ t v=>simp only[hc] at q;have:=hm r _ hc rfl (hr r (by simp[refs]));simp only[aO,this,GN];exact q
 | .EL r ver i off,g,q,hr=>by
  simp only[aO] at q;simp only[Yy] at hr|-;cases hc:get r m with
  |none=>simp[hc] at q
  |some c=>
   rw[hc] at hr;cases c with
   |zy _ _ _ _ _=>simp[aO]
   |box _ _=>simp[aO]
   |AQ _ _=>simp[aO]
   |dead=>simp[aO]
   |arr fz fl jM s rows=>
    simp only[hc] at q;simp only at hr|-;cases hb:Nat.beq ver jM with
    |false=>simp[aO]
    |true=>rw[hb] at hr;have hv:=yV hb;have:=hm r _ hc rfl (hr r (by simp[refs]));simp only[aK,aO,this,GN];exact⟨q.1,Nat.le_refl _,λ_=>q.2.2 hv⟩
   |VG jM s rows=>
    simp only[hc] at q;simp only at hr|-;cases hb:Nat.beq ver jM with
    |false=>simp[aO]
    |true=>rw[hb] at hr;have hv:=yV hb;have:=hm r _ hc rfl (hr r (by simp[refs]));simp only[aK,aO,this,GN];exact⟨q.1,Nat.le_refl _,λ_=>q.2.2 hv⟩
 | .zx row off,g,q,_=>q
 | .NR v,g,q,hr=>by simp only[aO] at q;obtain⟨b,x,rfl,h1,h2⟩:=q;simp only[Yy,refs] at hr;simp only[Yy,aO];exact⟨b,x,rfl,h1,adf hm v x h2 hr⟩
 | .clo f a b,g,q,hr=>by simp only[aO] at q;obtain⟨x,y,rfl,h1,h2⟩:=q;simp only[Yy,refs] at hr;simp only[Yy,aO];exact⟨x,y,rfl,X4 hm a _ h1 λr hx=>hr r (by simp[hx]),X4 hm b _ h2 λr hx=>hr r (by simp[hx])⟩
 | .agg cs,g,q,hr=>by simp only[aO] at q;obtain⟨x,rfl,h1⟩:=q;simp only[Yy,refs] at hr;simp only[Yy,aO];exact⟨x,rfl,X4 hm cs _ h1 hr⟩
 | .JV cs,g,q,hr=>by simp only[aO] at q;obtain⟨x,rfl,h1⟩:=q;simp only[Yy,refs] at hr;simp only[Yy,aO];exact⟨x,rfl,X4 hm cs _ h1 hr⟩
 | .undef,g,q,_=>q
where
 X4 {μ:Nat->Value} {m m2:Mem} {h:View} {R:List Nat} (hm:∀r c,get r m=some c->live c=true->r∈R->get r m2=some (GN m c)):
  ∀(vs:List V) (gs:List Value),dn μ m h vs gs->(∀r,r∈Td (abk m vs)->r∈R)->dn μ m2 h (abk m vs) gs
 |[],gs,q,_=>q
 |v::vs,gs,q,hr=>by obtain⟨g,gs',rfl,h1,h2⟩:=oJ q;simp only[abk,Td] at hr;simp only[abk,dn];exact⟨g,gs',rfl,adf hm v g h1 λr hx=>hr r (by simp[hx]),X4 hm vs gs' h2 λr hx=>hr r (by simp[hx])⟩
def ab9{m:Mem}{tm:mD}{t:Nat}{v:V}:∀{ts:List Nat},get t (abS m tm ts)=some v->∃u,get t tm=some u/\v=Yy m u
 |[],h=>by simp[abS,get] at h
 |i::ts,h=>by
  simp only[abS] at h;cases hi:get i tm with
  |none=>rw[hi] at h;exact ab9 h
  |some u=>
   rw[hi] at h;simp only[get] at h;cases hb:Nat.beq t i with
   |true=>have:=yV hb;subst this;rw[hb] at h;simp only[aK,jF] at h;exact⟨u,hi,h.symm⟩
   |false=>rw[hb] at h;exact ab9 h
section
variable {base:Nat} {U:Nat->Prop} {M0:List Nat} {w0 w:World} {ν:Nat->Value} {M:Mem} {nt:Nat} {S S':St} {G:GS} {a:Act}
open Classical in
def avQ(R:Rel base U M0 w0 ν M nt w S G a)(hM:∀r c,get r M=some c->Qd r=true){ts:List Nat}(h:abU ts S=some S'):
  ∃G',Rel base U M0 w0 ν M nt w S' G' a/\(Gh U w G).le (Gh U w G'):=by
 simp only[abU] at h;generalize htm:abS S.mem S.tm ts=tm at h;generalize hRR:reach S.mem 3 (roots tm S.mem)=RR at h;generalize hmm:pV S.mem RR S.mem=m2 at h;cases hc:(closed RR m2 &&(aLA S.mem && sortedK S.mem)) with
 |false=>simp[hc] at h
 |true=>
  simp only[hc,aK,jF] at h;subst h;simp only[xw] at hc;obtain⟨hcl,hfm,hso⟩:=hc;have hget:∀k c',get k m2=some c'↔∃c,get k S.mem=some c/\live c=true/\k∈RR/\c'=GN S.mem c:=by intro k c';rw[<-hmm];exact ZU hso c'
  have hto:∀r c,get r S.mem=some c->live c=true->r∈RR->get r m2=some (GN S.mem c):=λr c h1 h2 h3=>(hget r _).2 ⟨c,h1,h2,h3,rfl⟩
  have hroot:∀r,r∈roots tm S.mem->r∈RR:=λr hr=>by rw[<-hRR];exact alX _ _ _ _ hr
  have hout:∀r,r ∉ G.out:=λr=>by rw[R.at_.out];simp
  let F2:Nat->List Nat:=λr=>if get r m2=none then[] else G.F r
  have hF:∀r b,b∈F2 r->b∈G.F r:=by
   intro r b hb;simp only[F2] at hb;split at hb
   ·simp at hb
   ·exact hb
  have hex:∀b,excl F2 [] b->excl G.F G.E b:=by
   rintro b (hb|⟨r,hb⟩)
   ·simp at hb
   ·exact .inr ⟨r,hF r b hb⟩
  have hv:(Gh U w G).le (Gh U w ⟨G.μ,F2,[],[]⟩):=Vd (λ_ x=>x) hex;have hbox:∀r t cs,get r m2=some (.box t cs)->∀q,q∈Td cs->q∈RR:=by intro r t cs hr q hq;have:=List.all_eq_true.1 hcl (r,.box t cs) (get_mem hr);simp only[List.all_eq_true] at this;exact(BG q RR).1 (this q hq)
  have aLO:∀r t v,get r m2=some (.AQ t v)->∀q,q∈refs v->q∈RR:=by intro r t v hr q hq;have:=List.all_eq_true.1 hcl (r,.AQ t v) (get_mem hr);simp only[List.all_eq_true] at this;exact(BG q RR).1 (this q hq)
  refine⟨⟨G.μ,F2,[],[]⟩,⟨⟨⟨?_, ?_, ?_, ?_,by simp, ?_,R.at_.ok.up,R.at_.ok.bs, ?_, ?_⟩,rfl,rfl,R.at_.fr.less hex⟩, ?_,R.size,R.defers, ?_⟩,hv⟩
  ·intro r c' hr _;have hF2:F2 r=G.F r:=by simp[F2,hr]
   obtain⟨c,h1,h2,h3,rfl⟩:=(hget r c').1 hr;have hq:=R.at_.ok.cell r c h1 (hout r);show nY G.μ m2 (dA w) (Gh U w ⟨G.μ,F2,[],[]⟩) r (GN S.mem c) (F2 r);rw[hF2];cases c with
   |zy _ _ _ _ _=>cases h2
   |dead=>cases h2
   |box t cs=>obtain⟨b,arr,e1,e2,e3,e4⟩:=hq;exact⟨b,arr,e1,e2,adf.X4 hto _ _ (sJ (sH _ _) hv _ _ e3) (hbox r t _ hr),e4⟩
   |arr fz fl ver s rows=>
    cases fz with
    |true=>exact⟨La hv _ _ hq.1,hq.2⟩
    |false=>exact VH hv (λ_ _=>rfl) hq
   |VG ver s rows=>exact aeg hv (λ_ _=>rfl) hq
   |AQ t v=>obtain⟨e1,b,x,e2,e3,e4⟩:=hq;exact⟨e1,b,x,e2,hv _ _ _ e3,adf hto _ _ (AZ (sH _ _) hv _ _ e4) (aLO r t _ hr)⟩
  ·intro r r' hne b hb hb';exact R.at_.ok.dj r r' hne b (hF r b hb) (hF r' b hb')
  ·intro r b hb;simp
  ·intro r;simp only[F2];split
   ·simp
   ·exact R.at_.ok.nd r
  ·intro b hb;exact R.at_.ok.lt b (hex b hb)
  ·intro r hr;simp[F2,hr]
  ·intro r hr;simp at hr
  ·intro t v ht;rw[<-htm] at ht;obtain⟨u,h1,rfl⟩:=ab9 ht;obtain⟨h2,h3⟩:=R.tm t u h1;refine⟨h2,adf hto u _ (AZ (sH _ _) hv _ _ h3) λr hr=> ?_⟩;refine hroot r (V5 _ _ _ (.inr ?_));rw[List.mem_flatMap];exact⟨(t,Yy S.mem u),by rw[<-htm];exact get_mem ht,hr⟩
  ·intro r c hr;obtain⟨c',h1,h2⟩:=R.imp r c hr;have hk:=hM r c hr;have apl:=List.all_eq_true.1 hfm (r,c') (get_mem h1);have hrr:r∈RR:=hroot r (V5 _ _ _ (.inl (by rw[List.mem_filter];exact⟨List.mem_map.2 ⟨(r,c'),get_mem h1,rfl⟩,hk⟩)));cases c' with
   |zy _ _ _ _ _=>simp[hk] at apl
   |dead=>simp[hk] at apl
   |VG _ _ _=>simp[hk] at apl
   |box t cs=>refine⟨_,hto r _ h1 rfl hrr, ?_⟩;cases c<;>simp only[yF,GN] at h2|-<;>exact h2
   |AQ t cs=>refine⟨_,hto r _ h1 rfl hrr, ?_⟩;cases c<;>simp only[yF,GN] at h2|-<;>exact h2
   |arr fz fl ver s rows=>simp only[hk,aK] at apl;have hv0:=yV apl;subst hv0;exact⟨_,hto r _ h1 rfl hrr,h2⟩
def aiq{f:Nat->Nat}:∀{ks:List Nat},nodupB (ks.map f)=true->∀a b,a∈ks->b∈ks->f a=f b->a=b
 |[],_,a,b,ha,_,_=>absurd ha List.not_mem_nil
 |k::ks,h,a,b,ha,hb,e=>by
  simp only[PO,nodupB,xw] at h;have h1:=VT h.1;rcases List.mem_cons.1 ha with e1|ha1<;>rcases List.mem_cons.1 hb with e2|hb1
  ·rw[e1,e2]
  ·exact absurd (by rw[<-e1,e];exact List.mem_map.2 ⟨b,hb1,rfl⟩) h1
  ·exact absurd (by rw[<-e2,<-e];exact List.mem_map.2 ⟨a,ha1,rfl⟩) h1
  ·exact aiq h.2 a b ha1 hb1 e
def ahd{α:Type}{k:Nat}{x:α}{l:List (Nat×α)}(h:get k l=some x):k∈l.map (·.1):=List.mem_map.2 ⟨_,get_mem h,rfl⟩
def abp{L:List (Nat×Nat)}:∀{m:Mem} {k':Nat} {c':Cell},get k' (VQ L m)=some c'->∃k c,get k m=some c/\ren L k=k'/\c'=ahO L c
 |[],k',c',h=>by simp[VQ,get] at h
 |(j,c0)::m,k',c',h=>by
  simp only[VQ] at h;rw[get_put] at h;split at h
  ·rename_i e;cases h;exact⟨j,c0,by simp[get],e.symm,rfl⟩
  ·rename_i e;obtain⟨k,c,h1,h2,h3⟩:=abp h;refine⟨k,c, ?_,h2,h3⟩;have:Nat.beq k j=false:=uV (λq=>e (by rw[<-h2,q]));simp only[get,this,bg];exact h1
def air{L:List (Nat×Nat)}:∀{m:Mem} (_:∀a b,a∈m.map (·.1)->b∈m.map (·.1)->ren L a=ren L b->a=b) {k:Nat} {c:Cell},get k m=some c->get (ren L k) (VQ L m)=some (ahO L c)
 |[],_,k,c,h=>by simp[get] at h
 |(j,c0)::m,hi,k,c,h=>by
  simp only[VQ];rw[get_put]
  by_cases hk:k=j
  ·subst hk;have:Nat.beq k k=true:=Nat.beq_refl k;simp only[get,this,aK,jF] at h;subst h;rw[if_pos rfl]
  ·have hb:Nat.beq k j=false:=uV hk;simp only[get,hb,bg] at h;rw[if_neg]
   ·exact air (λa b ha hb=>hi a b (zmm _ ha) (zmm _ hb)) h
   ·intro e;exact hk (hi k j (zmm _ (ahd h)) zmf e)
def alY{L:List (Nat×Nat)}:∀{tm:mD} {t:Nat} {v:V},get t (ahP L tm)=some v->∃u,get t tm=some u/\v=UQ L u
 |[],t,v,h=>by simp[ahP,get] at h
 |(j,u)::tm,t,v,h=>by
  simp only[ahP,get] at h|-;cases hb:Nat.beq t j with
  |true=>rw[hb] at h;simp only[aK,jF] at h;exact⟨u,rfl,h.symm⟩
  |false=>rw[hb] at h;simp only[bg] at h|-;exact alY h
mutual
def ahe{L:List (Nat×Nat)}{μ μ':Nat->Value}{m m':Mem}{h:View}(hm:∀k c,get k m=some c->get (ren L k) m'=some (ahO L c)/\μ' (ren L k)=μ k):∀(v:V) (g:Value),aO μ m h v g->aO μ' m' h (UQ L v) g
 | .d x,g,q=>q
 | .nil s,g,q=>q
 | .own r v0,g,q=>by
  simp only[UQ,aO] at q|-;refine⟨q.1, ?_⟩;have q2:=q.2;cases hr:get r m with
  |none=>rw[hr] at q2;exact q2.elim
  |some c=>
   rw[hr] at q2;obtain⟨h1,h2⟩:=hm r c hr;rw[h1];cases c with
   |zy ver s rows i off=>exact⟨q2.1,λe=>by rw[h2];exact q2.2 e⟩
   |box t cs=>exact q2.elim
   |AQ t cs=>exact q2.elim
   |arr fz fl ver s rows=>exact⟨q2.1,λe=>by rw[h2];exact q2.2 e⟩
   |dead=>trivial
   |VG ver s rows=>exact⟨q2.1,λe=>by rw[h2];exact q2.2 e⟩
 | .ptr r off,g,q=>by
  simp only[UQ,aO] at q|-;refine⟨q.1, ?_⟩;have q2:=q.2;cases hr:get r m with
  |none=>rw[hr] at q2;exact q2.elim
  |some c=>
   rw[hr] at q2;obtain⟨h1,h2⟩:=hm r c hr;rw[h1];cases c with
   |box t cs=>obtain⟨b,e1,e2⟩:=q2;exact⟨b,by rw[h2];exact e1,e2⟩
   |AQ t cs=>obtain⟨b,e1,e2⟩:=q2;exact⟨b,by rw[h2];exact e1,e2⟩
   |arr fz fl ver s rows=>exact q2.elim
   |dead=>trivial
   |_=>exact q2.elim
 | .EL r v0 i off,g,q=>by
  simp only[UQ,aO] at q|-;refine⟨q.1, ?_⟩;have q2:=q.2;cases hr:get r m with
  |none=>rw[hr] at q2;exact q2.elim
  |some c=>
   rw[hr] at q2;obtain⟨h1,h2⟩:=hm r c hr;rw[h1];cases c with
   |zy ver s rows i off=>refine⟨q2.1,λe=> ?_⟩;obtain⟨b,n,cap,e1,e2⟩:=q2.2 e;exact⟨b,n,cap,by rw[h2];exact e1,e2⟩
   |box t cs=>exact q2.elim
   |AQ t cs=>exact q2.elim
   |arr fz fl ver s rows=>refine⟨q2.1,λe=> ?_⟩;obtain⟨b,n,cap,e1,e2⟩:=q2.2 e;exact⟨b,n,cap,by rw[h2];exact e1,e2⟩
   |dead=>trivial
   |VG ver s rows=>refine⟨q2.1,λe=> ?_⟩;obtain⟨b,o,n,cap,e1,e2⟩:=q2.2 e;exact⟨b,o,n,cap,by rw[h2];exact e1,e2⟩
 | .zx row off,g,q=>q
 | .NR v,g,q=>by simp only[UQ,aO] at q|-;obtain⟨b,x,e,h1,h2⟩:=q;exact⟨b,x,e,h1,ahe hm v x h2⟩
 | .clo f a b,g,q=>by simp only[UQ,aO] at q|-;obtain⟨x,y,e,h1,h2⟩:=q;exact⟨x,y,e,X5 hm a _ h1,X5 hm b _ h2⟩
 | .agg cs,g,q=>by simp only[UQ,aO] at q|-;obtain⟨x,e,h1⟩:=q;exact⟨x,e,X5 hm cs _ h1⟩
 | .JV vs,g,q=>by simp only[UQ,aO] at q|-;obtain⟨x,e,h1⟩:=q;exact⟨x,e,X5 hm vs _ h1⟩
 | .undef,g,q=>trivial
def X5{L:List (Nat×Nat)}{μ μ':Nat->Value}{m m':Mem}{h:View}(hm:∀k c,get k m=some c->get (ren L k) m'=some (ahO L c)/\μ' (ren L k)=μ k):∀(vs:List V) (gs:List Value),dn μ m h vs gs->dn μ' m' h (ZA L vs) gs
 |[],gs,q=>q
 |v::vs,gs,q=>by simp only[ZA,dn] at q|-;obtain⟨g,gs',rfl,h1,h2⟩:=q;exact⟨g,gs',rfl,ahe hm v g h1,X5 hm vs gs' h2⟩
end
open Classical in
def avR(R:Rel base U M0 w0 ν M nt w S G a)(hM:∀r c,get r M=some c->Qd r=true)(L:List (Nat×Nat)):
  ∃G',Rel base U M0 w0 ν M nt w (anD L S) G' a/\(Gh U w G).le (Gh U w G'):=by
 simp only[anD];cases hc:ac1 L S.mem with
 |false=>exact⟨G,R,View.le_refl _⟩
 |true=>
  simp only;simp only[ac1,xw] at hc;obtain⟨⟨hnd,himp⟩,hll⟩:=hc;have hinj:=aiq hnd
  let inv:Nat->Nat:=λk'=>if h:∃k,k∈S.mem.map (·.1)/\ren L k=k' then h.choose else k'
  let F2:Nat->List Nat:=λk'=>if∃k,k∈S.mem.map (·.1)/\ren L k=k' then G.F (inv k') else[]
  have hinv:∀k,k∈S.mem.map (·.1)->inv (ren L k)=k:=by
   intro k hk;have hex:∃j,j∈S.mem.map (·.1)/\ren L j=ren L k:=⟨k,hk,rfl⟩
   simp only[inv,dif_pos hex];exact hinj _ _ hex.choose_spec.1 hk hex.choose_spec.2
  have hF2:∀k,k∈S.mem.map (·.1)->F2 (ren L k)=G.F k:=by
   intro k hk;have hex:∃j,j∈S.mem.map (·.1)/\ren L j=ren L k:=⟨k,hk,rfl⟩
   simp only[F2,if_pos hex,hinv k hk]
  have hF:∀r b,b∈F2 r->∃k,k∈S.mem.map (·.1)/\ren L k=r/\b∈G.F k:=by
   intro r b hb;simp only[F2] at hb;split at hb
   ·rename_i hex;obtain⟨k,h1,rfl⟩:=hex;rw[hinv k h1] at hb;exact⟨k,h1,rfl,hb⟩
   ·simp at hb
  have hex:∀b,excl F2 [] b->excl G.F G.E b:=by
   rintro b (hb|⟨r,hb⟩)
   ·simp at hb
   ·obtain⟨k,_,_,h⟩:=hF r b hb;exact .inr ⟨k,h⟩
  have hv:(Gh U w G).le (Gh U w ⟨G.μ ∘ inv,F2,[],[]⟩):=Vd (λ_ x=>x) hex;have hm:∀k c,get k S.mem=some c->get (ren L k) (VQ L S.mem)=some (ahO L c)/\(G.μ ∘ inv) (ren L k)=G.μ k:=by intro k c hk;exact⟨air hinj hk,by show G.μ (inv (ren L k))=_;rw[hinv k (ahd hk)]⟩
  have hout:∀r,r ∉ G.out:=λr=>by rw[R.at_.out];simp
  refine⟨⟨G.μ ∘ inv,F2,[],[]⟩,⟨⟨⟨?_, ?_, ?_, ?_,by simp, ?_,R.at_.ok.up,R.at_.ok.bs, ?_, ?_⟩,rfl,rfl,R.at_.fr.less hex⟩, ?_,R.size,R.defers, ?_⟩,hv⟩
  ·intro r c' hr _;obtain⟨k,c,h1,rfl,rfl⟩:=abp hr;have hq:=R.at_.ok.cell k c h1 (hout k);show nY (G.μ ∘ inv) (VQ L S.mem) (dA w) (Gh U w ⟨G.μ ∘ inv,F2,[],[]⟩) (ren L k) (ahO L c) (F2 (ren L k));rw[hF2 k (ahd h1)];have hmu:=(hm k c h1).2;cases c with
   |zy _ _ _ _ _=>have:=List.all_eq_true.1 hll _ (get_mem h1);cases this
   |dead=>exact hq
   |box t cs=>obtain⟨b,arr,e1,e2,e3,e4⟩:=hq;exact⟨b,arr,by rw[hmu];exact e1,e2,X5 hm _ _ (sJ (sH _ _) hv _ _ e3),e4⟩
   |arr fz fl ver s rows=>
    cases fz with
    |true=>have hq':ro (Gh U w G) (.sl true s rows) (G.μ k)/\G.F k=[]:=hq;refine⟨?_,hq'.2⟩;rw[hmu];exact La hv _ _ hq'.1
    |false=>have hq':aa8 (dA w) (Gh U w G) fl s rows (G.μ k) (G.F k):=hq;show aa8 (dA w) (Gh U w ⟨G.μ ∘ inv,F2,[],[]⟩) fl s rows ((G.μ ∘ inv) (ren L k)) (G.F k);rw[hmu];exact VH hv (λ_ _=>rfl) hq'
   |VG ver s rows=>have hq':agi (dA w) (Gh U w G) s rows (G.μ k) (G.F k):=hq;show agi (dA w) (Gh U w ⟨G.μ ∘ inv,F2,[],[]⟩) s rows ((G.μ ∘ inv) (ren L k)) (G.F k);rw[hmu];exact aeg hv (λ_ _=>rfl) hq'
   |AQ t v=>obtain⟨e1,b,x,e2,e3,e4⟩:=hq;exact⟨e1,b,x,by rw[hmu];exact e2,hv _ _ _ e3,ahe hm _ _ (AZ (sH _ _) hv _ _ e4)⟩
  ·intro r r' hne b hb hb';obtain⟨k,_,rfl,h1⟩:=hF r b hb;obtain⟨k',_,rfl,h2⟩:=hF r' b hb';exact R.at_.ok.dj k k' (λe=>hne (by rw[e])) b h1 h2
  ·intro r b hb;simp
  ·intro r;simp only[F2];split
   ·exact R.at_.ok.nd _
   ·simp
  ·intro b hb;exact R.at_.ok.lt b (hex b hb)
  ·intro r hr;simp only[F2];split
   ·rename_i hq;obtain⟨k,h1,rfl⟩:=hq;obtain⟨⟨k2,c⟩,h2,h3⟩:=List.mem_map.1 h1;simp only at h3;subst h3;cases hg:get k2 S.mem with
    |none=>rw[hinv k2 h1];exact R.at_.ok.none_ _ hg
    |some c2=>rw[(hm k2 c2 hg).1] at hr;cases hr
   ·rfl
  ·intro r hr;simp at hr
  ·intro t v ht;obtain⟨u,h1,rfl⟩:=alY ht;obtain⟨h2,h3⟩:=R.tm t u h1;exact⟨h2,ahe hm u _ (AZ (sH _ _) hv _ _ h3)⟩
  ·intro r c hr;obtain⟨c',h1,h2⟩:=R.imp r c hr;have hk:=hM r c hr;have hir:=List.all_eq_true.1 himp r (ahd h1);simp only[hk,aK] at hir;have her:=yV hir;obtain⟨h3,h4⟩:=hm r c' h1;rw[her] at h3 h4;refine⟨_,h3, ?_⟩;cases c<;>cases c'<;>simp only[yF,ahO] at h2|-<;>first
    |exact⟨h2.1,h4.trans h2.2⟩
    |exact⟨h2.1,h2.2.1,λe=>⟨h4.trans (h2.2.2 e).1,(h2.2.2 e).2⟩⟩
    |exact⟨h2.1,h2.2.1,λe=>⟨h4.trans (h2.2.2 e).1,(h2.2.2 e).2⟩⟩
    |exact⟨h2.1,λe=>⟨h4.trans (h2.2 e).1,(h2.2 e).2⟩⟩
    |exact h4.trans h2
    |trivial
    |exact h2
def axC(R:Rel base U M0 w0 ν M nt w S G a)(hM:∀r c,get r M=some c->Qd r=true):
  ∃G',Rel base U M0 w0 ν M nt w (canon S) G' a/\(Gh U w G).le (Gh U w G'):=by
 unfold canon;cases aB8 S.tm S.mem with
 |nil=>exact⟨G,R,View.le_refl _⟩
 |cons k o=>exact avR R hM _
def axD(R:Rel base U M0 w0 ν M nt w S G a)(hM:∀r c,get r M=some c->Qd r=true){ts:List Nat}(h:prune ts S=some S'):
  ∃G',Rel base U M0 w0 ν M nt w S' G' a/\(Gh U w G).le (Gh U w G'):=by
 simp only[prune] at h;cases hp:abU ts S with
 |none=>simp[hp] at h
 |some S1=>simp only[hp,jF] at h;subst h;obtain⟨G1,R1,v1⟩:=avQ R hM hp;obtain⟨G2,R2,v2⟩:=axC R1 hM;exact⟨G2,R2,v1.trans' v2⟩
end
def X6{α:Type}{f:Nat->Option α}{x:α}(h:lim f=some x):∃n,f n=some x:=by
 unfold lim at h;split at h
 ·rename_i hx;have:=Classical.choose_spec hx;obtain⟨n,hn⟩:=this;simp only[jF] at h;exact⟨n,by rw[hn,h]⟩
 ·cases h
def aI8:Ex->Exit
 | .normal=> .normal
 | .exit id=> .exit id
 | .ret=> .ret
section
variable {base:Nat} {U:Nat->Prop} {M0:List Nat} {w0:World} {ν:Nat->Value} {M:Mem} {nt:Nat} {X:Ctx} {K:lN} {fn:Nat}
def aHb(base:Nat)(U:Nat->Prop)(M0:List Nat)(w0:World)(ν:Nat->Value)(M:Mem)(nt:Nat)(X:Ctx)(K:lN)(fn:Nat):Prop:=
 ∀(id:Nat) (ops:Array Oper) (draw:Bool) (w:World) (S S':St) (G:GS) (a:Act) (Q:Exit->Act->World->Prop),Rel base U M0 w0 ν M nt w S G a->region X K fn id ops draw S=some S'->
  (∀w' G' a',Rel base U M0 w0 ν M nt w' S' G' a'->(Gh U w G).le (Gh U w' G')->Q .normal a' w')->(Code.region id ops draw).wp X.P Q a w
def axE(hR:aHb base U M0 w0 ν M nt X K fn)(c:Code):∀{w:World} {S S':St} {ex:Ex} {G:GS} {a:Act} {Q:Exit->Act->World->Prop},Rel base U M0 w0 ν M nt w S G a->den X K fn c S=some (ex,S')->
  (∀w' G' a',Rel base U M0 w0 ν M nt w' S' G' a'->(Gh U w G).le (Gh U w' G')->Q (aI8 ex) a' w')->c.wp X.P Q a w:=by
 induction c with
 |skip=>intro w S S' ex G a Q R h hn;simp only[den,jF,nT] at h;obtain⟨rfl,rfl⟩:=h;exact Go.wp_skip (hn _ _ _ R (View.le_refl _))
 |region id ops draw=>
  intro w S S' ex G a Q R h hn;simp only[den] at h;cases hr:region X K fn id ops draw S with
  |none=>simp[hr] at h
  |some S1=>simp only[hr,jF,nT] at h;obtain⟨rfl,rfl⟩:=h;exact hR id ops draw w S S1 G a Q R hr hn
 |seq x y ihx ihy=>
  intro w S S' ex G a Q R h hn;simp only[den] at h;refine wp_seq ?_;cases hx:den X K fn x S with
  |none=>simp[hx] at h
  |some r=>
   obtain⟨e1,S1⟩:=r;rw[hx] at h;cases e1 with
   |normal=>simp only at h;exact ihx R hx λw1 G1 a1 R1 v1=>ihy R1 h λw' G' a' R' v'=>hn w' G' a' R' (v1.trans' v')
   |exit id=>simp only[jF,nT] at h;obtain⟨rfl,rfl⟩:=h;exact ihx R hx λw1 G1 a1 R1 v1=>hn w1 G1 a1 R1 v1
   |ret=>simp only[jF,nT] at h;obtain⟨rfl,rfl⟩:=h;exact ihx R hx λw1 G1 a1 R1 v1=>hn w1 G1 a1 R1 v1
 |cond c x y ihx ihy=>
  intro w S S' ex G a Q R h hn;simp only[den] at h;have hc:∀b,abl X.P S.tm c=some b->a.eval c=.bool b:=by
   intro b hb;have:=ZO (P:=X.P) R.tm 0 c;have he:ev X.P S.tm 0 c=.d (.bool b):=by
    unfold abl at hb;revert hb;generalize ev X.P S.tm 0 c=v;intro hb;cases v with
    |d x=>
     cases x with
     |bool b'=>exact congrArg (λq=>V.d (.bool q)) (Option.some.inj hb)
     |_=>cases hb
    |_=>cases hb
   rw[he] at this;simpa[aO,ro] using this
  cases hb:abl X.P S.tm c with
  |none=>simp[hb] at h
  |some b=>
   rw[hb] at h;cases b with
   |true=>exact wp_cond (hc _ hb) (ihx R h hn)
   |false=>exact wp_cond (hc _ hb) (ihy R h hn)
 |block id c ih=>
  intro w S S' ex G a Q R h hn;simp only[den] at h;refine wp_block ?_;cases hx:den X K fn c S with
  |none=>simp[hx] at h
  |some r=>
   obtain⟨e1,S1⟩:=r;rw[hx] at h;cases e1 with
   |normal=>simp only[jF,nT] at h;obtain⟨rfl,rfl⟩:=h;exact ih R hx λw1 G1 a1 R1 v1=>hn w1 G1 a1 R1 v1
   |ret=>simp only[jF,nT] at h;obtain⟨rfl,rfl⟩:=h;exact ih R hx λw1 G1 a1 R1 v1=>hn w1 G1 a1 R1 v1
   |exit j=>
    refine ih R hx λw1 G1 a1 R1 v1=> ?_
    simp only[aI8,Exit.inBlock]
    by_cases hj:j=id
    ·subst hj;simp only[Nat.beq_refl,aK,jF,nT] at h;obtain⟨rfl,rfl⟩:=h;simp only[if_true];exact hn w1 G1 a1 R1 v1
    ·dsimp only at h;rw[uV hj] at h;simp only[bg,jF,nT] at h;obtain⟨rfl,rfl⟩:=h;simp only[hj,if_false];exact hn w1 G1 a1 R1 v1
 |loop c ih=>
  intro w S S' ex G a Q R h hn;simp only[den,W9] at h;have hl:=X6 h;clear h;obtain⟨n,h⟩:=hl;refine wp_loop_rounds n ?_;induction n generalizing w S G a with
  |zero=>simp[iter] at h
  |succ n ihn=>
   simp only[iter] at h;rw[rounds_succ];cases hx:den X K fn c S with
   |none=>simp[hx] at h
   |some r=>
    obtain⟨e1,S1⟩:=r;rw[hx] at h;cases e1 with
    |normal=>exact ih R hx λw1 G1 a1 R1 v1=>ihn R1 (λw' G' a' R' v'=>hn w' G' a' R' (v1.trans' v')) h
    |exit id=>simp only[jF,nT] at h;obtain⟨rfl,rfl⟩:=h;exact ih R hx λw1 G1 a1 R1 v1=>hn w1 G1 a1 R1 v1
    |ret=>simp only[jF,nT] at h;obtain⟨rfl,rfl⟩:=h;exact ih R hx λw1 G1 a1 R1 v1=>hn w1 G1 a1 R1 v1
 |exit id=>intro w S S' ex G a Q R h hn;simp only[den,jF,nT] at h;obtain⟨rfl,rfl⟩:=h;exact wp_exit (hn _ _ _ R (View.le_refl _))
 |ret=>intro w S S' ex G a Q R h hn;simp only[den,jF,nT] at h;obtain⟨rfl,rfl⟩:=h;exact wp_ret (hn _ _ _ R (View.le_refl _))
 |_=>intro w S S' ex G a Q R h hn;simp[den] at h
end
structure Eqv(S T:St):Prop where
 tm:∀t,get t S.tm=get t T.tm
 mem:∀k,get k S.mem=get k T.mem
def Eqv.refl(S:St):Eqv S S:=⟨λ_=>rfl,λ_=>rfl⟩
def Eqv.symm{S T:St}(h:Eqv S T):Eqv T S:=⟨λt=>(h.tm t).symm,λk=>(h.mem k).symm⟩
def Eqv.trans{S T V:St}(h:Eqv S T)(k:Eqv T V):Eqv S V:=⟨λt=>(h.tm t).trans (k.tm t),λj=>(h.mem j).trans (k.mem j)⟩
def abq{ops:Array Oper}{o:Oper}{tm V4 tm':mD}{b:Bool}(h:∀t,t∈o.looksAt ops->get t V4=get t tm)(hw:GR ops tm o=some (b,tm')):∃aY6,GR ops V4 o=some (b,aY6):=by
 unfold GR at hw|-;cases hg:o.guard with
 |none=>simp only[hg,jF,nT] at hw;exact⟨V4,by simp[hw.1]⟩
 |some jw=>
  obtain⟨j,want⟩:=jw;simp only[hg] at hw|-;cases hj:ops[j]? with
  |none=>simp[hj] at hw
  |some oj=>
   simp only[hj] at hw|-;cases hd:oj.dst with
   |none=>simp[hd] at hw
   |some d=>
    simp only[hd,aa7] at hw|-;rw[h d (by simp[Oper.looksAt,hg,hj,hd])];split at hw
    ·split at hw
     all_goals
      simp only[jF,nT] at hw;exact⟨_,congrArg (λx=>some (x,_)) hw.1⟩
    ·split at hw
     ·simp only[jF,nT] at hw;exact⟨_,congrArg (λx=>some (x,_)) hw.1⟩
     ·cases hw
    ·cases hw
section
variable {X:Ctx} {K:lN} {fn:Nat} {ops:Array Oper}
def ZV{i:Nat}{o:Oper}{S S':St}{lg:Log}(ho:ops[i]? =some o)(h:Eo X K fn ops i S=some (S',lg)):
  (∀k,k ∉ lg.w->get k S'.mem=get k S.mem)/\(∀t,o.dst≠some t->get t S'.tm=get t S.tm)/\
  ∀T:St,(∀t,t∈o.looksAt ops->get t T.tm=get t S.tm)->(∀k,k∈lg.r->get k T.mem=get k S.mem)->
   ∃T',Eo X K fn ops i T=some (T',lg)/\(∀k,k∈lg.w->get k T'.mem=get k S'.mem)/\(∀k,k ∉ lg.w->get k T'.mem=get k T.mem)/\
    (∀t,o.dst=some t->get t T'.tm=get t S'.tm)/\(∀t,o.dst≠some t->get t T'.tm=get t T.tm):=by
 unfold Eo at h;simp only[ho] at h;have hdel:∀(tm:mD) t,o.dst≠some t->get t (afj (Zp X.P fn) o.dst tm)=get t tm:=by
  intro tm t ht;unfold afj;cases ZB (Zp X.P fn) o.dst<;>cases hd:o.dst with
  |none=>rfl
  |some d=>first|exact Tf (λe=>ht (by rw[hd,e])) tm|exact jX (λe=>ht (by rw[hd,e])) _ tm
 have hput:∀(tm:mD) v t,o.dst≠some t->get t (akT o.dst v tm)=get t tm:=by
  intro tm v t ht;cases hd:o.dst with
  |none=>rfl
  |some d=>exact jX (λe=>ht (by rw[hd,e])) v tm
 cases hw:GR ops S.tm o with
 |none=>simp[hw] at h
 |some bt=>
  obtain⟨b,tm⟩:=bt;have hsame:=Vh hw;cases b with
  |false=>
   simp only[hw,jF,nT] at h;obtain⟨rfl,rfl⟩:=h;refine⟨λ_ _=>rfl,λt ht=>by rw[hdel tm t ht,hsame t],λT ht hk=> ?_⟩;obtain⟨V4,hw2⟩:=abq ht hw;have anN:=Vh hw2;refine⟨⟨afj (Zp X.P fn) o.dst V4,T.mem⟩, ?_,λk hk=>by simp[Log.none] at hk,λ_ _=>rfl, ?_,λt ht=>by rw[hdel V4 t ht,anN t]⟩
   ·unfold Eo;simp only[ho,hw2]
   ·intro t htd;rw[htd];simp only[afj,aB6,akT];cases ZB (Zp X.P fn) (some t) with
    |false=>simp only[bg];rw[Qe,Qe]
    |true=>simp only[aK];rw[gV,gV]
  |true=>
   simp only[hw] at h;cases hv:(vop X K fn tm o).run S.mem .none with
   |none=>simp[hv] at h
   |some r=>
    obtain⟨v,m',l⟩:=r;simp only[hv] at h;cases hd:ZB (Zp X.P fn) o.dst with
    |false=>simp[hd] at h
    |true=>
     simp only[hd,aK,jF,nT] at h;obtain⟨rfl,rfl⟩:=h;obtain⟨R,W,e,h1,h2⟩:=avL _ hv;simp only[Log.none,List.append_nil] at e;subst e;refine⟨h1,λt ht=>by rw[hput tm v t ht,hsame t],λT ht hk=> ?_⟩;obtain⟨m2,q1,q2,q3⟩:=h2 T.mem .none hk;obtain⟨V4,hw2⟩:=abq ht hw;have anN:=Vh hw2;refine⟨⟨akT o.dst v V4,m2⟩, ?_,q2,q3, ?_,λt ht=>by rw[hput V4 v t ht,anN t]⟩
     ·unfold Eo;have hc:vop X K fn V4 o=vop X K fn tm o:=avN λx hx i hi=>by rw[anN,hsame];exact ht i (by subst hi;exact List.mem_append_left _ (List.mem_filterMap.2 ⟨.tmp i,by simpa using hx,rfl⟩))
      simp only[ho,hw2,hc,q1,hd,aK];simp[Log.none]
     ·intro t htd;rw[htd];simp only[akT];rw[gV,gV]
def aem{a b:List Nat}(h:aCa a b=true):∀k,k∈a->k ∉ b:=λk hk=>VT (List.all_eq_true.1 h k hk)
structure apm(ops:Array Oper)(i j:Nat)(li lj:Log):Prop where
 ex:∃a b,ops[i]? =some a/\ops[j]? =some b/\(∀d,a.dst=some d->d ∉ b.looksAt ops)/\(∀d,a.dst=some d->b.dst≠some d)/\(∀d,b.dst=some d->d ∉ a.looksAt ops)
 wr:∀k,k∈li.w->k ∉ lj.r
 ww:∀k,k∈li.w->k ∉ lj.w
 rw:∀k,k∈li.r->k ∉ lj.w
def swap{i j:Nat}{li lj:Log}{S S1 S2:St}(hI:apm ops i j li lj)(h1:Eo X K fn ops i S=some (S1,li))(h2:Eo X K fn ops j S1=some (S2,lj)):
  ∃T1 T2,Eo X K fn ops j S=some (T1,lj)/\Eo X K fn ops i T1=some (T2,li)/\Eqv S2 T2:=by
 obtain⟨a,b,ha,hb,i1,i2,i3⟩:=hI.ex;obtain⟨a1,a2,a3⟩:=ZV ha h1;obtain⟨b1,b2,b3⟩:=ZV hb h2;obtain⟨T1,c1,c2,c3,c4,c5⟩:=b3 S (λt ht=>(a2 t (λe=>i1 t e ht)).symm) (λk hk=>(a1 k (λhw=>hI.wr k hw hk)).symm);obtain⟨T2,d1,d2,d3,d4,d5⟩:=a3 T1 (λt ht=>c5 t (λe=>i3 t e ht)) (λk hk=>c3 k (hI.rw k hk));refine⟨T1,T2,c1,d1,λt=> ?_,λk=> ?_⟩
 ·by_cases hta:a.dst=some t
  ·rw[b2 t (λe=>i2 t hta e),d4 t hta]
  ·rw[d5 t hta]
   by_cases htb:b.dst=some t
   ·rw[c4 t htb]
   ·rw[c5 t htb,b2 t htb,a2 t hta]
 ·by_cases hka:k∈li.w
  ·rw[b1 k (hI.ww k hka),d2 k hka]
  ·rw[d3 k hka]
   by_cases hkb:k∈lj.w
   ·rw[c2 k hkb]
   ·rw[c3 k hkb,b1 k hkb,a1 k hka]
def Tr(X:Ctx)(K:lN)(fn:Nat)(ops:Array Oper):List (Nat×Log)->St->St->Prop
 |[],S,S'=>S=S'
 |(i,l)::is,S,S'=>∃S1,Eo X K fn ops i S=some (S1,l)/\Tr X K fn ops is S1 S'
def ais{i:Nat}{S S':St}{l:Log}(h:Eo X K fn ops i S=some (S',l)):∃o,ops[i]? =some o:=by
 cases ho:ops[i]? with
 |some o=>exact⟨o,rfl⟩
 |none=>simp[Eo,ho] at h
def avS{i:Nat}{S S1 T:St}{l:Log}(h:Eo X K fn ops i S=some (S1,l))(hE:Eqv S T):∃T1,Eo X K fn ops i T=some (T1,l)/\Eqv S1 T1:=by
 obtain⟨o,ho⟩:=ais h;obtain⟨a1,a2,a3⟩:=ZV ho h;obtain⟨T1,c1,c2,c3,c4,c5⟩:=a3 T (λt _=>(hE.tm t).symm) (λk _=>(hE.mem k).symm);refine⟨T1,c1,λt=> ?_,λk=> ?_⟩
 ·by_cases ht:o.dst=some t
  ·rw[c4 t ht]
  ·rw[c5 t ht,a2 t ht,hE.tm t]
 ·by_cases hk:k∈l.w
  ·rw[c2 k hk]
  ·rw[c3 k hk,a1 k hk,hE.mem k]
def Tr.eqv:∀{is:List (Nat×Log)} {S S' T:St},Tr X K fn ops is S S'->Eqv S T->∃T',Tr X K fn ops is T T'/\Eqv S' T'
 |[],S,S',T,h,hE=>⟨T,rfl,by cases h;exact hE⟩
 |(i,l)::is,S,S',T,⟨S1,h1,h2⟩,hE=>by obtain⟨T1,c1,e1⟩:=avS h1 hE;obtain⟨T',c2,e2⟩:=Tr.eqv h2 e1;exact⟨T',⟨T1,c1,c2⟩,e2⟩
def Tr.front{i:Nat}{l:Log}{post:List (Nat×Log)}:∀{pre:List (Nat×Log)} {S S':St},Tr X K fn ops (pre++(i,l)::post) S S'->(∀x,x∈pre->apm ops x.1 i x.2 l)->
  ∃S'',Tr X K fn ops ((i,l)::(pre++post)) S S''/\Eqv S' S''
 |[],S,S',h,_=>⟨S',h,Eqv.refl _⟩
 |(j,lj)::pre,S,S',⟨S1,h1,h2⟩,hI=>by obtain⟨T',⟨T1,t1,t2⟩,e1⟩:=Tr.front h2 (λx hx=>hI x (by simp[hx]));obtain⟨V1,V2,v1,v2,ev⟩:=swap (hI (j,lj) (by simp)) h1 t1;obtain⟨V',w1,e2⟩:=Tr.eqv t2 ev;exact⟨V',⟨V1,v1,V2,v2,w1⟩,e1.trans e2⟩
end
def Zf(acc:Array Nat)(o:Oper):Array Nat:=acc.push (o.after.foldl (λs e=>if Region.binds .any e then s|||2 ^ e.on|||acc.getD e.on 0 else s) 0)
def apn(look:Nat->Nat)(j:Nat):∀(es:List Edge) (s:Nat),(es.foldl (λs e=>if Region.binds .any e then s|||2 ^ e.on|||look e.on else s) s).testBit j=true->
  s.testBit j=true\/∃e,e∈es/\Region.binds .any e=true/\(j=e.on\/(look e.on).testBit j=true)
 |[],s,h=> .inl h
 |e::es,s,h=>by
  simp only[List.foldl_cons] at h;rcases apn look j es _ h with h|⟨e',h1,h2⟩
  ·cases hb:Region.binds .any e with
   |false=>simp only[hb,Bool.false_eq_true,if_false] at h;exact .inl h
   |true=>
    simp only[hb,if_true,Nat.testBit_or,Bool.or_eq_true] at h;rcases h with(h|h)|h
    ·exact .inl h
    ·rw[Nat.testBit_two_pow] at h;exact .inr ⟨e,by simp,hb,.inl (by simpa using(of_decide_eq_true h).symm)⟩
    ·exact .inr ⟨e,by simp,hb,.inr h⟩
  ·exact .inr ⟨e',by simp[h1],h2⟩
def aLP(l:List Oper):∀(acc:Array Nat),(l.foldl Zf acc).size=acc.size+l.length/\(∀i,i<acc.size->(l.foldl Zf acc).getD i 0=acc.getD i 0)/\
  ∀k j,((l.foldl Zf acc).getD (acc.size+k) 0).testBit j=true->∃o e,l[k]? =some o/\e∈o.after/\Region.binds .any e=true/\(j=e.on\/(e.on<acc.size+k/\((l.foldl Zf acc).getD e.on 0).testBit j=true)):=by
 induction l with
 |nil=>intro acc;refine⟨by simp,λi _=>rfl,λk j h=> ?_⟩;rw[List.foldl_nil,Array.getD,dif_neg ak] at h;simp at h
 |cons o l ih=>
  intro acc;obtain⟨s1,s2,s3⟩:=ih (Zf acc o);have hsz:(Zf acc o).size=acc.size+1:=by simp[Zf]
  rw[hsz] at s1 s2 s3;have hold:∀i,i<acc.size->(Zf acc o).getD i 0=acc.getD i 0:=by intro i hi;simp only[Zf,Array.getD_eq_getD_getElem?,Array.getElem?_push];rw[if_neg ak]
  refine⟨by rw[List.foldl_cons,s1,mQ];omega,λi hi=>by rw[List.foldl_cons,s2 i ak,hold i hi],λk j h=> ?_⟩;rw[List.foldl_cons] at h|-;cases k with
  |zero=>
   rw[Nat.add_zero,s2 _ ak] at h;have hv:(Zf acc o).getD acc.size 0=o.after.foldl (λs e=>if Region.binds .any e then s|||2 ^ e.on|||acc.getD e.on 0 else s) 0:=by simp[Zf,Array.getD_eq_getD_getElem?]
   rw[hv,<-Array.foldl_toList] at h;rcases apn (λi=>acc.getD i 0) j _ 0 h with h|⟨e,h1,h2,h3⟩
   ·simp at h
   ·refine⟨o,e,rfl,by simpa using h1,h2, ?_⟩;rcases h3 with h3|h3
    ·exact .inl h3
    ·have hlt:e.on<acc.size:=by
      rcases Nat.lt_or_ge e.on acc.size with h'|h'
      ·exact h'
      ·simp[Array.getD,Nat.not_lt.2 h'] at h3
     refine .inr ⟨ak, ?_⟩;rw[s2 _ ak,hold _ hlt];exact h3
  |succ k=>obtain⟨o',e,q1,q2,q3,q4⟩:=s3 k j (by rwa [show acc.size+(k+1)=acc.size+1+k by omega] at h);exact⟨o',e,by simpa using q1,q2,q3,q4.imp id fun⟨x,y⟩=>⟨ak,y⟩⟩
def ait{ops:Array Oper}{i j:Nat}(h:ordered (Region.before ops) i j=true):∃o e,ops[i]? =some o/\e∈o.after/\Region.binds .any e=true/\(j=e.on\/(e.on<i/\ordered (Region.before ops) e.on j=true)):=by
 have he:Region.before ops=ops.toList.foldl Zf #[]:=by unfold Region.before;rw[<-Array.foldl_toList];rfl
 unfold ordered at h|-;rw[he] at h|-;obtain⟨o,e,h1,h2,h3,h4⟩:=(aLP ops.toList #[]).2.2 i j (by simpa using h);exact⟨o,e,by simpa using h1,h2,h3,by simpa using h4⟩
section
variable {base:Nat} {U:Nat->Prop} {M0:List Nat} {w0 w:World} {ν:Nat->Value} {M:Mem} {nt:Nat} {S T:St} {G:GS} {a:Act} {X:Ctx} {K:lN} {fn:Nat} {ops:Array Oper}
def aen(h:Eqv S T)(μ:Nat->Value):Ep μ S.mem μ T.mem:=λr c hc=>⟨c,by rw[<-h.mem r];exact hc,afl μ r c⟩
def Rel.eqv(R:Rel base U M0 w0 ν M nt w S G a)(h:Eqv S T):Rel base U M0 w0 ν M nt w T G a:=by
 have ok:=R.at_.ok;refine⟨⟨⟨?_,ok.dj,ok.djE,ok.nd,ok.ndE,ok.lt,ok.up,ok.bs, ?_,ok.out_⟩,R.at_.E,R.at_.out,R.at_.fr⟩, ?_,R.size,R.defers,wG R.imp (aen h _)⟩
 ·intro r c hc ho;exact Lc (aen h _) (View.le_refl _) rfl (λ_ _=>rfl) (ok.cell r c (by rw[h.mem r];exact hc) ho)
 ·intro r hr;exact ok.none_ r (by rw[h.mem r];exact hr)
 ·intro t v hv;obtain⟨h1,h2⟩:=R.tm t v (by rw[h.tm t];exact hv);exact⟨h1,AZ (aen h _) (View.le_refl _) _ _ h2⟩
def Cl(ops:Array Oper)(listed:Array Bool):Prop:=∀k,listed.getD k false=true->∀o,ops[k]? =some o->∀e,e∈o.after->Region.binds .any e=true->listed.getD e.on false=true
def Cl.path{listed:Array Bool}(h:Cl ops listed):∀(k j:Nat),listed.getD k false=true->ordered (Region.before ops) k j=true->listed.getD j false=true:=by
 intro k;induction k using Nat.strongRecOn with
 |_ k ih=>
  intro j hk ho;obtain⟨o,e,h1,h2,h3,h4⟩:=ait ho;have he:=h k hk o h1 e h2 h3;rcases h4 with rfl|⟨h5,h6⟩
  ·exact he
  ·exact ih e.on h5 j he h6
def Ok(ops:Array Oper):List (Nat×Log)->Prop:=List.Pairwise λp q=>ordered (Region.before ops) q.1 p.1=true\/apm ops p.1 q.1 p.2 q.2
def afD:∀{L:List (Nat×Log)},ZC ops (Region.before ops) L=true->L.Pairwise λq p=>ordered (Region.before ops) q.1 p.1=true\/apm ops p.1 q.1 p.2 q.2
 |[],_=>List.Pairwise.nil
 |(i,l)::L,h=>by
  simp only[ZC,xw] at h;refine List.Pairwise.cons ?_ (afD h.2);rintro⟨j,l'⟩ hj;have:=List.all_eq_true.1 h.1 (j,l') hj;simp only[Bool.or_eq_true,xw] at this;rcases this with h1|⟨h1,h2⟩
  ·exact .inl h1
  ·right;cases ha:ops[i]? with
   |none=>simp[ha] at h2
   |some a=>
    cases hb:ops[j]? with
    |none=>simp[ha,hb] at h2
    |some b=>simp only[ha,hb] at h2;obtain⟨p1,p2,p3⟩:=Oper.apart_spec h2;simp only[Log.apart,xw] at h1;refine⟨⟨b,a,hb,ha,p3,λd hd he=>p2 d he hd,p1⟩,λk hk hr=>aem h1.2 k hr hk,λk hk hr=>aem h1.1.2 k hr hk,λk hk hr=>aem h1.1.1 k hr hk⟩
def alZ:∀{is:List Nat} {S S':St} {L L':List (Nat×Log)},Pn X K fn ops is S L=some (S',L')->
  ∃T:List (Nat×Log),L'=T.reverse++L/\Tr X K fn ops T S S'/\T.map (·.1)=is
 |[],S,S',L,L',h=>by simp only[Pn,jF,nT] at h;obtain⟨rfl,rfl⟩:=h;exact⟨[],rfl,rfl,rfl⟩
 |i::is,S,S',L,L',h=>by
  simp only[Pn] at h;cases h1:Eo X K fn ops i S with
  |none=>simp[h1] at h
  |some r=>obtain⟨S1,l1⟩:=r;simp only[h1] at h;obtain⟨T,e,t,m⟩:=alZ h;exact⟨(i,l1)::T,by rw[e];simp,⟨S1,h1,t⟩,by simp[m]⟩
def abr:∀{l:List Oper} {n k:Nat} {o:Oper},ZE n l=true->l[k]? =some o->∀e,e∈o.after->Region.binds .any e=true->e.on<n+k
 |[],_,_,_,_,h=>by simp at h
 |o'::l,n,0,o,hb,h=>by simp only[List.getElem?_cons_zero,jF] at h;subst h;simp only[ZE,xw] at hb;intro e he hbi;have:=List.all_eq_true.1 hb.1 e (by simpa using he);rw[hbi] at this;simpa using this
 |o'::l,n,k+1,o,hb,h=>by simp only[ZE,xw] at hb;intro e he hbi;have:=abr hb.2 (by simpa using h) e he hbi;omega
def apo{k:Nat}{o:Oper}(hb:backOk ops=true)(h:ops[k]? =some o):∀e,e∈o.after->Region.binds .any e=true->e.on<k:=by intro e he hbi;have:=abr (n:=0) hb (k:=k) (o:=o) (by simpa using h) e he hbi;omega
def any_ok(hK:ab7 X K U M0 w0)(hnt:Zp X.P fn=nt)(hb:backOk ops=true){Q:Exit->Act->World->Prop}:∀(fuel:Nat) {listed:Array Bool} {L:List (Nat×Log)} {w:World} {S S':St} {G:GS} {a:Act}
  (_:L.length<=fuel) (_:listed.size=ops.size) (_:Cl ops listed) (_:∀i,i<ops.size->(listed.getD i true=false↔i∈L.map (·.1))) (_:(L.map (·.1)).Nodup)
  (_:Ok ops L) (_:Tr X K fn ops L S S') (_:Rel base U M0 w0 ν M nt w S G a)
  (_:∀w' G' a',Rel base U M0 w0 ν M nt w' S' G' a'->(Gh U w G).le (Gh U w' G')->Q .normal a' w'),wpAny X.P .any ops Q fuel listed a w
 |0,listed,L,w,S,S',G,a,hf,hs,hcl,hl,hnd,hok,htr,R,hn=>by have:L=[]:=List.length_eq_zero_iff.1 (Nat.le_zero.1 hf);subst this;cases htr;refine⟨?_,hn w G a R (View.le_refl _)⟩;rw[List.eq_nil_iff_forall_not_mem];intro i hi;obtain⟨h1,o,h2,_⟩:=mem_ready.1 hi;have hlt:i<ops.size:=(Array.getElem?_eq_some_iff.1 h2).1;simpa using(hl i hlt).1 h1
 |fuel+1,listed,L,w,S,S',G,a,hf,hs,hcl,hl,hnd,hok,htr,R,hn=>by
  refine⟨λhr=> ?_,λi hi=> ?_⟩
  ·have hL:L=[]:=by
    rw[List.eq_nil_iff_forall_not_mem];have hall:∀i,i ∉ L.map (·.1):=by
     intro i;induction i using Nat.strongRecOn with
     |_ i ih=>
      intro hi;have hlt:i<ops.size:=by
       rcases Nat.lt_or_ge i ops.size with h|h
       ·exact h
       ·obtain⟨⟨i',l⟩,hx,rfl⟩:=List.mem_map.1 hi;exfalso;have:∀{L:List (Nat×Log)} {S S':St},Tr X K fn ops L S S'->∀x,x∈L->∃o,ops[x.1]? =some o:=by
         intro L;induction L with
         |nil=>intro _ _ _ x hx;simp at hx
         |cons y L ihL=>
          rintro S S' ⟨S1,h1,h2⟩ x hx;rcases List.mem_cons.1 hx with rfl|hx
          ·exact ais h1
          ·exact ihL h2 x hx
        obtain⟨o,ho⟩:=this htr _ hx;have:=(Array.getElem?_eq_some_iff.1 ho).1;simp at this h;omega
      have hni:i ∉ Region.ready .any ops listed:=by rw[hr];simp
      apply hni;rw[mem_ready];refine⟨(hl i hlt).2 hi,ops[i],by simp[hlt],λe he hbi=> ?_⟩;have hei:=apo hb (k:=i) (by simp[hlt]) e he hbi;have hel:e.on<ops.size:=Nat.lt_trans hei hlt;have:=ih e.on hei;rw[<-hl e.on hel] at this;have hsz:e.on<listed.size:=by rw[hs];exact hel
      simp only[Array.getD,hsz,dite_true] at this|-;simpa using this
    intro x hx;exact hall x.1 (List.mem_map.2 ⟨x,hx,rfl⟩)
   subst hL;cases htr;exact hn w G a R (View.le_refl _)
  ·obtain⟨h1,o,h2,h3⟩:=mem_ready.1 hi;have hlt:i<ops.size:=(Array.getElem?_eq_some_iff.1 h2).1;obtain⟨⟨i',l⟩,hx,rfl⟩:=List.mem_map.1 ((hl i hlt).1 h1);obtain⟨pre,post,rfl⟩:=List.append_of_mem hx;simp only at h1 h2 h3 hlt hi;have hsz:i'<listed.size:=by rw[hs];exact hlt
   have hun:∀x,x∈pre->listed.getD x.1 false=false/\x.1<ops.size:=by
    intro x hxp;have hxo:∃o,ops[x.1]? =some o:=by
     have:∀{L:List (Nat×Log)} {S S':St},Tr X K fn ops L S S'->∀x,x∈L->∃o,ops[x.1]? =some o:=by
      intro L;induction L with
      |nil=>intro _ _ _ x hx;simp at hx
      |cons y L ihL=>
       rintro S S' ⟨S1,h1,h2⟩ x hx;rcases List.mem_cons.1 hx with rfl|hx
       ·exact ais h1
       ·exact ihL h2 x hx
     exact this htr x (by simp[hxp])
    obtain⟨ox,hox⟩:=hxo;have hxl:=(Array.getElem?_eq_some_iff.1 hox).1;have:=(hl x.1 hxl).2 (List.mem_map.2 ⟨x,by simp[hxp],rfl⟩);have hsx:x.1<listed.size:=by rw[hs];exact hxl
    simp only[Array.getD,hsx,dite_true] at this|-;exact⟨this,hxl⟩
   have aY7:∀x,x∈pre->apm ops x.1 i' x.2 l:=by
    intro x hxp;have:=(List.pairwise_append.1 hok).2.2 x hxp (i',l) (by simp);rcases this with ho|ho
    ·exfalso;obtain⟨o',e,q1,q2,q3,q4⟩:=ait ho;simp only at q1;rw[h2] at q1;cases q1;have hel:=h3 e q2 q3;have hx0:=(hun x hxp).1;rcases q4 with q4|⟨_,q4⟩
     ·rw[q4,hel] at hx0;cases hx0
     ·rw[hcl.path e.on x.1 hel q4] at hx0;cases hx0
    ·exact ho
   obtain⟨S'',⟨S1,r1,r2⟩,hE⟩:=Tr.front htr aY7;refine apk hK hnt R r1 λw1 G1 a1 R1 v1=> ?_
   have hnd':((pre++post).map (·.1)).Nodup/\i' ∉(pre++post).map (·.1):=by
    have h':(pre.map (·.1)++i'::post.map (·.1)).Nodup:=by simpa using hnd
    have h'':=(List.perm_middle (a:=i') (l₁:=pre.map (·.1)) (l₂:=post.map (·.1))).nodup_iff.1 h';rw[List.nodup_cons] at h'';exact⟨by simpa using h''.2,by simpa using h''.1⟩
   refine any_ok hK hnt hb fuel (L:=pre++post) ?_ ?_ ?_ ?_ hnd'.1 ?_ r2 R1 ?_
   ·simp at hf|-;omega
   ·simp[hs]
   ·intro k hk o' ho' e he hbd
    by_cases hki:k=i'
    ·subst hki;rw[h2] at ho';cases ho';have:=h3 e he hbd
     by_cases hei:k=e.on
     ·simp[Array.getD,<-hei,hsz]
     ·rw[getD_set_ne false hei];exact this
    ·rw[getD_set_ne false (Ne.symm hki)] at hk;have:=hcl k hk o' ho' e he hbd
     by_cases hei:i'=e.on
     ·simp[Array.getD,<-hei,hsz]
     ·rw[getD_set_ne false hei];exact this
   ·intro k hk
    by_cases hki:k=i'
    ·subst hki;have e1:(listed.setIfInBounds k true).getD k true=true:=by simp[Array.getD,hsz]
     rw[e1];exact⟨λh=>by simp at h,λh=>absurd h hnd'.2⟩
    ·rw[getD_set_ne true (Ne.symm hki),hl k hk];simp[hki]
   ·have h':=List.pairwise_append.1 hok;exact List.pairwise_append.2 ⟨h'.1,(List.pairwise_cons.1 h'.2.1).2,λx hx y hy=>h'.2.2 x hx y (by simp[hy])⟩
   ·intro w' G' a' R' v';exact hn w' G' a' (R'.eqv hE.symm) (v1.trans' v')
def avT(hK:ab7 X K U M0 w0)(hnt:Zp X.P fn=nt)(hM:∀r c,get r M=some c->Qd r=true):aHb base U M0 w0 ν M nt X K fn:=by
 intro id ops draw w S S' G a Q R h hn;simp only[region] at h;cases hr:KZ X K fn id ops draw S with
 |none=>simp[hr] at h
 |some r=>
  obtain⟨S1,L⟩:=r;simp only[hr] at h;have hfin:prune (X.UO.keep fn id) S1=some S'->∀w1 G1 a1,Rel base U M0 w0 ν M nt w1 S1 G1 a1->(Gh U w G).le (Gh U w1 G1)->Q .normal a1 w1:=by intro hp w1 G1 a1 R1 v1;obtain⟨G2,R2,v2⟩:=axD R1 hM hp;exact hn w1 G2 a1 R2 (v1.trans' v2)
  simp only[KZ] at hr;cases draw with
  |false=>simp only[aK] at h;exact wp_region (avP hK hnt R hr (hfin h))
  |true=>
   simp only at h;cases hc:(X.P.follows .mixedOrders &&(backOk ops && ZC ops (Region.before ops) L)) with
   |false=>simp[hc] at h
   |true=>
    simp only[hc,aK] at h;simp only[xw] at hc;obtain⟨hm,hb,hd⟩:=hc;obtain⟨T,e,ht,hmp⟩:=alZ hr;simp only[List.append_nil] at e;subst e;have hok:Ok ops T:=by have:=afD hd;rw[List.pairwise_reverse] at this;exact this
    have hlen:T.length=ops.size:=by have:=congrArg List.length hmp;simpa using this
    have hR':Rel base U M0 w0 ν M nt {w with drawn:=w.drawn+1} S G a:=by have ok:=R.at_.ok;have fr:=R.at_.fr;have kp:=fr.keep;exact⟨⟨⟨ok.cell,ok.dj,ok.djE,ok.nd,ok.ndE,ok.lt,ok.up,ok.bs,ok.none_,ok.out_⟩,R.at_.E,R.at_.out,⟨⟨kp.os,kp.tape,kp.output,kp.size,kp.block⟩,fr.fr⟩⟩,R.tm,R.size,R.defers,R.imp⟩
    refine wp_region_any hm (any_ok hK hnt hb ops.size (L:=T) ak (by simp) ?_ ?_ ?_ hok ht hR' ?_)
    ·intro k hk;simp[Array.getD] at hk
    ·intro i hi;simp[Array.getD,hi,hmp]
    ·rw[hmp];exact List.nodup_range
    ·intro w' G' a' R' v';exact hfin h w' G' a' R' v'
end
section
variable {base:Nat} {U:Nat->Prop} {w:World} {X:Ctx}
def avU{f i:Nat}{fl:Bool}{m:Mem}{G:GS}{v v':V}{g:Value}{N N1 N2 E:List Nat}(hg:Gi base U w m G)(ho:G.out=[])(hN:N=N1++N2)(hE:(N++E).Perm G.E)
  (hq:match JW X.UO f i with
   |1=>∃x,v=.d x/\ow (dA w) (Gh U w G) x g N1
   |_=>N1=[]/\aO G.μ m (Gh U w G) v g) {m':Mem} {l l':Log} (h:(asx X.UO f i fl v).run m l=some (v',m',l')):
  ∃G',Gi base U w m' G'/\Zq m G m' G'/\(N2++E).Perm G'.E/\G'.out=[]/\aO G'.μ m' (Gh U w G') v' g:=by
 subst hN;rw[JR] at hE;unfold asx at h;split at hq
 ·rename_i hmo;obtain⟨x,rfl,hx⟩:=hq;rw[hmo] at h;simp only at h;have hdef:∀y,ow (dA w) (Gh U w G) y g N1->(Pure.pure (V.d (roD y)):Acc V).run m l=some (v',m',l')->
    ∃G',Gi base U w m' G'/\Zq m G m' G'/\(N2++E).Perm G'.E/\G'.out=[]/\aO G'.μ m' (Gh U w G') v' g:=by
   intro y hy h;obtain⟨rfl,rfl,rfl⟩:=Zw h;obtain⟨d1,d2,d3⟩:=hg.ah3 hE;refine⟨_,d1,d2,List.Perm.refl _,ho, ?_⟩;simp only[aO];exact axg (d3 hy)
  split at h
  ·rename_i s rows he;cases he;replace h:=aj h;obtain⟨x1,m1,l1,h1,h⟩:=h;obtain⟨rfl,rfl,rfl⟩:=Zw h;obtain⟨G1,g1,s1⟩:=alI hg (λr hr=>by rw[ho] at hr;simp at hr) hE hx h1;exact⟨G1,g1.ok,g1.le,by rw[g1.E],g1.out.trans ho,s1⟩
  ·rename_i y hne he;cases he;exact hdef _ hx h
  ·exact aF h
 ·rename_i hmo;obtain⟨rfl,hs⟩:=hq;split at h
  ·rename_i e;exact absurd e hmo
  ·obtain⟨rfl,rfl,rfl⟩:=Zw h;exact⟨G,hg,Zq.refl _ _,by simpa using hE,ho,hs⟩
def aiu{f:Nat}:∀{vs:List V} {i:Nat} {ts:List TypeId} {gs:List Value} {m:Mem} {G:GS} {N E:List Nat} (_:Gi base U w m G) (_:G.out=[]) (_:(N++E).Perm G.E)
  (_:VU X.UO f G.μ m (dA w) (Gh U w G) i vs gs N) {tm:mD} {m':Mem} {l l':Log} (_:(ac2 X f i ts vs).run m l=some (tm,m',l')),
  ∃G',Came base U w m G m' G' E/\∀t v,get t tm=some v->∃k g,t=i+k/\gs[k]? =some g/\aO G'.μ m' (Gh U w G') v g
 |[],i,ts,gs,m,G,N,E,hg,ho,hE,hq,tm,m',l,l',h=>by simp only[ac2,run_pure,jF,nT] at h;obtain⟨rfl,rfl,rfl⟩:=h;obtain⟨d1,d2,_⟩:=hg.ah3 hE;exact⟨_,⟨d1,d2,rfl,ho⟩,λt v ht=>by simp[get] at ht⟩
 |v::vs,i,ts,gs,m,G,N,E,hg,ho,hE,hq,tm,m',l,l',h=>by
  simp only[VU] at hq;obtain⟨g,gs',N1,N2,rfl,hN,q1,q2⟩:=hq;simp only[ac2] at h;replace h:=aj h;obtain⟨v1,m1,l1,h1,h⟩:=h;replace h:=aj h;obtain⟨r,m2,l2,h2,h⟩:=h;obtain⟨rfl,rfl,rfl⟩:=Zw h;obtain⟨G1,g1,le1,e1,o1,s1⟩:=avU hg ho hN hE q1 h1;have q2':=XV (A:=X.UO) (f:=f) le1.mem le1.view (H':=dA w) (λ_ _=>rfl) q2;obtain⟨G2,c2,s2⟩:=aiu g1 o1 e1 q2' h2;refine⟨G2,⟨c2.ok,le1.trans c2.le,c2.E,c2.out⟩,λt u ht=> ?_⟩;simp only[get] at ht
  by_cases hti:t=i
  ·subst hti;simp only[Nat.beq_refl,aK,jF] at ht;subst ht;exact⟨0,g,by simp,rfl,c2.le.aO s1⟩
  ·rw[uV hti] at ht;simp only[bg] at ht;obtain⟨k,g',e,hk,hs⟩:=s2 t u ht;exact⟨k+1,g',ak,by simpa using hk,hs⟩
def afE{A:Adv}{f:Nat}{μ:Nat->Value}{m:Mem}{H:Heap}{h:View}:∀{vs:List V} {i:Nat} {gs:List Value} {N:List Nat},VU A f μ m H h i vs gs N->gs.length=vs.length
 |[],_,_,_,q=>by simp only[VU] at q;simp[q.1]
 |v::vs,i,_,_,q=>by simp only[VU] at q;obtain⟨g,gs',N1,N2,rfl,_,_,q2⟩:=q;simp[afE q2]
def Xy{H:Heap}{h:View}:∀{cs:List Cell} {gs:List Value} {N:List Nat},cellsB H h cs gs N->gs.length=cs.length
 |[],_,_,q=>by simp[q.1]
 |c::cs,_,_,⟨g,gs',N1,N2,e,_,_,q⟩=>by subst e;simp[Xy q]
def aiv{H:Heap}{h:View}{c:Cell}{g:Value}{N:List Nat}(q:ao6 H h c g N):sameKind c c:=by
 cases c with
 |box t vs=>exact rfl
 |arr fz fl ver s rows=>obtain⟨_,hv,_⟩:=q;exact⟨hv,hv,rfl,rfl⟩
 |dead=>exact q
 |VG _ _ _=>exact q
 |AQ _ _=>exact q
 |zy _ _ _ _ _=>exact q
def aeo{H:Heap}{h:View}{m:Mem}:∀{cs:List Cell} {k:Nat} {gs:List Value} {N:List Nat},(∀i,get (sG+(k+i)) m=cs[i]?)->cellsB H h cs gs N->kinds m ((List.range' k cs.length).map (sG+ ·)) cs
 |[],k,gs,N,_,_=>by simp[kinds]
 |c::cs,k,_,_,hm,⟨g,gs',N1,N2,e,_,q1,q2⟩=>by rw[mQ,List.range'_succ,PO];refine⟨c,c,cs,rfl,by have:=hm 0;simpa using this,aiv q1,aeo (λi=> ?_) q2⟩;have:=hm (i+1);rw[show k+1+i=k+(i+1) by omega];simpa using this
def aiw(n:Nat):xB n=(List.range' 0 n).map (sG+ ·):=by rw[xB,List.range_eq_range']
def abt(n:Nat):(xB n).Nodup:=by unfold xB;exact List.Pairwise.map _ (λa b h e=>h (Nat.add_left_cancel e)) List.nodup_range
def afF{n i:Nat}(h:i<n):(xB n)[i]? =some (sG+i):=by simp[xB,h]
def aix(n:Nat):(xB n).length=n:=by simp[xB]
def afG(gs:List Value):(xB gs.length).map (impμ gs)=gs:=by
 apply List.ext_getElem?;intro i;rw[List.getElem?_map]
 by_cases h:i<gs.length
 ·rw[afF h];simp[impμ,h]
 ·rw[List.getElem?_eq_none (by rw[aix];omega),List.getElem?_eq_none ak];rfl
def UY:∀{cs:List Cell} {k r:Nat} {c:Cell},get r (uF k cs)=some c->∃i,r=sG+(k+i)/\cs[i]? =some c
 |[],_,_,_,h=>by simp[uF,get] at h
 |c'::cs,k,r,c,h=>by
  simp only[uF,get] at h
  by_cases e:r=sG+k
  ·subst e;simp only[Nat.beq_refl,aK,jF] at h;exact⟨0,by simp,by simp[h]⟩
  ·rw[uV e] at h;simp only[bg] at h;obtain⟨i,h1,h2⟩:=UY h;exact⟨i+1,ak,by simpa using h2⟩
def axF{f:Nat}{fn:Func}{args:List V}{cells:List Cell}{gargs jD:List Value}{N1 N2:List Nat}(hG:Given X base U w f args cells gargs jD N1 N2){tm:mD}{m':Mem}{l':Log}
  (h:(entry X f fn args cells).run (uF 0 cells) .none=some (tm,m',l')) (hn:args.length<=fn.ntmps):
  ∃G,Rel base U (N1++N2) w (impμ jD) (uF 0 cells) fn.ntmps w ⟨tm,m'⟩ G {tmps:=gargs.toArray++Array.replicate (fn.ntmps - gargs.toArray.size) undef,defers:=[]}:=by
 simp only[entry] at h;replace h:=aj h;obtain⟨_,m1,l1,h1,h⟩:=h;have hlen:=Xy hG.cells;have aI9:∀b,excl (λ_=>[]) (N1++N2) b↔b∈N1++N2:=by
  intro b;constructor
  ·rintro(hb|⟨r,hb⟩)
   ·exact hb
   ·simp at hb
  ·exact λhb=> .inl hb
 have hg0:Gi base U w (uF 0 cells) ⟨impμ jD,λ_=>[],N1++N2,xB cells.length⟩:=by
  refine⟨?_, ?_, ?_, ?_,hG.nd, ?_,hG.up,hG.bs, ?_, ?_⟩
  ·intro r c hr hro;exfalso;apply hro;obtain⟨i,e,hi⟩:=UY hr;have hil:i<cells.length:=(PN.1 hi).1;show r∈xB cells.length;rw[e,xB];exact List.mem_map.2 ⟨0+i,List.mem_range.2 ak,rfl⟩
  ·intro r r' _ b hb;simp at hb
  ·intro r b hb;simp at hb
  ·intro r;simp
  ·intro b hb;exact hG.lt b ((aI9 b).1 hb)
  ·intro r _;rfl
  ·intro r _;rfl
 have hv:(view w U (· ∈N1++N2)).le (Gh U w ⟨impμ jD,λ_=>[],N1++N2,xB cells.length⟩):=Vd (λ_ x=>x) (λb hb=>(aI9 b).1 hb);have hk0:kinds (uF 0 cells) (xB cells.length) (cells.drop 0):=by rw[List.drop_zero,aiw];exact aeo (λi=>by rw[Nat.zero_add];exact Xc cells i) hG.cells
 obtain⟨G1,c1⟩:=ah8 (i:=0) (N:=N2) (E:=N1) hg0 (abt _) rfl hk0 List.perm_append_comm (by rw[List.drop_zero,<-hlen,afG];exact Ur hv hG.cells) h1;obtain⟨G2,c2,s2⟩:=aiu (N:=N1) (E:=[]) c1.ok c1.out (by rw[c1.E];simp) (XV c1.le.mem (hv.trans' c1.le.view) (λ_ _=>rfl) hG.args) h;have hal:=afE hG.args;refine⟨G2,⟨c2.ok,c2.E,c2.out,⟨Keep.refl _ _,λb hb=> .inl ((aI9 b).1 (c1.le.ex b (c2.le.ex b hb)))⟩⟩, ?_, ?_,rfl,wG c1.le.mem c2.le.mem⟩
 ·intro t v ht;obtain⟨k,g,e,hk,hs⟩:=s2 t v ht;have hkl:k<gargs.length:=(PN.1 hk).1;have ht':t<(gargs.toArray++Array.replicate (fn.ntmps - gargs.toArray.size) undef).size:=by simp;omega
  refine⟨ht', ?_⟩;have:(gargs.toArray++Array.replicate (fn.ntmps - gargs.toArray.size) undef).getD t undef=g:=by rw[Array.getD_eq_getD_getElem?,Array.getElem?_append_left (by simp;omega)];have:t=k:=ak;subst this;simp[hk]
  simp only[this];exact hs
 ·simp;omega
end
section
variable {base:Nat} {U:Nat->Prop} {w:World} {X:Ctx} {P:Program}
def anO(tmps:Array Value):ResultVar->Sem Value
 | .tmp t=>pure (tmps.getD t undef)
 | .cell a t=>do loadVar t (<-asAddr (tmps.getD a undef))
def abu{α:Type}(f:α->Sem Value):∀(l:List α) (gs:List Value),(∀(i:Nat) x,l[i]? =some x->∃g,gs[i]? =some g/\(f x).run P w=.ok g w)->l.length=gs.length->(l.mapM f).run P w=.ok gs w
 |[],gs,_,hl=>by have:gs=[]:=List.length_eq_zero_iff.1 hl.symm;subst this;rfl
 |x::l,gs,h,hl=>by
  cases gs with
  |nil=>simp at hl
  |cons g gs=>obtain⟨g',h1,h2⟩:=h 0 x rfl;simp only[List.getElem?_cons_zero,jF] at h1;subst h1;have ih:=abu f l gs (λi y hy=>by simpa using h (i+1) y (by simpa using hy)) (by simpa using hl);rw[List.mapM_cons];simp only[Sem.run_bind,h2,Result.andThen_ok,ih];rfl
def afH{fn:Func}{tmps:Array Value}{gs:List Value}(h:∀(i:Nat) x,fn.results.toList[i]? =some x->∃g,gs[i]? =some g/\(anO tmps x).run P w=.ok g w)(hl:fn.results.toList.length=gs.length):
  (results fn tmps).run P w=.ok (ab6 gs) w:=by
 have hm:=abu (P:=P) (w:=w) (anO tmps) fn.results.toList gs h hl;have e:results fn tmps=(do
  let vs<-fn.results.mapM (anO tmps)
  pure (if h:vs.size=1 then vs[0] else .tuple vs)):=by
  unfold results
  first
   |rfl
   |(congr 1;done)
   |(congr 1;congr 1;done)
 rw[e,Array.mapM_eq_mapM_toList];simp only[map_eq_pure_bind,Sem.run_bind,hm,Result.andThen_ok,Sem.run_pure];congr 1;unfold ab6;cases gs with
 |nil=>rfl
 |cons g gs=>cases gs with
  |nil=>simp
  |cons _ _=>simp
def apq{m0:Mem}{G:GS}{T:TypeId}{v:V}{g:Value}(hg:Gi base U w m0 G)(ho:G.out=[])(hx:aO G.μ m0 (Gh U w G) v g){row:Row}{m':Mem}{l l':Log}(h:(ahQ T v).run m0 l=some (row,m',l')):
  ∃G' N g',P6 base U w m0 G m' G' N/\g=g'/\∃b a N1,g'=.pointer (some ⟨b,0,none⟩)/\dA w b=some (.cells a T (0,0))/\iW (dA w) (Gh U w G') row a.toList N1/\row.length=a.size/\N=b::N1:=by
 unfold ahQ at h;split at h
 ·rename_i r off;replace h:=aj h;obtain⟨c,m2,l2,h2,h⟩:=h;rw[uG] at h2;cases h2;cases hc:get r m0 with
  |none=>rw[hc] at h;exact aF h
  |some c=>
   rw[hc] at h;cases c with
   |box T' cs=>
    simp only at h;replace h:=aj h;obtain⟨_,m2,l2,h2,h⟩:=h;obtain⟨hck,rfl,rfl⟩:=fJ h2;simp only[xw] at hck;have e1:=yV hck.1;have e2:=yV hck.2;subst e1 e2;replace h:=aj h;obtain⟨_,m3,l3,h3,h⟩:=h;rw[DK] at h3;cases h3;have hr:r ∉ G.out:=by simp[ho]
    obtain⟨b,a,q1,q2,q3,q4⟩:=hg.cell r _ hc hr;simp only[aO,hc] at hx;obtain⟨_,b',hμ,rfl⟩:=hx;rw[hμ] at q1;cases q1;have hbF:b∈G.F r:=by rw[q4];simp
    have hle:=EM (μ:=G.μ) (μ':=G.μ) (c':=.dead) (λ_ _=>rfl) (λc h=>by rw[hc] at h;cases h;trivial);obtain⟨k1,k2⟩:=hg.set r .dead G.μ [] (G.E++[b]) G.out (by
     simpa using List.nodup_append.2 ⟨hg.ndE,by simp,λx hx y hy e=>by simp only[List.mem_singleton] at hy;subst hy;subst e;exact hg.djE r _ hbF hx⟩) (by
     simp only[List.nil_append,List.mem_append,List.mem_singleton];rintro x (hx|rfl)
     ·exact .inr hx
     ·exact .inl hbF) hle (λ_ _=>rfl) (λ_ _=>Iff.rfl) (λ_=>rfl) (λ_ _=>rfl)
    have t0:P6 base U w _ G _ ⟨G.μ,RZ G.F r [],G.E++[b],G.out⟩ [b]:=⟨k1,k2,rfl,rfl,rfl⟩
    obtain⟨G',N,t1,p1,hl⟩:=VR k1 (k2.dn q3) ho h;exact⟨G',[b]++N,_,t0.trans t1,rfl,b,a,N,rfl,q2,p1,by rw[hl,<-jG q3,Array.length_toList],rfl⟩
   |_=>exact aF h
 ·exact aF h
def avV{m:Mem}{G:GS}{tm:mD}{a:Act}{r:ResultVar}{t:TypeId}(hg:Gi base U w m G)(ho:G.out=[])(hT:ac7 G.μ m (Gh U w G) tm a){row:Row}{m':Mem}{l l':Log}(h:(anE P tm r t).run m l=some (row,m',l')):
  ∃G' N g,P6 base U w m G m' G' N/\(anO a.tmps r).run P w=.ok g w/\ah5 P (dA w) (Gh U w G') t row g N:=by
 cases r with
 |tmp x=>
  simp only[anE] at h;have hx:=ZO (P:=P) hT 0 (.tmp x);simp only[ev] at hx;cases hpt:ahI P t with
  |some T=>rw[hpt] at h;simp only[ah5,hpt];obtain⟨G',N,g,t1,hg1,q1⟩:=apq hg ho hx h;exact⟨G',N,g,t1,by rw[<-hg1];rfl,q1⟩
  |none=>
  rw[hpt] at h;simp only[Qg hpt];have hgo:∀v:V,aO G.μ m (Gh U w G) v (a.eval (.tmp x))->Sv P t=false->(Qb [v]).run m l=some (row,m',l')->
    ∃G' N g,P6 base U w m G m' G' N/\(anO a.tmps (.tmp x)).run P w=.ok g w/\∃cs,valOf P t cs g/\iW (dA w) (Gh U w G') row cs N/\row.length=cs.length:=by
   intro v hv ht h;obtain⟨G',N,t1,q1,hl⟩:=VR hg (vs:=[v]) (gs:=[a.eval (.tmp x)]) (by simp only[dn];exact⟨_,_,rfl,hv,rfl⟩) ho h;exact⟨G',N,a.eval (.tmp x),t1,rfl,[a.eval (.tmp x)],by simp[valOf,ht],q1,by rw[hl];rfl⟩
  cases ht:Sv P t with
  |true=>
   rw[ht] at h;cases hv:aa7 x tm with
   |agg cs=>rw[hv] at h hx;simp only[aO] at hx;obtain⟨arr,e,hs⟩:=hx;obtain⟨G',N,t1,q1,hl⟩:=VR hg hs ho h;refine⟨G',N,_,t1,rfl,arr.toList, ?_,q1,by rw[hl,jG hs]⟩;simp only[valOf,ht,if_true];exact e
   |_=>rw[hv] at h;exact aF h
  |false=>
   rw[ht] at h;cases hv:aa7 x tm with
   |agg cs=>rw[hv] at h;exact aF h
   |_=>rw[hv] at h hx;exact hgo _ hx ht h
 |cell y T=>
  simp only[anE] at h;have hx:=ZO (P:=P) hT 0 (.tmp y);simp only[ev] at hx;split at h
  ·rename_i r he;rw[he] at hx;replace h:=aj h;obtain⟨c,m2,l2,h2,h⟩:=h;rw[uG] at h2;cases h2;cases hc:get r m with
   |none=>rw[hc] at h;exact aF h
   |some c=>
    rw[hc] at h;cases c with
    |box T' cs=>
     simp only at h;replace h:=aj h;obtain⟨_,m2,l2,h2,h⟩:=h;obtain⟨hck,rfl,rfl⟩:=fJ h2;simp only[xw,Bool.or_eq_true] at hck;obtain⟨⟨⟨hTt,hlen⟩,hok,hagg⟩,aJa⟩:=hck;have aJa:ahI P t=none:=by simpa using aJa
     have hTt:=yV hTt;have hlen:=yV hlen;subst hTt;simp only[aO,hc] at hx;obtain⟨_,b,hμ,hg0⟩:=hx;obtain⟨b',arr,e1,e2,e3,e4⟩:=hg.cell r _ hc (by rw[ho];simp);rw[hμ] at e1;cases e1;obtain⟨G',N,t1,q1,hl⟩:=VR hg e3 ho h;have hal:=jG e3;obtain⟨g,hvg⟩:∃g,valOf P T arr.toList g:=by
      unfold valOf;cases ha:Sv P T with
      |true=>exact⟨_,rfl⟩
      |false=>
       have h1:cs.length=1:=by
        rcases hagg with h1|h1
        ·rw[ha] at h1;cases h1
        ·exact yV h1
       cases hr:arr.toList with
       |nil=>rw[hr] at hal;simp[h1] at hal
       |cons g r=>
        cases r with
        |nil=>exact⟨g,rfl⟩
        |cons _ _=>rw[hr] at hal;simp[h1] at hal
     refine⟨G',N,g,t1, ?_,(Qg aJa).2 ⟨arr.toList,hvg,q1,by rw[hl,hal]⟩⟩;have hrun:=Pq (P:=P) (w:=w) (t:=T) (b:=b) (off:=0) (cs:=arr.toList) (g:=g) hok (by rw[hal,hlen]) (by intro j v hj;have hH:w.heap[b]? =some (.cells arr T' (0,0)):=e2;simp only[World.cell?,hH,Nat.zero_add];simpa using hj) hvg;simp only[anO];have hg0:a.tmps.getD y undef=.pointer (some ⟨b,0,none⟩):=hg0;rw[hg0];simpa[Instr.loadAt,Instr.sureAddr,asAddr] using hrun
    |_=>exact aF h
  ·exact aF h
def aiy{tm:mD}{a:Act}:∀{rs:List ResultVar} {ts:List TypeId} {m:Mem} {G:GS} (_:Gi base U w m G) (_:G.out=[]) (_:ac7 G.μ m (Gh U w G) tm a) {rows:List Row} {m':Mem} {l l':Log}
  (_:(aaU P tm rs ts).run m l=some (rows,m',l')),∃G' N gs,P6 base U w m G m' G' N/\(∀(i:Nat) x,rs[i]? =some x->∃g,gs[i]? =some g/\(anO a.tmps x).run P w=.ok g w)/\rs.length=gs.length/\
   Xd P (dA w) (Gh U w G') ts rows gs N
 |[],[],m,G,hg,ho,hT,rows,m',l,l',h=>by simp only[aaU,run_pure,jF,nT] at h;obtain⟨rfl,rfl,rfl⟩:=h;exact⟨G,[],[],P6.same hg,λi x h=>by simp at h,rfl,rfl,rfl,rfl⟩
 |r::rs,t::ts,m,G,hg,ho,hT,rows,m',l,l',h=>by
  simp only[aaU] at h;replace h:=aj h;obtain⟨row,m1,l1,h1,h⟩:=h;replace h:=aj h;obtain⟨rows',m2,l2,h2,h⟩:=h;obtain⟨rfl,rfl,rfl⟩:=Zw h;obtain⟨G1,N1,g,t1,r1,v1⟩:=avV hg ho hT h1;obtain⟨G2,N2,gs,t2,r2,e2,q2⟩:=aiy t1.ok (t1.out.trans ho) (λt v hv=>⟨(hT t v hv).1,t1.le.aO (hT t v hv).2⟩) h2;refine⟨G2,N1++N2,g::gs,t1.trans t2, ?_,by simp[e2],row,rows',g,gs,N1,N2,rfl,rfl,rfl,alJ t2.le.view (λ_ _=>rfl) v1,q2⟩;intro i x hx;cases i with
  |zero=>simp only[List.getElem?_cons_zero,jF] at hx;subst hx;exact⟨g,rfl,r1⟩
  |succ i=>simpa using r2 i x (by simpa using hx)
 |[],_::_,_,_,_,_,_,_,_,_,_,h=>aF h
 |_::_,[],_,_,_,_,_,_,_,_,_,h=>aF h
def avW{μ μ':Nat->Value}{r:Nat}{c c' d:Cell}(hc:sameKind c c)(h:yF μ μ' r c c')(k:sameKind c' d):μ' r=μ r/\sameKind c d:=by
 cases c<;>cases c'<;>cases d<;>simp only[sameKind,yF] at hc h k|-
 ·exact⟨h.2,h.1.symm.trans k⟩
 ·obtain⟨a1,a2,a3,a4⟩:=k;obtain⟨b1,b2,b3⟩:=h;obtain⟨c1,_,_,_⟩:=hc;have:=b3 (c1.trans a1.symm);exact⟨this.1,c1,a2,b2.symm.trans a3,this.2.symm.trans a4⟩
 all_goals trivial
def al0{μ μ':Nat->Value}{m0 m1:Mem}(hle:Ep μ m0 μ' m1):∀{rs:List Nat} {cs ds:List Cell},kinds m0 rs cs->kinds m1 rs ds->(∀c,c∈cs->sameKind c c)->(∀(i r:Nat) c,rs[i]? =some r->cs[i]? =some c->get r m0=some c)->rs.map μ'=rs.map μ/\aue cs ds
 |[],cs,ds,h,k,_,_=>by simp only[kinds] at h k;subst h;subst k;exact⟨rfl,rfl⟩
 |r::rs,cs,ds,⟨c,c',cs',e1,h1,h2,h3⟩,⟨d,d',ds',e2,k1,k2,k3⟩,hs,hg=>by subst e1;subst e2;have hc:=hg 0 r c' rfl rfl;obtain⟨c2,q1,q2⟩:=hle r c' hc;rw[k1] at q1;cases q1;obtain⟨p1,p2⟩:=avW (hs c' (by simp)) q2 k2;obtain⟨r1,r2⟩:=al0 hle h3 k3 (λc hc=>hs c (by simp[hc])) (λi r c hr hc=>hg (i+1) r c (by simpa using hr) (by simpa using hc));exact⟨by simp[p1,r1],d',ds',rfl,p2,r2⟩
def afI{H:Heap}{h:View}:∀{cs:List Cell} {gs:List Value} {N:List Nat},cellsB H h cs gs N->∀c,c∈cs->sameKind c c
 |[],_,_,_,c,hc=>by simp at hc
 |c::cs,_,_,⟨g,gs',N1,N2,e,_,q1,q2⟩,d,hd=>by
  rcases List.mem_cons.1 hd with rfl|hd
  ·exact aiv q1
  ·exact afI q2 d hd
def axG{f:Nat}{fn:Func}{args:List V}{cells outs:List Cell}{gargs jD:List Value}{N1 N2:List Nat}{w':World}(hG:Given X base U w f args cells gargs jD N1 N2){S:St}{G:GS}{a:Act}{nt:Nat}
  (R:Rel base U (N1++N2) w (impμ jD) (uF 0 cells) nt w' S G a) {rows:List Row} (h:leave X fn cells.length S=some (rows,outs)):
  ∃gs M1 M2,(results fn a.tmps).run X.P w'=.ok (ab6 gs) w'/\Did X.P U w w' (N1++N2) fn.resultTypes.toList cells outs jD rows gs M1 M2:=by
 simp only[leave] at h;split at h
 ·rename_i r m' l' hr;simp only[jF] at h;subst h;replace hr:=aj hr;obtain⟨a7W,m1,l1,h1,hr⟩:=hr;replace hr:=aj hr;obtain⟨cs1,m2,l2,h2,hr⟩:=hr;simp only[run_pure,jF,nT] at hr;obtain⟨⟨rfl,rfl⟩,rfl,rfl⟩:=hr;obtain⟨G1,Nr,gs,t1,r1,e1,q1⟩:=aiy R.at_.ok R.at_.out R.tm h1;have ho1:G1.out=[]:=t1.out.trans R.at_.out;obtain⟨G2,Nc,t2,q2,kd2⟩:=aeh t1.ok (abt cells.length) (λr hr=>⟨hr,by rw[ho1];simp⟩) (λr hr=>by rw[ho1] at hr;simp at hr) h2;have hE2:G2.E=Nr++Nc:=by rw[t2.E,t1.E,R.at_.E];rfl
  have hlen:=Xy hG.cells;have hk0:kinds (uF 0 cells) (xB cells.length) cells:=by rw[aiw];exact aeo (λi=>by rw[Nat.zero_add];exact Xc cells i) hG.cells
  obtain⟨b1,b2⟩:=al0 (wG R.imp t1.le.mem) hk0 kd2 (afI hG.cells) (by intro i r c hr hc;have hi:i<cells.length:=(PN.1 hc).1;rw[afF hi] at hr;cases hr;rw[Xc];exact hc);have hv:(Gh U w' G2).le (view w' U (· ∈Nc++Nr)):=Vd (λ_ x=>x) (λb hb=> .inl (by rw[hE2];simp only[List.mem_append] at hb|-;exact hb.symm));refine⟨gs,Nc,Nr,afH r1 e1,R.at_.fr.keep, ?_, ?_,b2, ?_, ?_⟩
  ·have:=t2.ok.ndE;rw[hE2] at this;exact(List.perm_append_comm.nodup_iff).1 this
  ·intro b hb;have hbE:b∈G2.E:=by rw[hE2];simp only[List.mem_append] at hb|-;exact hb.symm
   exact⟨R.at_.fr.fr b (t1.le.ex b (t2.le.ex b (.inl hbE))),(t2.ok.lt b (.inl hbE)).1⟩
  ·rw[b1,<-hlen,afG] at q2;exact Ur hv q2
  ·exact VW (t2.le.view.trans' hv) (λ_ _=>rfl) q1
 ·cases h
def aCn{K:lN}(hK:Sound X K){f:FuncId}{fn:Func}{args:List V}{cells:List Cell}{rows:List Row}{outs:List Cell}(hf:X.P.funcs[f]? =some fn)(h:body X K f args cells=some (rows,outs))
  {gargs jD:List Value} {N1 N2:List Nat} (hG:Given X base U w f args cells gargs jD N1 N2):
  Calls X.P f gargs.toArray w λe w'=>∃gs M1 M2,e=.returned (ab6 gs)/\Did X.P U w w' (N1++N2) fn.resultTypes.toList cells outs jD rows gs M1 M2:=by
 simp only[body,hf] at h;cases hb:fn.body with
 |none=>simp[hb] at h
 |some c=>
  simp only[hb] at h;cases hn:(Nat.ble cells.length sG && Nat.ble args.length fn.ntmps) with
  |false=>simp[hn] at h
  |true=>
   simp only[hn,Bool.not_true,bg] at h;simp only[xw] at hn;have hn1:=Nat.le_of_ble_eq_true hn.1;have hn2:=Nat.le_of_ble_eq_true hn.2;split at h
   ·rename_i tm m' l' he;obtain⟨G,R⟩:=axF hG he hn2;have hM:∀r c,get r (uF 0 cells)=some c->Qd r=true:=by intro r c hr;obtain⟨i,e,hi⟩:=UY hr;have hil:i<cells.length:=(PN.1 hi).1;subst e;simp only[Qd,xw];exact⟨Nat.ble_eq_true_of_le ak,by rw[Nat.blt_eq];omega⟩
    have hnt:Zp X.P f=fn.ntmps:=by simp[Zp,hf]
    have aLQ:=avT (base:=base) (U:=U) (M0:=N1++N2) (w0:=w) (ν:=impμ jD) ⟨hK,hG.gl⟩ hnt hM;have hfin:∀ex S,leave X fn cells.length S=some (rows,outs)->(ex=Ex.normal\/ex=Ex.ret)->∀w' G' a',Rel base U (N1++N2) w (impμ jD) (uF 0 cells) fn.ntmps w' S G' a'->(Gh U w G).le (Gh U w' G')->
      bodyPost X.P fn (λe w'=>∃gs M1 M2,e=.returned (ab6 gs)/\Did X.P U w w' (N1++N2) fn.resultTypes.toList cells outs jD rows gs M1 M2) (aI8 ex) a' w':=by
     intro ex S hl hex w' G' a' R' _;obtain⟨gs,M1,M2,hr,hd⟩:=axG hG R' hl;rcases hex with rfl|rfl<;>exact⟨R'.defers,_,hr,gs,M1,M2,rfl,hd⟩
    split at h
    ·rename_i S hd;exact calls_of_wp hf hb (axE aLQ c R hd (hfin _ _ h (.inl rfl)))
    ·rename_i S hd;exact calls_of_wp hf hb (axE aLQ c R hd (hfin _ _ h (.inr rfl)))
    ·cases h
   ·cases h
end
def anP(X:Ctx):Prop:=∀(f:FuncId) (p:List V->List Cell->Option (List Row×List Cell)) (fn:Func) (args:List V) (cells:List Cell) (rows:List Row) (outs:List Cell),X.Zx f=some p->X.P.funcs[f]? =some fn->fn.body.isSome=true->p args cells=some (rows,outs)->
 ∀(base:Nat) (U:Nat->Prop) (w:World) (gargs jD:List Value) (N1 N2:List Nat),Given X base U w f args cells gargs jD N1 N2->
  Calls X.P f gargs.toArray w λe w'=>∃gs M1 M2,e=.returned (ab6 gs)/\Did X.P U w w' (N1++N2) fn.resultTypes.toList cells outs jD rows gs M1 M2
def apr{X:Ctx}(hp:anP X):∀n,Sound X (ZF X n)
 |0=>by intro f fn args cells rows outs hf hb h;simp[ZF] at h
 |n+1=>by
  intro f fn args cells rows outs hf hb h base U w gargs jD N1 N2 hG;simp only[ZF] at h;cases hx:X.Zx f with
  |some p=>rw[hx] at h;exact hp f p fn args cells rows outs hx hf hb h base U w gargs jD N1 N2 hG
  |none=>rw[hx] at h;exact aCn (apr hp n) hf h hG
def aCo{X:Ctx}(hp:anP X):Sound X (call X):=by intro f fn args cells rows outs hf hb h base U w gargs jD N1 N2 hG;obtain⟨n,hn⟩:=X6 h;exact apr hp n f fn args cells rows outs hf hb hn base U w gargs jD N1 N2 hG
def KLe(K K':lN):Prop:=∀f args cells r,K f args cells=some r->K' f args cells=some r
def KLe.refl(K:lN):KLe K K:=λ_ _ _ _ h=>h
def KLe.trans{K1 K2 K3:lN}(h:KLe K1 K2)(k:KLe K2 K3):KLe K1 K3:=λf a c r q=>k f a c r (h f a c r q)
def BI{α:Type}(A:lN->Acc α):Prop:=∀K K',KLe K K'->∀m l r,(A K).run m l=some r->(A K').run m l=some r
def BI.const{α:Type}(a:Acc α):BI λ_=>a:=λ_ _ _ _ _ _ h=>h
def BI.bind{α β:Type}{A:lN->Acc α}{B:lN->α->Acc β}(h:BI A)(k:∀x,BI λK=>B K x):BI λK=>A K>>=B K:=by intro K K' hK m l r hr;obtain⟨y,m',l'⟩:=r;obtain⟨x,m1,l1,h1,h2⟩:=aj hr;rw[run_bind,h K K' hK m l _ h1];exact k x K K' hK m1 l1 _ h2
def BI.op{f:Nat}{args:List V}{cells:List Cell}:BI λK=>op' (K f args cells):=by intro K K' hK m l r hr;obtain⟨x,m',l'⟩:=r;obtain⟨h1,rfl,rfl⟩:=jc hr;simp only;rw[hK f args cells x h1];rfl
def ACt{α:Type}(Kn:Nat->lN)(K:lN)(A:lN->Acc α):Prop:=∀m l r,(A K).run m l=some r->∃n,(A (Kn n)).run m l=some r
def Chain(Kn:Nat->lN):Prop:=∀n,KLe (Kn n) (Kn (n+1))
def Chain.le{Kn:Nat->lN}(h:Chain Kn){n k:Nat}(hk:n<=k):KLe (Kn n) (Kn k):=by
 induction hk with
 |refl=>exact KLe.refl _
 |step _ ih=>exact ih.trans (h _)
section
variable {Kn:Nat->lN} {K:lN} (hc:Chain Kn)
def ACt.const{α:Type}(a:Acc α):ACt Kn K λ_=>a:=λ_ _ _ h=>⟨0,h⟩
include hc in
theorem ACt.bind{α β:Type}{A:lN->Acc α}{B:lN->α->Acc β}(hu:BI A)(ku:∀x,BI λK=>B K x)(h:ACt Kn K A)(k:∀x,ACt Kn K λK=>B K x):ACt Kn K λK=>A K>>=B K:=by intro m l r hr;obtain⟨y,m',l'⟩:=r;obtain⟨x,m1,l1,h1,h2⟩:=aj hr;obtain⟨n1,q1⟩:=h m l _ h1;obtain⟨n2,q2⟩:=k x m1 l1 _ h2;refine⟨max n1 n2, ?_⟩;rw[run_bind,hu _ _ (hc.le (Nat.le_max_left n1 n2)) m l _ q1];exact ku x _ _ (hc.le (Nat.le_max_right n1 n2)) m1 l1 _ q2
theorem ACt.op(hK:∀f args cells r,K f args cells=some r->∃n,Kn n f args cells=some r){f:Nat}{args:List V}{cells:List Cell}:ACt Kn K λK=>op' (K f args cells):=by intro m l r hr;obtain⟨x,m',l'⟩:=r;obtain⟨h1,rfl,rfl⟩:=jc hr;obtain⟨n,hn⟩:=hK f args cells x h1;refine⟨n, ?_⟩;simp only;rw[hn];rfl
end
def axH(X:Ctx)(fn dst f:Nat)(args:List V):BI λK=>acZ X K fn dst f args:=by unfold acZ;refine BI.bind (BI.const _) λg=>BI.bind (BI.const _) λ_=>BI.bind (BI.const _) λargs=>BI.bind (BI.const _) λcells=>BI.bind (BI.const _) fun⟨args,Uo⟩=>BI.bind (BI.const _) λ_=>BI.bind BI.op λout=>BI.const _
def axI{Kn:Nat->lN}{K:lN}(hc:Chain Kn)(hK:∀f args cells r,K f args cells=some r->∃n,Kn n f args cells=some r)(X:Ctx)(fn dst f:Nat)(args:List V):ACt Kn K λK=>acZ X K fn dst f args:=by
 unfold acZ;refine ACt.bind hc (BI.const _) ?_ (ACt.const _) λg=> ?_
 ·exact λg=>BI.bind (BI.const _) λ_=>BI.bind (BI.const _) λargs=>BI.bind (BI.const _) λcells=>BI.bind (BI.const _) fun⟨args,Uo⟩=>BI.bind (BI.const _) λ_=>BI.bind BI.op λout=>BI.const _
 refine ACt.bind hc (BI.const _) ?_ (ACt.const _) λ_=> ?_
 ·exact λg=>BI.bind (BI.const _) λargs=>BI.bind (BI.const _) λcells=>BI.bind (BI.const _) fun⟨args,Uo⟩=>BI.bind (BI.const _) λ_=>BI.bind BI.op λout=>BI.const _
 refine ACt.bind hc (BI.const _) ?_ (ACt.const _) λargs=> ?_
 ·exact λg=>BI.bind (BI.const _) λcells=>BI.bind (BI.const _) fun⟨args,Uo⟩=>BI.bind (BI.const _) λ_=>BI.bind BI.op λout=>BI.const _
 refine ACt.bind hc (BI.const _) ?_ (ACt.const _) λcells=> ?_
 ·exact λg=>BI.bind (BI.const _) fun⟨args,Uo⟩=>BI.bind (BI.const _) λ_=>BI.bind BI.op λout=>BI.const _
 refine ACt.bind hc (BI.const _) ?_ (ACt.const _) fun⟨args,Uo⟩=> ?_
 ·exact fun⟨args,Uo⟩=>BI.bind (BI.const _) λ_=>BI.bind BI.op λout=>BI.const _
 refine ACt.bind hc (BI.const _) ?_ (ACt.const _) λ_=> ?_
 ·exact λ_=>BI.bind BI.op λout=>BI.const _
 exact ACt.bind hc BI.op (λout=>BI.const _) (ACt.op hK) λout=>ACt.const _
def aJb(X:Ctx)(fn:Nat)(tm:mD)(o:Oper):BI λK=>vop X K fn tm o:=by
 obtain⟨dst,op,type,pos,after,guard⟩:=o;cases op<;>try exact BI.const _
 case call c=>
  obtain⟨callee,args,tys⟩:=c;cases callee with
  |value f=>
   simp only[vop];split
   ·exact axH X fn _ _ _
   ·exact BI.const _
  |invoke r m=>exact BI.const _
  |builtin b=>cases b<;>exact BI.const _
 case makeFunc f a b=>cases f<;>exact BI.const _
 case slice a b c d e=>cases e<;>exact BI.const _
def aJc{Kn:Nat->lN}{K:lN}(hc:Chain Kn)(hK:∀f args cells r,K f args cells=some r->∃n,Kn n f args cells=some r)(X:Ctx)(fn:Nat)(tm:mD)(o:Oper):ACt Kn K λK=>vop X K fn tm o:=by
 obtain⟨dst,op,type,pos,after,guard⟩:=o;cases op<;>try exact ACt.const _
 case call c=>
  obtain⟨callee,args,tys⟩:=c;cases callee with
  |value f=>
   simp only[vop];split
   ·exact axI hc hK X fn _ _ _
   ·exact ACt.const _
  |invoke r m=>exact ACt.const _
  |builtin b=>cases b<;>exact ACt.const _
 case makeFunc f a b=>cases f<;>exact ACt.const _
 case slice a b c d e=>cases e<;>exact ACt.const _
def Up{β:Type}(E:lN->Option β):Prop:=∀K K',KLe K K'->∀r,E K=some r->E K'=some r
def Ct{β:Type}(Kn:Nat->lN)(K:lN)(E:lN->Option β):Prop:=∀r,E K=some r->∃n,E (Kn n)=some r
def Up.const{β:Type}(e:Option β):Up λ_=>e:=λ_ _ _ _ h=>h
def Ct.const{β:Type}{Kn:Nat->lN}{K:lN}(e:Option β):Ct Kn K λ_=>e:=λ_ h=>⟨0,h⟩
def Up.bind{α β:Type}{E:lN->Option α}{F:lN->α->Option β}(h:Up E)(k:∀x,Up λK=>F K x):Up λK=>(E K).bind (F K):=by intro K K' hK r hr;simp only[Option.bind_eq_some_iff] at hr|-;obtain⟨x,h1,h2⟩:=hr;exact⟨x,h K K' hK x h1,k x K K' hK r h2⟩
def Ct.bind{α β:Type}{Kn:Nat->lN}{K:lN}(hc:Chain Kn){E:lN->Option α}{F:lN->α->Option β}(hu:Up E)(ku:∀x,Up λK=>F K x)(h:Ct Kn K E)(k:∀x,Ct Kn K λK=>F K x):Ct Kn K λK=>(E K).bind (F K):=by intro r hr;simp only[Option.bind_eq_some_iff] at hr|-;obtain⟨x,h1,h2⟩:=hr;obtain⟨n1,q1⟩:=h x h1;obtain⟨n2,q2⟩:=k x r h2;exact⟨max n1 n2,x,hu _ _ (hc.le (Nat.le_max_left n1 n2)) x q1,ku x _ _ (hc.le (Nat.le_max_right n1 n2)) r q2⟩
def aps(X:Ctx)(fn:Nat)(ops:Array Oper)(i:Nat)(S:St):Up λK=>Eo X K fn ops i S:=by
 intro K K' hK r hr;simp only[Eo] at hr|-;cases ho:ops[i]? with
 |none=>simp[ho] at hr
 |some o=>
  simp only[ho] at hr|-;cases hw:GR ops S.tm o with
  |none=>simp[hw] at hr
  |some bt=>
   obtain⟨b,tm⟩:=bt;cases b with
   |false=>simpa[hw] using hr
   |true=>
    simp only[hw] at hr|-;cases hv:(vop X K fn tm o).run S.mem .none with
    |none=>simp[hv] at hr
    |some q=>rw[aJb X fn tm o K K' hK S.mem .none q hv];rw[hv] at hr;exact hr
def axJ{Kn:Nat->lN}{K:lN}(hc:Chain Kn)(hK:∀f args cells r,K f args cells=some r->∃n,Kn n f args cells=some r)(X:Ctx)(fn:Nat)(ops:Array Oper)(i:Nat)(S:St):Ct Kn K λK=>Eo X K fn ops i S:=by
 intro r hr;simp only[Eo] at hr|-;cases ho:ops[i]? with
 |none=>simp[ho] at hr
 |some o=>
  simp only[ho] at hr|-;cases hw:GR ops S.tm o with
  |none=>simp[hw] at hr
  |some bt=>
   obtain⟨b,tm⟩:=bt;cases b with
   |false=>exact⟨0,by simpa[hw] using hr⟩
   |true=>
    simp only[hw] at hr|-;cases hv:(vop X K fn tm o).run S.mem .none with
    |none=>simp[hv] at hr
    |some q=>obtain⟨n,hn⟩:=aJc hc hK X fn tm o S.mem .none q hv;exact⟨n,by rw[hn];rw[hv] at hr;exact hr⟩
def aep(X:Ctx)(fn:Nat)(ops:Array Oper)(i:Nat)(is:List Nat)(S:St)(L:List (Nat×Log))(K:lN):
  Pn X K fn ops (i::is) S L=(Eo X K fn ops i S).bind λr=>Pn X K fn ops is r.1 ((i,r.2)::L):=by
 simp only[Pn];cases Eo X K fn ops i S with
 |none=>rfl
 |some r=>rfl
def aer(X:Ctx)(fn:Nat)(ops:Array Oper):∀(is:List Nat) (S:St) (L:List (Nat×Log)),Up λK=>Pn X K fn ops is S L
 |[],S,L=>Up.const _
 |i::is,S,L=>by simp only[aep];exact Up.bind (aps X fn ops i S) λr=>aer X fn ops is r.1 _
def al1{Kn:Nat->lN}{K:lN}(hc:Chain Kn)(hK:∀f args cells r,K f args cells=some r->∃n,Kn n f args cells=some r)(X:Ctx)(fn:Nat)(ops:Array Oper):∀(is:List Nat) (S:St) (L:List (Nat×Log)),Ct Kn K λK=>Pn X K fn ops is S L
 |[],S,L=>Ct.const _
 |i::is,S,L=>by simp only[aep];exact Ct.bind hc (aps X fn ops i S) (λr=>aer X fn ops is r.1 _) (axJ hc hK X fn ops i S) λr=>al1 hc hK X fn ops is r.1 _
def adg(X:Ctx)(fn id:Nat)(ops:Array Oper)(draw:Bool)(S:St):Up λK=>KZ X K fn id ops draw S:=aer X fn ops _ S _
def anQ{Kn:Nat->lN}{K:lN}(hc:Chain Kn)(hK:∀f args cells r,K f args cells=some r->∃n,Kn n f args cells=some r)(X:Ctx)(fn id:Nat)(ops:Array Oper)(draw:Bool)(S:St):Ct Kn K λK=>KZ X K fn id ops draw S:=al1 hc hK X fn ops _ S _
def aes(X:Ctx)(fn id:Nat)(ops:Array Oper)(draw:Bool)(S:St)(K:lN):
  region X K fn id ops draw S=(KZ X K fn id ops draw S).bind λr=>bif(match draw with|false=>true|true=>X.P.follows .mixedOrders &&(backOk ops && ZC ops (Region.before ops) r.2)) then prune (X.UO.keep fn id) r.1 else none:=by
 simp only[region];cases KZ X K fn id ops draw S with
 |none=>rfl
 |some r=>rfl
def al2(X:Ctx)(fn id:Nat)(ops:Array Oper)(draw:Bool)(S:St):Up λK=>region X K fn id ops draw S:=by simp only[aes];exact Up.bind (adg X fn id ops draw S) λr=>Up.const _
def avX{Kn:Nat->lN}{K:lN}(hc:Chain Kn)(hK:∀f args cells r,K f args cells=some r->∃n,Kn n f args cells=some r)(X:Ctx)(fn id:Nat)(ops:Array Oper)(draw:Bool)(S:St):Ct Kn K λK=>region X K fn id ops draw S:=by simp only[aes];exact Ct.bind hc (adg X fn id ops draw S) (λr=>Up.const _) (anQ hc hK X fn id ops draw S) λr=>Ct.const _
def aeu{b:St->Option (Ex×St)}:∀{n k:Nat} {S:St} {r:Ex×St},iter b n S=some r->n<=k->iter b k S=some r
 |0,_,_,_,h,_=>by simp[iter] at h
 |n+1,0,_,_,_,hk=>by omega
 |n+1,k+1,S,r,h,hk=>by
  simp only[iter] at h|-;cases hb:b S with
  |none=>simp[hb] at h
  |some q=>
   obtain⟨e,S'⟩:=q;rw[hb] at h;cases e with
   |normal=>exact aeu h ak
   |exit id=>exact h
   |ret=>exact h
def zL{α:Type}{f:Nat->Option α}{x:α}{n:Nat}(hn:f n=some x)(h:∀m y,f m=some y->y=x):lim f=some x:=by unfold lim;rw[dif_pos ⟨x,n,hn⟩];congr 1;obtain⟨m,hm⟩:=Classical.choose_spec (⟨x,n,hn⟩:∃a n,f n=some a);exact h m _ hm
def adh{b:St->Option (Ex×St)}{S:St}{r:Ex×St}{n:Nat}(h:iter b n S=some r):W9 b S=some r:=by
 refine zL h λm y hy=> ?_
 have h1:=aeu h (Nat.le_max_left n m);rw[aeu hy (Nat.le_max_right n m)] at h1;exact Option.some.inj h1
def acd{b:St->Option (Ex×St)}{S:St}{r:Ex×St}(h:W9 b S=some r):∃n,iter b n S=some r:=X6 h
def iter_eq{b:St->Option (Ex×St)}{n:Nat}{S:St}:iter b (n+1) S=(b S).bind λq=>match q with|(.normal,S')=>iter b n S'|(e,S')=>some (e,S'):=by
 simp only[iter];cases b S with
 |none=>rfl
 |some q=>obtain⟨e,S'⟩:=q;cases e<;>rfl
def anR{B:lN->St->Option (Ex×St)}(h:∀S,Up λK=>B K S):∀(n:Nat) (S:St),Up λK=>iter (B K) n S
 |0,S=>Up.const _
 |n+1,S=>by
  simp only[iter_eq];refine Up.bind (h S) λq=> ?_
  obtain⟨e,S'⟩:=q;cases e with
  |normal=>exact anR h n S'
  |exit id=>exact Up.const _
  |ret=>exact Up.const _
def aug{Kn:Nat->lN}{K:lN}(hc:Chain Kn){B:lN->St->Option (Ex×St)}(hu:∀S,Up λK=>B K S)(h:∀S,Ct Kn K λK=>B K S):∀(n:Nat) (S:St),Ct Kn K λK=>iter (B K) n S
 |0,S=>Ct.const _
 |n+1,S=>by
  simp only[iter_eq];refine Ct.bind hc (hu S) (λq=> ?_) (h S) λq=> ?_
  all_goals
   obtain⟨e,S'⟩:=q;cases e
  ·exact anR hu n S'
  ·exact Up.const _
  ·exact Up.const _
  ·exact aug hc hu h n S'
  ·exact Ct.const _
  ·exact Ct.const _
def axK{B:lN->St->Option (Ex×St)}(h:∀S,Up λK=>B K S)(S:St):Up λK=>W9 (B K) S:=by intro K K' hK r hr;obtain⟨n,hn⟩:=acd hr;exact adh (anR h n S K K' hK r hn)
def axL{Kn:Nat->lN}{K:lN}(hc:Chain Kn){B:lN->St->Option (Ex×St)}(hu:∀S,Up λK=>B K S)(h:∀S,Ct Kn K λK=>B K S)(S:St):Ct Kn K λK=>W9 (B K) S:=by intro r hr;obtain⟨n,hn⟩:=acd hr;obtain⟨k,hk⟩:=aug hc hu h n S r hn;exact⟨k,adh hk⟩
def anS(X:Ctx)(fn:Nat)(c:Code):∀S,Up λK=>den X K fn c S:=by
 induction c with
 |region id ops draw=>
  intro S K K' hK r hr;simp only[den] at hr|-;cases h:region X K fn id ops draw S with
  |none=>simp[h] at hr
  |some S'=>have he0:=al2 X fn id ops draw S K K' hK S' h;dsimp only at he0;rw[he0];rw[h] at hr;exact hr
 |seq a b iha ihb=>
  intro S K K' hK r hr;simp only[den] at hr|-;cases h:den X K fn a S with
  |none=>simp[h] at hr
  |some q=>
   have he0:=iha S K K' hK q h;dsimp only at he0;rw[he0];rw[h] at hr;obtain⟨e,S'⟩:=q;cases e with
   |normal=>exact ihb S' K K' hK r hr
   |exit id=>exact hr
   |ret=>exact hr
 |cond c a b iha ihb=>
  intro S K K' hK r hr;simp only[den] at hr|-;cases h:abl X.P S.tm c with
  |none=>simp[h] at hr
  |some q=>
   rw[h] at hr;cases q with
   |true=>exact iha S K K' hK r hr
   |false=>exact ihb S K K' hK r hr
 |block id c ih=>
  intro S K K' hK r hr;simp only[den] at hr|-;cases h:den X K fn c S with
  |none=>simp[h] at hr
  |some q=>have he0:=ih S K K' hK q h;dsimp only at he0;rw[he0];rw[h] at hr;exact hr
 |loop c ih=>intro S;exact axK ih S
 |_=>intro S;exact Up.const _
def aJd{Kn:Nat->lN}{K:lN}(hc:Chain Kn)(hK:∀f args cells r,K f args cells=some r->∃n,Kn n f args cells=some r)(X:Ctx)(fn:Nat)(c:Code):∀S,Ct Kn K λK=>den X K fn c S:=by
 induction c with
 |region id ops draw=>
  intro S r hr;simp only[den] at hr|-;cases h:region X K fn id ops draw S with
  |none=>simp[h] at hr
  |some S'=>obtain⟨n,hn⟩:=avX hc hK X fn id ops draw S S' h;dsimp only at hn;exact⟨n,by rw[hn];rw[h] at hr;exact hr⟩
 |seq a b iha ihb=>
  intro S r hr;simp only[den] at hr|-;cases h:den X K fn a S with
  |none=>simp[h] at hr
  |some q=>
   obtain⟨n,hn⟩:=iha S q h;dsimp only at hn;rw[h] at hr;obtain⟨e,S'⟩:=q;cases e with
   |normal=>obtain⟨k,hk⟩:=ihb S' r hr;dsimp only at hk;refine⟨max n k, ?_⟩;have he0:=anS X fn a S _ _ (hc.le (Nat.le_max_left n k)) _ hn;dsimp only at he0;rw[he0];exact anS X fn b S' _ _ (hc.le (Nat.le_max_right n k)) _ hk
   |exit id=>exact⟨n,by rw[hn];exact hr⟩
   |ret=>exact⟨n,by rw[hn];exact hr⟩
 |cond c a b iha ihb=>
  intro S r hr;simp only[den] at hr|-;cases h:abl X.P S.tm c with
  |none=>simp[h] at hr
  |some q=>
   rw[h] at hr;cases q with
   |true=>exact iha S r hr
   |false=>exact ihb S r hr
 |block id c ih=>
  intro S r hr;simp only[den] at hr|-;cases h:den X K fn c S with
  |none=>simp[h] at hr
  |some q=>obtain⟨n,hn⟩:=ih S q h;dsimp only at hn;exact⟨n,by rw[hn];rw[h] at hr;exact hr⟩
 |loop c ih=>intro S;exact axL hc (anS X fn c) ih S
 |_=>intro S;exact Ct.const _
def auh(X:Ctx)(f:Nat)(args:List V)(cells:List Cell):Up λK=>body X K f args cells:=by
 intro K K' hK r hr;simp only[body] at hr|-;cases hg:X.P.funcs[f]? with
 |none=>simp[hg] at hr
 |some g=>
  simp only[hg] at hr|-;cases hcd:g.body with
  |none=>simp[hcd] at hr
  |some c=>
   simp only[hcd] at hr|-;revert hr;generalize (!(Nat.ble cells.length sG && Nat.ble args.length g.ntmps))=q;cases q with
   |true=>exact id
   |false=>
    simp only[bg];intro hr;split at hr
    ·rename_i tm m l he;cases h:den X K f c ⟨tm,m⟩ with
     |none=>simp[h] at hr
     |some q=>have he0:=anS X f c ⟨tm,m⟩ K K' hK q h;dsimp only at he0;rw[he0];rw[h] at hr;exact hr
    ·cases hr
def aCp{Kn:Nat->lN}{K:lN}(hc:Chain Kn)(hK:∀f args cells r,K f args cells=some r->∃n,Kn n f args cells=some r)(X:Ctx)(f:Nat)(args:List V)(cells:List Cell):Ct Kn K λK=>body X K f args cells:=by
 intro r hr;simp only[body] at hr|-;cases hg:X.P.funcs[f]? with
 |none=>simp[hg] at hr
 |some g=>
  simp only[hg] at hr|-;cases hcd:g.body with
  |none=>simp[hcd] at hr
  |some c=>
   simp only[hcd] at hr|-;revert hr;generalize (!(Nat.ble cells.length sG && Nat.ble args.length g.ntmps))=q;cases q with
   |true=>exact λh=>⟨0,h⟩
   |false=>
    simp only[bg];intro hr;split at hr
    ·rename_i tm m l he;cases h:den X K f c ⟨tm,m⟩ with
     |none=>simp[h] at hr
     |some q=>obtain⟨n,hn⟩:=aJd hc hK X f c ⟨tm,m⟩ q h;dsimp only at hn;exact⟨n,by rw[hn];rw[h] at hr;exact hr⟩
    ·cases hr
def Xf(X:Ctx):Chain (ZF X)
 |0=>λf args cells r h=>by simp[ZF] at h
 |n+1=>λf args cells r h=>by
  simp only[ZF] at h|-;cases hp:X.Zx f with
  |some p=>simpa[hp] using h
  |none=>simp only[hp] at h|-;exact auh X f args cells _ _ (Xf X n) r h
def al3{X:Ctx}{n:Nat}{f:Nat}{args:List V}{cells:List Cell}{r:List Row×List Cell}(h:ZF X n f args cells=some r):call X f args cells=some r:=by
 refine zL h λm y hy=> ?_
 have h1:=(Xf X).le (Nat.le_max_left n m) f args cells r h;rw[(Xf X).le (Nat.le_max_right n m) f args cells y hy] at h1;exact Option.some.inj h1
def aCq{X:Ctx}{K:lN}(hK:KLe K (call X)){f:Nat}{args:List V}{cells:List Cell}{r:List Row×List Cell}(hp:X.Zx f=none)(h:body X K f args cells=some r):call X f args cells=some r:=by have h1:=auh X f args cells K (call X) hK r h;obtain⟨n,hn⟩:=aCp (Xf X) (λf a c r hr=>X6 hr) X f args cells r h1;dsimp only at hn;refine al3 (n:=n+1) ?_;simp only[ZF,hp];exact hn
def anT{X:Ctx}{f:Nat}{p:List V->List Cell->Option (List Row×List Cell)}{args:List V}{cells:List Cell}{r:List Row×List Cell}(hp:X.Zx f=some p)(h:p args cells=some r):call X f args cells=some r:=
 al3 (n:=1) (by simp only[ZF,hp];exact h)
abbrev Loops:=Nat->St->Option (Ex×St)
def lid:Code->Nat
 | .region id _ _=>id
 | .seq a b=>match lid a with
  |0=>lid b
  |n=>n
 | .block _ c=>lid c
 | .loop c=>lid c
 | .cond _ a b=>match lid a with
  |0=>lid b
  |n=>n
 |_=>0
def loops:Code->List Code
 | .seq a b=>loops a++loops b
 | .cond _ a b=>loops a++loops b
 | .block _ c=>loops c
 | .loop c=>[c]
 |_=>[]
def Nv(X:Ctx)(K:lN)(L:Loops)(fn:Nat):Code->St->Option (Ex×St)
 | .skip,S=>some (.normal,S)
 | .region id ops draw,S=>match region X K fn id ops draw S with
  |some S'=>some (.normal,S')
  |none=>none
 | .seq a b,S=>match Nv X K L fn a S with
  |some (.normal,S')=>Nv X K L fn b S'
  |r=>r
 | .cond c a b,S=>match abl X.P S.tm c with
  |some true=>Nv X K L fn a S
  |some false=>Nv X K L fn b S
  |none=>none
 | .block id c,S=>match Nv X K L fn c S with
  |some (.exit j,S')=>bif Nat.beq j id then some (.normal,S') else some (.exit j,S')
  |r=>r
 | .loop c,S=>L (lid c) S
 | .exit id,S=>some (.exit id,S)
 | .ret,S=>some (.ret,S)
 |_,_=>none
def codeOf(P:Program)(f:Nat):Code:=match P.funcs[f]? with
 |some g=>match g.body with
  |some c=>c
  |none=> .skip
 |none=> .skip
def afJ(X:Ctx)(K:lN)(L:Loops)(f:Nat)(args:List V)(cells:List Cell):Option (List Row×List Cell):=
 match X.P.funcs[f]? with
 |some g=>match g.body with
  |some c=>bif !(Nat.ble cells.length sG && Nat.ble args.length g.ntmps) then none else match(entry X f g args cells).run (uF 0 cells) .none with
   |some (tm,m,_)=>(match Nv X K L f c ⟨tm,m⟩ with
    |some (.normal,S)=>leave X g cells.length S
    |some (.ret,S)=>leave X g cells.length S
    |_=>none)
   |none=>none
  |none=>none
 |none=>none
def LOk(X:Ctx)(K:lN)(fn:Nat)(L:Loops)(cs:List Code):Prop:=∀c,c∈cs->∀S r,L (lid c) S=some r->W9 (den X K fn c) S=some r
def LOk.nil{X:Ctx}{K:lN}{fn:Nat}{L:Loops}:LOk X K fn L []:=λ_ h=>by simp at h
def LOk.cons{X:Ctx}{K:lN}{fn:Nat}{L:Loops}{c:Code}{cs:List Code}(h:∀S r,L (lid c) S=some r->W9 (den X K fn c) S=some r)(k:LOk X K fn L cs):LOk X K fn L (c::cs):=by
 intro d hd;rcases List.mem_cons.1 hd with rfl|hd
 ·exact h
 ·exact k d hd
def axM{X:Ctx}{K:lN}{L:Loops}{fn:Nat}:∀{c:Code} {S:St} {r:Ex×St},LOk X K fn L (loops c)->Nv X K L fn c S=some r->den X K fn c S=some r:=by
 intro c;induction c with
 |seq a b iha ihb=>
  intro S r hL h;have hLa:LOk X K fn L (loops a):=λd hd=>hL d (by simp[loops,hd])
  have hLb:LOk X K fn L (loops b):=λd hd=>hL d (by simp[loops,hd])
  simp only[Nv] at h;simp only[den];cases ha:Nv X K L fn a S with
  |none=>simp[ha] at h
  |some q=>
   rw[iha hLa ha];rw[ha] at h;obtain⟨e,S'⟩:=q;cases e with
   |normal=>exact ihb hLb h
   |exit id=>exact h
   |ret=>exact h
 |cond c a b iha ihb=>
  intro S r hL h;have hLa:LOk X K fn L (loops a):=λd hd=>hL d (by simp[loops,hd])
  have hLb:LOk X K fn L (loops b):=λd hd=>hL d (by simp[loops,hd])
  simp only[Nv] at h;simp only[den];cases hc:abl X.P S.tm c with
  |none=>simp[hc] at h
  |some q=>
   rw[hc] at h;cases q with
   |true=>exact iha hLa h
   |false=>exact ihb hLb h
 |block id c ih=>
  intro S r hL h;simp only[Nv] at h;simp only[den];cases ha:Nv X K L fn c S with
  |none=>simp[ha] at h
  |some q=>rw[ih hL ha];rw[ha] at h;exact h
 |loop c ih=>intro S r hL h;exact hL c (by simp[loops]) S r h
 |region id ops draw=>intro S r hL h;exact h
 |skip=>intro S r hL h;exact h
 |exit id=>intro S r hL h;exact h
 |ret=>intro S r hL h;exact h
 |_=>intro S r hL h;simp[Nv] at h
def aui(X:Ctx)(L:Loops)(fn:Nat)(c:Code):∀S,Up λK=>Nv X K L fn c S:=by
 induction c with
 |region id ops draw=>
  intro S K K' hK r hr;simp only[Nv] at hr|-;cases h:region X K fn id ops draw S with
  |none=>simp[h] at hr
  |some S'=>have he0:=al2 X fn id ops draw S K K' hK S' h;dsimp only at he0;rw[he0];rw[h] at hr;exact hr
 |seq a b iha ihb=>
  intro S K K' hK r hr;simp only[Nv] at hr|-;cases h:Nv X K L fn a S with
  |none=>simp[h] at hr
  |some q=>
   have he0:=iha S K K' hK q h;dsimp only at he0;rw[he0];rw[h] at hr;obtain⟨e,S'⟩:=q;cases e with
   |normal=>exact ihb S' K K' hK r hr
   |exit id=>exact hr
   |ret=>exact hr
 |cond c a b iha ihb=>
  intro S K K' hK r hr;simp only[Nv] at hr|-;cases h:abl X.P S.tm c with
  |none=>simp[h] at hr
  |some q=>
   rw[h] at hr;cases q with
   |true=>exact iha S K K' hK r hr
   |false=>exact ihb S K K' hK r hr
 |block id c ih=>
  intro S K K' hK r hr;simp only[Nv] at hr|-;cases h:Nv X K L fn c S with
  |none=>simp[h] at hr
  |some q=>have he0:=ih S K K' hK q h;dsimp only at he0;rw[he0];rw[h] at hr;exact hr
 |_=>intro S;exact Up.const _
def axN(X:Ctx)(L:Loops)(f:Nat)(args:List V)(cells:List Cell):Up λK=>afJ X K L f args cells:=by
 intro K K' hK r hr;simp only[afJ] at hr|-;cases hg:X.P.funcs[f]? with
 |none=>simp[hg] at hr
 |some g=>
  simp only[hg] at hr|-;cases hcd:g.body with
  |none=>simp[hcd] at hr
  |some c=>
   simp only[hcd] at hr|-;revert hr;generalize (!(Nat.ble cells.length sG && Nat.ble args.length g.ntmps))=q;cases q with
   |true=>exact id
   |false=>
    simp only[bg];intro hr;split at hr
    ·rename_i tm m l he;cases h:Nv X K L f c ⟨tm,m⟩ with
     |none=>simp[h] at hr
     |some q=>have he0:=aui X L f c ⟨tm,m⟩ K K' hK q h;dsimp only at he0;rw[he0];rw[h] at hr;exact hr
    ·cases hr
def aCr{X:Ctx}{K:lN}{L:Loops}{f:Nat}{args:List V}{cells:List Cell}{r:List Row×List Cell}(hL:LOk X K f L (loops (codeOf X.P f)))(h:afJ X K L f args cells=some r):body X K f args cells=some r:=by
 simp only[afJ] at h;simp only[body];cases hg:X.P.funcs[f]? with
 |none=>simp[hg] at h
 |some g=>
  simp only[hg] at h|-;cases hcd:g.body with
  |none=>simp[hcd] at h
  |some c=>
   simp only[hcd] at h|-;have hcode:codeOf X.P f=c:=by simp[codeOf,hg,hcd]
   rw[hcode] at hL;revert h;generalize (!(Nat.ble cells.length sG && Nat.ble args.length g.ntmps))=q;cases q with
   |true=>exact id
   |false=>
    simp only[bg];intro h;split at h
    ·rename_i tm m l he;simp only[he];cases hd:Nv X K L f c ⟨tm,m⟩ with
     |none=>simp[hd] at h
     |some q=>rw[axM hL hd];rw[hd] at h;exact h
    ·cases h
def axO{X:Ctx}{K:lN}{L:Loops}{f:Nat}{args:List V}{cells:List Cell}{r:List Row×List Cell}(hp:X.Zx f=none)(hK:KLe K (call X))(hL:LOk X (call X) f L (loops (codeOf X.P f)))
  (h:afJ X K L f args cells=some r):call X f args cells=some r:=by
 exact aCq (KLe.refl _) hp (aCr hL (axN X L f args cells K (call X) hK r h))
def aCs{X:Ctx}{K:lN}{L:Loops}{fn:Nat}{c:Code}{S:St}{r:Ex×St}(hK:KLe K (call X))(hL:LOk X (call X) fn L (loops c))(h:Nv X K L fn c S=some r):den X (call X) fn c S=some r:=
 axM hL (aui X L fn c S K (call X) hK r h)
structure Res(α:Type) where
 β:Type
 o:Option β
 enc:β->α
def Res.val{α:Type}(r:Res α):Option α:=r.o.map r.enc
abbrev Vj:=Nat->List V->List Cell->Res (List Row×List Cell)
inductive Alt(α:Type):Type 1 where
 |leaf (β:Type) (enc:β->α)
 |sum (a b:Alt α)
def Alt.T{α:Type}:Alt α->Type
 | .leaf β _=>β
 | .sum a b=>a.T⊕b.T
def Alt.enc{α:Type}:(a:Alt α)->a.T->α
 | .leaf _ enc,x=>enc x
 | .sum a _,.inl x=>a.enc x
 | .sum _ b,.inr x=>b.enc x
structure ace(α:Type) where
 alt:Alt α
 o:Option alt.T
def ace.val{α:Type}(r:ace α):Option α:=r.o.map r.alt.enc
def ace.none{α:Type}:ace α:=⟨.leaf Empty Empty.elim,.none⟩
abbrev Xg:=Nat->St->ace (Ex×St)
def Vj.to(K:Vj):lN:=λf a c=>(K f a c).val
def Xg.to(L:Xg):Loops:=λn S=>(L n S).val
def Res.none{α:Type}:Res α:=⟨Empty,.none,Empty.elim⟩
section
variable {R:Type}
def rO{α β γ:Type}(r:α⊕β)(f:α->Option γ)(g:β->Option γ):Option γ:=match r with
 | .inl x=>f x
 | .inr y=>g y
def Alt.go{α:Type}:(a:Alt α)->a.T->(α->Option R)->Option R
 | .leaf _ enc=>λx k=>k (enc x)
 | .sum a b=>λx k=>rO x (λx=>a.go x k) (λy=>b.go y k)
def Alt.go_eq{α:Type}(k:α->Option R):∀(a:Alt α) (x:a.T),a.go x k=k (a.enc x)
 | .leaf _ enc,x=>rfl
 | .sum a _,.inl x=>Alt.go_eq k a x
 | .sum _ b,.inr x=>Alt.go_eq k b x
def ace.aiz{α:Type}{r:ace α}{x:α}(h:r.val=some x):∃y,r.o=some y/\r.alt.enc y=x:=by simpa[ace.val,Option.map_eq_some_iff] using h
def Res.aiz{α:Type}{r:Res α}{x:α}(h:r.val=some x):∃y,r.o=some y/\r.enc y=x:=by simpa[Res.val,Option.map_eq_some_iff] using h
def Acc.apt{α:Type}:Acc α->Mem->Log->(α->Mem->Log->Option R)->Option R
 | .ret a,m,l,k=>k a m l
 | .fail,_,_,_=>none
 | .get i c,m,l,k=>(c (Vm.get i m)).apt m (l.rd i) k
 | .set i x c,m,l,k=>c.apt (put i x m) (l.wr i) k
 | .opt o c,m,l,k=>match o with|some b=>(c b).apt m l k|none=>none
 | .guard b c,m,l,k=>match b with|true=>c.apt m l k|false=>none
def asL(X:Ctx)(K:Vj)(fn dst f:Nat)(args:List V):Acc V:=do
 let g<-op' X.P.funcs[f]?
 ck (g.body.isSome && !(g.name == "runtime.NumGoroutine"))
 let imp:=Vb X.UO f 0 [] args
 let args<-XQ X.UO f 0 args
 let cells<-Zz X.UO imp imp
 let(args,Uo)<-XT X.UO imp f 0 args
 ck (Uo.all λr=> !(mem? r imp))
 let b<-op' (K f args cells).o
 let out:=(K f args cells).enc b
 ck (Nat.beq out.1.length g.resultTypes.size)
 let need:= !(Uo.isEmpty) &&(aaT X.P (X.UO.att fn dst) 0 g.resultTypes.toList && imp.isEmpty)
 ck (bif need then out.1.all bn else true)
 freeze (bif need then[] else Uo)
 afi X dst out.2 0 imp
 let vs<-abR X (X.UO.att fn dst) dst out.1 0 g.resultTypes.toList
 match vs with
 |[v]=>pure v
 |vs=>pure (.JV vs)
def aJe(X:Ctx)(K:Vj)(fn:Nat)(tm:mD)(o:Oper):Acc V:=
 match o.op with
 | .call {callee:=.value f,args,argTypes}=>match ev X.P tm 0 f with
  | .clo g first caps=>asL X K fn (o.dst.getD 0) g (first++wF X.P tm args.toList argTypes.toList++caps)
  |_=> .fail
 |_=>vop X (λ_ _ _=>none) fn tm o
def axP(x:D)(k:D->Option R):Option R:=match x with
 | .int j n=>k (.int j n)
 | .bool b=>k (.bool b)
 | .str s=>k (.str s)
 | .Zo=>k .Zo
 | .sl o s rows=>match o with
  |true=>k (.sl true s rows)
  |false=>k (.sl false s rows)
mutual
def J3(v:V)(k:V->Option R):Option R:=match v with
 | .d x=>axP x λx=>k (.d x)
 | .nil s=>k (.nil s)
 | .own r v=>k (.own r v)
 | .ptr r o=>k (.ptr r o)
 | .EL r v i o=>k (.EL r v i o)
 | .zx row o=>k (.zx row o)
 | .NR v=>J3 v λv=>k (.NR v)
 | .clo f a b=>Vk a λa=>Vk b λb=>k (.clo f a b)
 | .agg cs=>Vk cs λcs=>k (.agg cs)
 | .JV cs=>Vk cs λcs=>k (.JV cs)
 | .undef=>k .undef
def Vk(vs:List V)(k:List V->Option R):Option R:=match vs with
 |[]=>k []
 |v::vs=>J3 v λv=>Vk vs λvs=>k (v::vs)
end
def aaY(tm:mD)(k:mD->Option R):Option R:=match tm with
 |[]=>k []
 |(t,v)::tm=>J3 v λv=>aaY tm λtm=>k ((t,v)::tm)
def aaZ(c:Cell)(k:Cell->Option R):Option R:=match c with
 | .box t cs=>Vk cs λcs=>k (.box t cs)
 | .arr fz fl ver s rows=>k (.arr fz fl ver s rows)
 | .dead=>k .dead
 | .VG ver s rows=>k (.VG ver s rows)
 | .AQ t v=>J3 v λv=>k (.AQ t v)
 | .zy ver s rows i off=>k (.zy ver s rows i off)
def V6(m:Mem)(k:Mem->Option R):Option R:=match m with
 |[]=>k []
 |(r,c)::m=>aaZ c λc=>V6 m λm=>k ((r,c)::m)
def avY(L:List (Nat×Nat))(r:Nat)(k:Nat->Option R):Option R:=match get r L with
 |some j=>k j
 |none=>k r
mutual
def U7(L:List (Nat×Nat))(v:V)(k:V->Option R):Option R:=match v with
 | .d x=>k (.d x)
 | .nil s=>k (.nil s)
 | .own r v=>avY L r λr=>k (.own r v)
 | .ptr r o=>avY L r λr=>k (.ptr r o)
 | .EL r v i o=>avY L r λr=>k (.EL r v i o)
 | .zx row o=>k (.zx row o)
 | .NR v=>U7 L v λv=>k (.NR v)
 | .clo f a b=>YN L a λa=>YN L b λb=>k (.clo f a b)
 | .agg cs=>YN L cs λcs=>k (.agg cs)
 | .JV vs=>YN L vs λvs=>k (.JV vs)
 | .undef=>k .undef
def YN(L:List (Nat×Nat))(vs:List V)(k:List V->Option R):Option R:=match vs with
 |[]=>k []
 |v::vs=>U7 L v λv=>YN L vs λvs=>k (v::vs)
end
def anU(L:List (Nat×Nat))(tm:mD)(k:mD->Option R):Option R:=match tm with
 |[]=>k []
 |(t,v)::tm=>U7 L v λv=>anU L tm λtm=>k ((t,v)::tm)
def auj(L:List (Nat×Nat))(c:Cell)(k:Cell->Option R):Option R:=match c with
 | .box t cs=>YN L cs λcs=>k (.box t cs)
 | .arr fz fl ver s rows=>k (.arr fz fl ver s rows)
 | .dead=>k .dead
 | .VG ver s rows=>k (.VG ver s rows)
 | .AQ t v=>U7 L v λv=>k (.AQ t v)
 | .zy ver s rows i off=>k (.zy ver s rows i off)
def ahf(L:List (Nat×Nat))(m:Mem)(k:Mem->Option R):Option R:=match m with
 |[]=>k []
 |(r,c)::m=>avY L r λr=>auj L c λc=>ahf L m λm=>V6 (put r c m) k
def anV(l:List Nat)(k:List Nat->Option R):Option R:=match l with
 |[]=>k []
 |x::l=>anV l λl=>k (x::l)
def ahg(l:List (Nat×Nat))(k:List (Nat×Nat)->Option R):Option R:=match l with
 |[]=>k []
 |(x,y)::l=>ahg l λl=>k ((x,y)::l)
def anW(S:St)(k:St->Option R):Option R:=anV (aB8 S.tm S.mem) λo=>match o with
 |[]=>k S
 |a::o=>ahg (aB9 names (a::o)) λL=>match ac1 L S.mem with
  |true=>anU L S.tm λtm=>ahf L S.mem λm=>k ⟨tm,m⟩
  |false=>k S
def anX(ops:Array Oper)(tm:mD)(o:Oper)(k:Bool->mD->Option R):Option R:=
 match o.guard with
 |none=>k true tm
 |some (j,want)=>match ops[j]? with
  |some oj=>match oj.dst with
   |some d=>match aa7 d tm with
    | .d (.bool b)=>match b with
     |true=>k want (put d (.d (.bool true)) tm)
     |false=>k (!want) (put d (.d (.bool false)) tm)
    | .JV vs=>match vs with
     |[]=>k false (put d (.JV []) tm)
     |_::_=>none
    |_=>none
   |none=>none
  |none=>none
def asM(X:Ctx)(K:Vj)(fn:Nat)(ops:Array Oper)(i:Nat)(S:St)(k:St->Log->Option R):Option R:=
 match ops[i]? with
 |none=>none
 |some o=>anX ops S.tm o λb tm=>match b with
  |false=>k ⟨afj (Zp X.P fn) o.dst tm,S.mem⟩ .none
  |true=>(aJe X K fn tm o).apt S.mem .none λv m l=>bif ZB (Zp X.P fn) o.dst then J3 v λv=>k ⟨akT o.dst v tm,m⟩ l else none
def ahh(X:Ctx)(K:Vj)(fn:Nat)(ops:Array Oper):List Nat->St->List (Nat×Log)->(St->List (Nat×Log)->Option R)->Option R
 |[],S,L,k=>k S L
 |i::is,S,L,k=>asM X K fn ops i S λS' l=>ahh X K fn ops is S' ((i,l)::L) k
def aHc(X:Ctx)(ops:Array Oper)(L:List (Nat×Log)):Bool->Bool
 |false=>true
 |true=>X.P.follows .mixedOrders &&(backOk ops && ZC ops (Region.before ops) L)
def acf(X:Ctx)(K:Vj)(fn id:Nat)(ops:Array Oper)(draw:Bool)(S:St)(k:St->List (Nat×Log)->Option R):Option R:=ahh X K fn ops (List.range ops.size) S [] k
def anY(X:Ctx)(K:Vj)(fn id:Nat)(ops:Array Oper)(draw:Bool)(S:St)(k:St->Option R):Option R:=
 acf X K fn id ops draw S λS' L=>
  bif aHc X ops L draw then(match abU (X.UO.keep fn id) S' with
   |some S''=>aaY S''.tm λtm=>V6 S''.mem λm=>anW ⟨tm,m⟩ k
   |none=>none) else none
def rep(k:Nat)(x:V):mD->mD
 |[]=>[]
 |(j,y)::l=>match Nat.beq k j with
  |true=>(j,x)::l
  |false=>(j,y)::rep k x l
def aCt(c:Operand)(b:Bool)(S:St):St:=match c with
 | .tmp i=>⟨rep i (.d (.bool b)) S.tm,S.mem⟩
 |_=>S
def auk{k:Nat}{x:V}:∀{l:mD},get k l=some x->rep k x l=l
 |[],h=>rfl
 |(j,y)::l,h=>by
  simp only[get] at h;rw[rep];cases hb:Nat.beq k j with
  |true=>rw[hb] at h;simp only[aK,jF] at h;rw[h]
  |false=>rw[hb] at h;simp only;rw[auk h]
def aul{P:Program}{c:Operand}{b:Bool}{S:St}(h:ev P S.tm 0 c=.d (.bool b)):aCt c b S=S:=by
 cases c with
 |tmp i=>
  simp only[ev,aa7] at h;cases hg:get i S.tm with
  |none=>rw[hg] at h;cases h
  |some v=>rw[hg] at h;simp only at h;subst h;rw[aCt,auk hg]
 |_=>rfl
def acg(X:Ctx)(K:Vj)(L:Xg)(fn:Nat):Code->St->(Ex->St->Option R)->Option R
 | .skip,S,k=>k .normal S
 | .region id ops draw,S,k=>anY X K fn id ops draw S λS'=>k .normal S'
 | .seq a b,S,k=>acg X K L fn a S λe S'=>match e with
  | .normal=>acg X K L fn b S' k
  |e=>k e S'
 | .cond c a b,S,k=>match ev X.P S.tm 0 c with
  | .d (.bool t)=>(match t with
   |true=>acg X K L fn a (aCt c true S) k
   |false=>acg X K L fn b (aCt c false S) k)
  |_=>none
 | .block id c,S,k=>acg X K L fn c S λe S'=>match e with
  | .exit j=>bif Nat.beq j id then k .normal S' else k (.exit j) S'
  |e=>k e S'
 | .loop c,S,k=>match(L (lid c) S).o with
  |some b=>(L (lid c) S).alt.go b λr=>k r.1 r.2
  |none=>none
 | .exit id,S,k=>k (.exit id) S
 | .ret,S,k=>k .ret S
 |_,_,_=>none
def anZ(X:Ctx)(g:Func)(n:Nat)(S:St)(k:List Row->List Cell->Option R):Option R:=
 (do
  let rows<-aaU X.P S.tm g.results.toList g.resultTypes.toList
  let cells<-Zz X.UO (xB n) (xB n)
  pure (rows,cells):Acc (List Row×List Cell)).apt S.mem .none λr _ _=>k r.1 r.2
def bodyC(X:Ctx)(K:Vj)(L:Xg)(f:Nat)(args:List V)(cells:List Cell)(k:List Row->List Cell->Option R):Option R:=
 match X.P.funcs[f]? with
 |some g=>match g.body with
  |some c=>bif !(Nat.ble cells.length sG && Nat.ble args.length g.ntmps) then none else(entry X f g args cells).apt (uF 0 cells) .none λtm m _=>
   aaY tm λtm=>V6 m λm=>acg X K L f c ⟨tm,m⟩ λe S=>match e with
    | .normal=>anZ X g cells.length S k
    | .ret=>anZ X g cells.length S k
    | .exit _=>none
  |none=>none
 |none=>none
def an0{α:Type}(A:Acc α):∀(m:Mem) (l:Log) (k:α->Mem->Log->Option R),A.apt m l k=(A.run m l).bind λr=>k r.1 r.2.1 r.2.2:=by
 induction A with
 |ret a=>intro m l k;rfl
 |fail=>intro m l k;rfl
 |get i c ih=>intro m l k;exact ih _ _ _ _
 |set i x c ih=>intro m l k;exact ih _ _ _
 |opt o c ih=>intro m l k;cases o with
  |none=>rfl
  |some b=>exact ih b _ _ _
 |guard b c ih=>intro m l k;cases b with
  |false=>rfl
  |true=>exact ih _ _ _
def avZ(x:D)(k:D->Option R):axP x k=k x:=by
 cases x with
 |sl o s rows=>cases o<;>rfl
 |_=>rfl
mutual
def X7:∀(v:V) (k:V->Option R),J3 v k=k v
 | .d x,k=>by simp only[J3,avZ]
 | .nil s,k=>by simp only[J3]
 | .own r v,k=>by simp only[J3]
 | .ptr r o,k=>by simp only[J3]
 | .EL r v i o,k=>by simp only[J3]
 | .zx row o,k=>by simp only[J3]
 | .NR v,k=>by simp only[J3];rw[X7 v]
 | .clo f a b,k=>by simp only[J3];rw[SE a,SE b]
 | .agg cs,k=>by simp only[J3];rw[SE cs]
 | .JV cs,k=>by simp only[J3];rw[SE cs]
 | .undef,k=>by simp only[J3]
def SE:∀(vs:List V) (k:List V->Option R),Vk vs k=k vs
 |[],k=>by simp only[Vk]
 |v::vs,k=>by simp only[Vk];rw[X7 v,SE vs]
end
def ach:∀(tm:mD) (k:mD->Option R),aaY tm k=k tm
 |[],k=>rfl
 |(t,v)::tm,k=>by simp only[aaY];rw[X7 v,ach tm]
def an1(c:Cell)(k:Cell->Option R):aaZ c k=k c:=by
 cases c with
 |box t cs=>simp only[aaZ,SE]
 |AQ t v=>simp only[aaZ,X7]
 |_=>rfl
def Xh:∀(m:Mem) (k:Mem->Option R),V6 m k=k m
 |[],k=>rfl
 |(t,v)::m,k=>by simp only[V6];rw[an1 v,Xh m]
def ahi(L:List (Nat×Nat))(r:Nat)(k:Nat->Option R):avY L r k=k (ren L r):=by unfold avY ren;cases get r L<;>rfl
mutual
def adi(L:List (Nat×Nat)):∀(v:V) (k:V->Option R),U7 L v k=k (UQ L v)
 | .d x,k=>by simp only[U7,UQ]
 | .nil s,k=>by simp only[U7,UQ]
 | .own r v,k=>by simp only[U7,UQ,ahi]
 | .ptr r o,k=>by simp only[U7,UQ,ahi]
 | .EL r v i o,k=>by simp only[U7,UQ,ahi]
 | .zx row o,k=>by simp only[U7,UQ]
 | .NR v,k=>by simp only[U7,UQ];rw[adi L v]
 | .clo f a b,k=>by simp only[U7,UQ];rw[VJ L a,VJ L b]
 | .agg cs,k=>by simp only[U7,UQ];rw[VJ L cs]
 | .JV vs,k=>by simp only[U7,UQ];rw[VJ L vs]
 | .undef,k=>by simp only[U7,UQ]
def VJ(L:List (Nat×Nat)):∀(vs:List V) (k:List V->Option R),YN L vs k=k (ZA L vs)
 |[],k=>by simp only[YN,ZA]
 |v::vs,k=>by simp only[YN,ZA];rw[adi L v,VJ L vs]
end
def al4(L:List (Nat×Nat)):∀(tm:mD) (k:mD->Option R),anU L tm k=k (ahP L tm)
 |[],k=>rfl
 |(t,v)::tm,k=>by simp only[anU,ahP];rw[adi L v,al4 L tm]
def axQ(L:List (Nat×Nat))(c:Cell)(k:Cell->Option R):auj L c k=k (ahO L c):=by
 cases c with
 |box t cs=>simp only[auj,ahO,VJ]
 |AQ t v=>simp only[auj,ahO,adi]
 |_=>rfl
def aiA(L:List (Nat×Nat)):∀(m:Mem) (k:Mem->Option R),ahf L m k=k (VQ L m)
 |[],k=>rfl
 |(r,c)::m,k=>by simp only[ahf,VQ,ahi,axQ];rw[aiA L m,Xh]
def al5:∀(l:List Nat) (k:List Nat->Option R),anV l k=k l
 |[],k=>rfl
 |x::l,k=>by simp only[anV];rw[al5 l]
def aiB:∀(l:List (Nat×Nat)) (k:List (Nat×Nat)->Option R),ahg l k=k l
 |[],k=>rfl
 |(x,y)::l,k=>by simp only[ahg];rw[aiB l]
def av1(S:St)(k:St->Option R):anW S k=k (canon S):=by
 unfold anW canon;rw[al5];cases aB8 S.tm S.mem with
 |nil=>rfl
 |cons a o=>
  simp only[aiB,anD];cases ac1 (aB9 names (a::o)) S.mem with
  |true=>simp only[al4,aiA]
  |false=>rfl
def aci{α:Type}(a b:Acc α):Prop:=∀m l,a.run m l=b.run m l
def aci.refl{α:Type}(a:Acc α):aci a a:=λ_ _=>rfl
def aci.bind{α β:Type}{a:Acc α}{f g:α->Acc β}(h:∀x,aci (f x) (g x)):aci (a>>=f) (a>>=g):=by
 intro m l;rw[run_bind,run_bind];cases a.run m l with
 |none=>rfl
 |some r=>obtain⟨x,m,l⟩:=r;exact h x m l
def aci.enc{α β γ:Type}{o:Option β}{enc:β->α}{f:α->Acc γ}:aci (op' o>>=λb=>f (enc b)) (op' (o.map enc)>>=f):=by intro m l;rw[run_bind,run_bind];cases o<;>rfl
def asN{X:Ctx}{K:Vj}{fn dst f:Nat}{args:List V}{m:Mem}{l:Log}:(asL X K fn dst f args).run m l=(acZ X K.to fn dst f args).run m l:=by
 revert m l;show aci _ _;unfold asL acZ;refine aci.bind λg=>aci.bind λ_=>aci.bind λargs=>aci.bind λcells=>aci.bind fun⟨args,Uo⟩=>aci.bind λ_=> ?_
 exact aci.enc (o:=(K f args cells).o) (enc:=(K f args cells).enc) (f:=λout=>do
  ck (Nat.beq out.1.length g.resultTypes.size)
  ck (bif(!(Uo.isEmpty) &&(aaT X.P (X.UO.att fn dst) 0 g.resultTypes.toList &&(Vb X.UO _ 0 [] _).isEmpty)) then out.1.all bn else true)
  freeze (bif(!(Uo.isEmpty) &&(aaT X.P (X.UO.att fn dst) 0 g.resultTypes.toList &&(Vb X.UO _ 0 [] _).isEmpty)) then[] else Uo)
  afi X dst out.2 0 (Vb X.UO _ 0 [] _)
  let vs<-abR X (X.UO.att fn dst) dst out.1 0 g.resultTypes.toList
  match vs with
  |[v]=>pure v
  |vs=>pure (.JV vs))
def axR{X:Ctx}{K:Vj}{fn:Nat}{tm:mD}{o:Oper}{m:Mem}{l:Log}:(aJe X K fn tm o).run m l=(vop X K.to fn tm o).run m l:=by
 obtain⟨dst,op,type,pos,after,guard⟩:=o;cases op<;>try rfl
 case call c=>
  obtain⟨callee,args,tys⟩:=c;cases callee with
  |value f=>
   simp only[aJe,vop];cases ev X.P tm 0 f with
   |clo g a b=>exact asN
   |_=>rfl
  |invoke r m=>rfl
  |builtin b=>cases b<;>rfl
 case makeFunc f a b=>cases f<;>rfl
 case slice a b c d e=>cases e<;>rfl
def asO(ops:Array Oper)(tm:mD)(o:Oper)(k:Bool->mD->Option R):anX ops tm o k=(GR ops tm o).bind λr=>k r.1 r.2:=by
 unfold anX GR;cases o.guard with
 |none=>rfl
 |some jw=>
  obtain⟨j,want⟩:=jw;simp only;cases ops[j]? with
  |none=>rfl
  |some oj=>
   simp only;cases oj.dst with
   |none=>rfl
   |some d=>
    simp only;cases aa7 d tm with
    |d x=>cases x with
     |bool b=>cases b<;>rfl
     |_=>rfl
    |JV vs=>cases vs<;>rfl
    |_=>rfl
def av2(X:Ctx)(K:Vj)(fn:Nat)(ops:Array Oper)(i:Nat)(S:St)(k:St->Log->Option R):asM X K fn ops i S k=(Eo X K.to fn ops i S).bind λr=>k r.1 r.2:=by
 unfold asM Eo;cases ops[i]? with
 |none=>rfl
 |some o=>
  simp only[asO];cases GR ops S.tm o with
  |none=>rfl
  |some r=>
   obtain⟨b,tm⟩:=r;cases b with
   |false=>rfl
   |true=>
    simp only[Option.bind_some,an0,axR];cases(vop X K.to fn tm o).run S.mem .none with
    |none=>rfl
    |some r=>
     obtain⟨v,m,l⟩:=r;simp only[Option.bind_some];cases ZB (Zp X.P fn) o.dst with
     |false=>rfl
     |true=>simp only[aK,X7];rfl
def aiC(X:Ctx)(K:Vj)(fn:Nat)(ops:Array Oper):∀(is:List Nat) (S:St) (L:List (Nat×Log)) (k:St->List (Nat×Log)->Option R),ahh X K fn ops is S L k=(Pn X K.to fn ops is S L).bind λr=>k r.1 r.2
 |[],S,L,k=>rfl
 |i::is,S,L,k=>by
  simp only[ahh,aep,av2];cases Eo X K.to fn ops i S with
  |none=>rfl
  |some r=>simp only[Option.bind_some];exact aiC X K fn ops is _ _ k
def ak2(X:Ctx)(K:Vj)(fn id:Nat)(ops:Array Oper)(draw:Bool)(S:St)(k:St->List (Nat×Log)->Option R):acf X K fn id ops draw S k=(KZ X K.to fn id ops draw S).bind λr=>k r.1 r.2:=by rw[acf,aiC];rfl
def asP(X:Ctx)(K:Vj)(fn id:Nat)(ops:Array Oper)(draw:Bool)(S:St)(k:St->Option R):anY X K fn id ops draw S k=(region X K.to fn id ops draw S).bind k:=by
 simp only[anY,aes,ak2];cases KZ X K.to fn id ops draw S with
 |none=>rfl
 |some r=>
  simp only[Option.bind_some];have hp:(match abU (X.UO.keep fn id) r.1 with
   |some S''=>aaY S''.tm λtm=>V6 S''.mem λm=>anW ⟨tm,m⟩ k
   |none=>none)=(prune (X.UO.keep fn id) r.1).bind k:=by
   unfold prune;cases abU (X.UO.keep fn id) r.1 with
   |none=>rfl
   |some S''=>simp only[ach,Xh,av1];rfl
  rw[hp];cases draw with
  |false=>rfl
  |true=>simp only[aHc];cases(X.P.follows .mixedOrders &&(backOk ops && ZC ops (Region.before ops) r.2))<;>rfl
def aum(X:Ctx)(K:Vj)(L:Xg)(fn:Nat)(c:Code):∀(S:St) (k:Ex->St->Option R),acg X K L fn c S k=(Nv X K.to L.to fn c S).bind λr=>k r.1 r.2:=by
 induction c with
 |skip=>intro S k;rfl
 |region id ops draw=>intro S k;simp only[acg,Nv,asP];cases region X K.to fn id ops draw S<;>rfl
 |seq a b iha ihb=>
  intro S k;simp only[acg,Nv,iha];cases Nv X K.to L.to fn a S with
  |none=>rfl
  |some r=>
   obtain⟨e,S'⟩:=r;cases e with
   |normal=>exact ihb S' k
   |exit id=>rfl
   |ret=>rfl
 |cond c a b iha ihb=>
  intro S k;simp only[acg,Nv,abl];cases hev:ev X.P S.tm 0 c with
  |d x=>cases x with
   |bool t=>cases t with
    |true=>simp only[aul hev];exact iha S k
    |false=>simp only[aul hev];exact ihb S k
   |_=>rfl
  |_=>rfl
 |block id c ih=>
  intro S k;simp only[acg,Nv,ih];cases Nv X K.to L.to fn c S with
  |none=>rfl
  |some r=>
   obtain⟨e,S'⟩:=r;cases e with
   |normal=>rfl
   |ret=>rfl
   |exit j=>simp only[Option.bind_some];cases Nat.beq j id<;>rfl
 |loop c ih=>intro S k;simp only[acg,Nv,Xg.to,ace.val,Alt.go_eq];cases(L (lid c) S).o<;>rfl
 |exit id=>intro S k;rfl
 |ret=>intro S k;rfl
 |_=>intro S k;rfl
def al6(X:Ctx)(g:Func)(n:Nat)(S:St)(k:List Row->List Cell->Option R):anZ X g n S k=(leave X g n S).bind λr=>k r.1 r.2:=by
 simp only[anZ,leave,an0];split
 ·rename_i r m l he;simp only[he];rfl
 ·rename_i he;simp only[he];rfl
def axS(X:Ctx)(K:Vj)(L:Xg)(f:Nat)(args:List V)(cells:List Cell)(k:List Row->List Cell->Option R):bodyC X K L f args cells k=(afJ X K.to L.to f args cells).bind λr=>k r.1 r.2:=by
 simp only[bodyC,afJ];cases X.P.funcs[f]? with
 |none=>rfl
 |some g=>
  simp only;cases g.body with
  |none=>rfl
  |some c=>
   simp only;generalize (!(Nat.ble cells.length sG && Nat.ble args.length g.ntmps))=q;cases q with
   |true=>rfl
   |false=>
    simp only[bg,an0];cases(entry X f g args cells).run (uF 0 cells) .none with
    |none=>rfl
    |some r=>
     obtain⟨tm,m,l⟩:=r;simp only[Option.bind_some,ach,Xh,aum];cases Nv X K.to L.to f c ⟨tm,m⟩ with
     |none=>rfl
     |some r=>
      obtain⟨e,S⟩:=r;cases e with
      |normal=>simp only[Option.bind_some,al6]
      |ret=>simp only[Option.bind_some,al6]
      |exit j=>rfl
end
def axT{X:Ctx}{K:Vj}{L:Xg}{f:Nat}{args:List V}{cells:List Cell}{r:List Row×List Cell}(hp:X.Zx f=none)(hK:KLe K.to (call X))(hL:LOk X (call X) f L.to (loops (codeOf X.P f)))
  (h:bodyC X K L f args cells (λa b=>some (a,b))=some r):call X f args cells=some r:=by
 refine axO hp hK hL ?_;rw[axS] at h;cases hb:afJ X K.to L.to f args cells with
 |none=>rw[hb] at h;cases h
 |some q=>rw[hb] at h;exact h
def aCu{X:Ctx}{K:Vj}{L:Xg}{fn:Nat}{c:Code}{S:St}{r:Ex×St}(hK:KLe K.to (call X))(hL:LOk X (call X) fn L.to (loops c))(h:acg X K L fn c S (λa b=>some (a,b))=some r):den X (call X) fn c S=some r:=by
 refine aCs hK hL ?_;rw[aum] at h;cases hb:Nv X K.to L.to fn c S with
 |none=>rw[hb] at h;cases h
 |some q=>rw[hb] at h;exact h
def iterM{σ τ:Type}(b:σ->Option (σ⊕τ)):Nat->σ->Option τ
 |0,_=>none
 |n+1,s=>match b s with
  |some (.inl s')=>iterM b n s'
  |some (.inr t)=>some t
  |none=>none
def acj{σ τ:Type}{b:σ->Option (σ⊕τ)}:∀{n k:Nat} {s:σ} {t:τ},iterM b n s=some t->n<=k->iterM b k s=some t
 |0,_,_,_,h,_=>by simp[iterM] at h
 |n+1,0,_,_,_,hk=>by omega
 |n+1,k+1,s,t,h,hk=>by
  simp only[iterM] at h|-;cases hb:b s with
  |none=>simp[hb] at h
  |some q=>
   rw[hb] at h;cases q with
   |inl s'=>exact acj h ak
   |inr t'=>exact h
noncomputable def dU{σ τ:Type}(b:σ->Option (σ⊕τ))(s:σ):Option τ:=lim λn=>iterM b n s
def adk{σ τ:Type}{b:σ->Option (σ⊕τ)}{s:σ}{t:τ}{n:Nat}(h:iterM b n s=some t):dU b s=some t:=by
 refine zL h λm y hy=> ?_
 have h1:=acj h (Nat.le_max_left n m);rw[acj hy (Nat.le_max_right n m)] at h1;exact Option.some.inj h1
def acn{σ τ:Type}{b:σ->Option (σ⊕τ)}{s:σ}{t:τ}(h:dU b s=some t):∃n,iterM b n s=some t:=X6 h
def dN{σ τ:Type}{b:σ->Option (σ⊕τ)}{s s':σ}(h:b s=some (.inl s')):dU b s=dU b s':=by
 cases hl:dU b s' with
 |some t=>obtain⟨n,hn⟩:=acn hl;exact adk (n:=n+1) (by simp only[iterM,h];exact hn)
 |none=>
  cases hs:dU b s with
  |none=>rfl
  |some t=>
   obtain⟨n,hn⟩:=acn hs;cases n with
   |zero=>simp[iterM] at hn
   |succ n=>simp only[iterM,h] at hn;rw[adk hn] at hl;cases hl
def bP{σ τ:Type}{b:σ->Option (σ⊕τ)}{s:σ}{t:τ}(h:b s=some (.inr t)):dU b s=some t:=
 adk (n:=1) (by simp only[iterM,h])
def ji{σ τ:Type}{b:σ->Option (σ⊕τ)}{t:τ}(st:Nat->σ)(n:Nat)(h:∀i,i<n->b (st i)=some (.inl (st (i+1))))(he:b (st n)=some (.inr t)):∀i,i<=n->dU b (st i)=some t:=by
 intro i hi;obtain⟨d,rfl⟩:∃d,n=i+d:=⟨n - i,ak⟩
 induction d generalizing i with
 |zero=>exact bP he
 |succ d ih=>rw[dN (h i ak),ih (i+1) (λj hj=>h j ak) (by rw[show i+1+d=i+(d+1) by omega];exact he) ak]
def asQ{σ τ:Type}{b:σ->Option (σ⊕τ)}{D:St->Option (Ex×St)}{tm:σ->St}{tx:τ->Ex×St}
  (h:∀s r,b s=some r->D (tm s)=some (match r with| .inl s'=>(.normal,tm s')| .inr t=>tx t)) (hx:∀t,(tx t).1≠.normal) {s:σ} {t:τ} (hl:dU b s=some t):W9 D (tm s)=some (tx t):=by
 obtain⟨n,hn⟩:=acn hl;induction n generalizing s with
 |zero=>simp[iterM] at hn
 |succ n ih=>
  simp only[iterM] at hn;cases hb:b s with
  |none=>simp[hb] at hn
  |some q=>
   rw[hb] at hn;have hd:=h s q hb;cases q with
   |inl s'=>have hl':=ih (adk hn) hn;obtain⟨k,hk⟩:=acd hl';refine adh (n:=k+1) ?_;simp only[iter,hd];exact hk
   |inr t'=>
    simp only[jF] at hn;subst hn;refine adh (n:=1) ?_;simp only[iter,hd];have:=hx t';cases ht:tx t' with
    |mk e S=>cases e with
     |normal=>rw[ht] at this;exact absurd rfl this
     |exit id=>rfl
     |ret=>rfl
def aLR(X:Ctx)(f n:Nat)(c:Code)(P:St->ace (Ex×St)):Prop:=lid c=n/\∀S r,(P S).val=some r->W9 (den X (call X) f c) S=some r
def findLoop(n:Nat):Code->Option Code
 | .seq a b=>match findLoop n a with
  |some c=>some c
  |none=>findLoop n b
 | .cond _ a b=>match findLoop n a with
  |some c=>some c
  |none=>findLoop n b
 | .block _ c=>findLoop n c
 | .loop c=>bif Nat.beq (lid c) n then some c else findLoop n c
 |_=>none
def ZW(P:Program)(f n:Nat):Code:=match findLoop n (codeOf P f) with
 |some c=>c
 |none=> .skip
def axU{X:Ctx}{K:Vj}{L:Xg}{f:Nat}{args:List V}{cells:List Cell}{ρ:Type}{o:Option ρ}{enc:ρ->List Row×List Cell}(hp:X.Zx f=none)(hK:KLe K.to (call X))(hL:LOk X (call X) f L.to (loops (codeOf X.P f)))
  (h:bodyC X K L f args cells (λa b=>some (a,b))=o.bind λr=>some (enc r)) {r:ρ} (hr:o=some r):call X f args cells=some (enc r):=by
 refine axT hp hK hL ?_;rw[h,hr];rfl
def axV{X:Ctx}{K:Vj}{L:Xg}{f:Nat}{c:Code}{σ τ:Type}{b:σ->Option (σ⊕τ)}{tm:σ->St}{tx:τ->Ex×St}(hK:KLe K.to (call X))(hL:LOk X (call X) f L.to (loops c))
  (h:∀s,acg X K L f c (tm s) (λa b=>some (a,b))=(b s).bind λr=>some (match r with| .inl s'=>(.normal,tm s')| .inr t=>tx t)) (hx:∀t,(tx t).1≠.normal) {s:σ} {t:τ} (hl:dU b s=some t):
  W9 (den X (call X) f c) (tm s)=some (tx t):=by
 refine asQ (λs r hr=> ?_) hx hl;refine aCu hK hL ?_;rw[h s,hr];rfl
def axW{α β:Type}(c:Bool)(a b:Option α)(f:α->Option β):(bif c then a else b).bind f=bif c then a.bind f else b.bind f:=by cases c<;>rfl
def av3{α β γ:Type}(o:Option α)(g:α->Option β)(f:β->Option γ):(o.bind g).bind f=o.bind λx=>(g x).bind f:=by cases o<;>rfl
def ah{α β:Type}(a:α)(f:α->Option β):(some a).bind f=f a:=rfl
def av4{α β:Type}(f:α->Option β):(none:Option α).bind f=none:=rfl
def av5{α β:Type}(o:Option α)(n:Option β)(f:α->Option β):Option β:=match o with
 |none=>n
 |some x=>f x
def letE{α β:Type}(x:α)(f:α->Option β):Option β:=f x
def al7{α β γ:Type}(o:Option α)(n:Option β)(f:α->Option β)(g:β->Option γ):(av5 o n f).bind g=av5 o (n.bind g) λx=>(f x).bind g:=by cases o<;>rfl
def al8{α β γ δ:Type}(r:α⊕β)(f:α->Option γ)(g:β->Option γ)(k:γ->Option δ):(rO r f g).bind k=rO r (λx=>(f x).bind k) (λy=>(g y).bind k):=by cases r<;>rfl
def al9{α β γ:Type}(x:α)(f:α->Option β)(g:β->Option γ):(letE x f).bind g=letE x λy=>(f y).bind g:=rfl
def aLR.at{X:Ctx}{f n:Nat}{c:Code}{P:St->ace (Ex×St)}{L:Xg}(h:aLR X f n c P)(hL:∀S,L n S=P S):∀S r,L.to (lid c) S=some r->W9 (den X (call X) f c) S=some r:=by intro S r hr;rw[h.1,Xg.to,hL] at hr;exact h.2 S r hr
structure Pt(β:Type) where
 α:Type
 enc:α->β
 dec:β->Option α
 ok:∀b x,dec b=some x->b=enc x
noncomputable section
def pS:Pt V:=⟨List UInt8,λs=> .d (.str s),λv=>match v with| .d (.str s)=>some s|_=>none,by intro b x h;split at h<;>simp_all⟩
def pK(k:IntKind):Pt V:=⟨Int,λn=> .d (.int k n),λv=>match v with| .d (.int k' n)=>(match decEq k' k with| .isTrue _=>some n| .isFalse _=>none)|_=>none,by
 intro b x h;split at h
 ·split at h<;>simp_all
 ·cases h⟩
def pI:Pt V:=pK .i64
def pB:Pt V:=⟨Bool,λs=> .d (.bool s),λv=>match v with| .d (.bool s)=>some s|_=>none,by intro b x h;split at h<;>simp_all⟩
def pL(o:Bool)(s:Nat):Pt V:=⟨List Row,λr=> .d (.sl o s r),λv=>match v with| .d (.sl o' s' r)=>bif(o==o') && Nat.beq s s' then some r else none|_=>none,by
 intro b x h;split at h
 ·rename_i o' s' r;cases ho:(o==o')<;>cases hs:Nat.beq s s'<;>simp only[ho,hs,Bool.and_true,Bool.and_false,Bool.false_and,aK,bg,jF] at h
  all_goals first|cases h;done|skip
  cases h;rw[beq_iff_eq] at ho;rw[yV hs,ho]
 ·cases h⟩
def pZ{β:Type}(v:β)(t:β->Bool)(h:∀b,t b=true->b=v):Pt β:=⟨Unit,λ_=>v,λb=>bif t b then some () else none,by
 intro b x e;cases ht:t b with
 |true=>exact h b ht
 |false=>rw[ht] at e;cases e⟩
def aco(s:Nat):Pt V:=pZ (.nil s) (λv=>match v with| .nil t=>Nat.beq s t|_=>false) (by
 intro b h;split at h
 ·rw[yV h]
 ·cases h)
def axX{a b:Bool}(h:(a && b)=true):a=true/\b=true:=by simpa using h
def pO(r n:Nat):Pt V:=pZ (.own r n) (λv=>match v with| .own a b=>Nat.beq r a && Nat.beq n b|_=>false) (by
 intro b h;split at h
 ·obtain⟨h1,h2⟩:=axX h;rw[yV h1,yV h2]
 ·cases h)
def pP(r n:Nat):Pt V:=pZ (.ptr r n) (λv=>match v with| .ptr a b=>Nat.beq r a && Nat.beq n b|_=>false) (by
 intro b h;split at h
 ·obtain⟨h1,h2⟩:=axX h;rw[yV h1,yV h2]
 ·cases h)
def pR(o:Nat):Pt V:=⟨Row,λr=> .zx r o,λv=>match v with| .zx r c=>bif Nat.beq o c then some r else none|_=>none,by
 intro b x h;split at h
 ·rename_i r c;cases ht:Nat.beq o c with
  |false=>rw[ht] at h;cases h
  |true=>rw[ht] at h;cases h;rw[yV ht]
 ·cases h⟩
def aLS{β:Type}(p:Pt β)(q:Pt (List β)):Pt (List β):=⟨p.α×q.α,λx=>p.enc x.1::q.enc x.2,λl=>match l with|a::b=>(match p.dec a with|some x=>(match q.dec b with|some y=>some (x,y)|none=>none)|none=>none)|[]=>none,by
 intro b x h;split at h
 ·split at h
  ·rename_i hp;split at h
   ·rename_i hq;cases h;rw[p.ok _ _ hp,q.ok _ _ hq]
   ·cases h
  ·cases h
 ·cases h⟩
def aY8{β:Type}:Pt (List β):=pZ [] (λl=>match l with|[]=>true|_=>false) (by intro b h;split at h<;>simp_all)
def pl{β:Type}(l:List (Pt β)):Pt (List β):=List.rec aY8 (λp _ q=>aLS p q) l
def av6(f:Nat)(a b:List (Pt V)):Pt V:=⟨(pl a).α×(pl b).α,λx=> .clo f ((pl a).enc x.1) ((pl b).enc x.2),λv=>match v with| .clo g x y=>bif Nat.beq f g then(match(pl a).dec x with|some x=>(match(pl b).dec y with|some y=>some (x,y)|none=>none)|none=>none) else none|_=>none,by
 intro v x h;split at h
 ·rename_i g u w;cases ht:Nat.beq f g with
  |false=>rw[ht] at h;cases h
  |true=>
   rw[ht,aK] at h;split at h
   ·rename_i hp;split at h
    ·rename_i hq;cases h;rw[(pl a).ok _ _ hp,(pl b).ok _ _ hq,yV ht]
    ·cases h
   ·cases h
 ·cases h⟩
def iY(a:List (Pt V)):Pt V:=⟨(pl a).α,λx=> .agg ((pl a).enc x),λv=>match v with| .agg x=>(pl a).dec x|_=>none,by
 intro v x h;split at h
 ·rw[(pl a).ok _ _ h]
 ·cases h⟩
def cB(t:TypeId)(a:List (Pt V)):Pt Cell:=⟨(pl a).α,λx=> .box t ((pl a).enc x),λv=>match v with| .box u x=>bif Nat.beq t u then(pl a).dec x else none|_=>none,by
 intro v x h;split at h
 ·rename_i u y;cases ht:Nat.beq t u with
  |false=>rw[ht] at h;cases h
  |true=>rw[ht,aK] at h;rw[(pl a).ok _ _ h,yV ht]
 ·cases h⟩
def cA(z l:Bool)(n s:Nat):Pt Cell:=⟨List Row,λr=> .arr z l n s r,λv=>match v with| .arr z' l' n' s' r=>bif(z==z') &&((l==l') &&(Nat.beq n n' && Nat.beq s s')) then some r else none|_=>none,by
 intro b x h;split at h
 ·rename_i z' l' n' s' r;cases ht:((z==z') &&((l==l') &&(Nat.beq n n' && Nat.beq s s'))) with
  |false=>rw[ht] at h;cases h
  |true=>rw[ht] at h;obtain⟨h1,h2⟩:=axX ht;obtain⟨h2,h3⟩:=axX h2;obtain⟨h3,h4⟩:=axX h3;cases h;rw[beq_iff_eq] at h1 h2;rw[h1,h2,yV h3,yV h4]
 ·cases h⟩
def pKp(p:Pt V):Pt V:=⟨p.α,λx=> .NR (p.enc x),λv=>match v with| .NR y=>p.dec y|_=>none,by
 intro v x h;split at h
 ·rw[p.ok _ _ h]
 ·cases h⟩
def bH{β:Type}(n:Nat)(p:Pt β):Pt (Nat×β):=⟨p.α,λx=>(n,p.enc x),λy=>bif Nat.beq n y.1 then p.dec y.2 else none,by
 intro y x h;cases ht:Nat.beq n y.1 with
 |false=>rw[ht] at h;cases h
 |true=>rw[ht,aK] at h;rw[<-p.ok _ _ h,yV ht]⟩
def Gj(t:List (Pt (Nat×V)))(m:List (Pt (Nat×Cell))):Pt St:=⟨(pl t).α×(pl m).α,λx=>⟨(pl t).enc x.1,(pl m).enc x.2⟩,λS=>match(pl t).dec S.tm with|some x=>(match(pl m).dec S.mem with|some y=>some (x,y)|none=>none)|none=>none,by
 intro S x h;split at h
 ·rename_i hp;split at h
  ·rename_i hq;cases h;cases S;have e1:=(pl t).ok _ _ hp;have e2:=(pl m).ok _ _ hq;simp only at e1 e2;rw[e1,e2]
  ·cases h
 ·cases h⟩
def pOr{β:Type}(p q:Pt β):Pt β:=⟨p.α⊕q.α,λx=>match x with| .inl x=>p.enc x| .inr y=>q.enc y,λb=>match p.dec b with|some x=>some (.inl x)|none=>(match q.dec b with|some y=>some (.inr y)|none=>none),by
 intro b x h;split at h
 ·rename_i hp;cases h;exact p.ok _ _ hp
 ·split at h
  ·rename_i hq;cases h;exact q.ok _ _ hq
  ·cases h⟩
structure dQ where
 f:Nat
 p:Pt (List V)
 q:Pt (List Cell)
 ρ:Type
 enc:ρ->List Row×List Cell
@[reducible] def sg(f:Nat)(a:List (Pt V))(c:List (Pt Cell)){ρ:Type}(enc:ρ->List Row×List Cell):dQ:=⟨f,pl a,pl c,ρ,enc⟩
abbrev dQ.α(S:dQ):Type:=S.p.α×S.q.α
def dQ.ok(S:dQ)(X:Ctx)(o:S.α->Option S.ρ):Prop:=∀x r,o x=some r->call X S.f (S.p.enc x.1) (S.q.enc x.2)=some (S.enc r)
structure FE(X:Ctx) where
 f:Nat
 P:List V->List Cell->Option (Res (List Row×List Cell))
 ok:∀a c q r,P a c=some q->q.val=some r->call X f a c=some r
def fe{X:Ctx}{S:dQ}{o:S.α->Option S.ρ}(h:S.ok X o):FE X:=⟨S.f,λa c=>match S.p.dec a with|some x=>(match S.q.dec c with|some y=>some ⟨S.ρ,o (x,y),S.enc⟩|none=>none)|none=>none,by
 intro a c q r hq hr;split at hq
 ·rename_i x hx;split at hq
  ·rename_i y hy;cases hq;obtain⟨z,hz,rfl⟩:=Res.aiz hr;rw[S.p.ok _ _ hx,S.q.ok _ _ hy];exact h (x,y) z hz
  ·cases hq
 ·cases hq⟩
def kt{X:Ctx}(l:List (FE X)):Vj:=List.rec (λ_ _ _=> .none) (λe _ K g a c=>bif Nat.beq g e.f then(match e.P a c with|some r=>r|none=>K g a c) else K g a c) l
def aHd{X:Ctx}(l:List (FE X)):KLe (kt l).to (call X):=by
 induction l with
 |nil=>exact λ_ _ _ _ h=>by simp[Vj.to,kt,Res.none,Res.val] at h
 |cons e l ih=>
  intro g a c r hr;have hr':(bif Nat.beq g e.f then(match e.P a c with|some r=>r|none=>kt l g a c) else kt l g a c).val=some r:=hr
  by_cases h:g=e.f
  ·subst h;simp only[Nat.beq_refl,aK] at hr';split at hr'
   ·rename_i q hq;exact e.ok a c q r hq hr'
   ·exact ih _ a c r hr'
  ·rw[uV h] at hr';exact ih g a c r hr'
structure LE(X:Ctx)(f:Nat) where
 n:Nat
 c:Code
 P:St->Option (ace (Ex×St))
 hn:lid c=n
 ok:∀S q r,P S=some q->q.val=some r->W9 (den X (call X) f c) S=some r
def lt{X:Ctx}{f:Nat}(l:List (LE X f)):Xg:=List.rec (λ_ _=> .none) (λe _ L n S=>bif Nat.beq n e.n then(match e.P S with|some r=>r|none=> .none) else L n S) l
def apart(l:List Nat):Bool:=match l with
 |[]=>true
 |x::l=>l.all (λy=> !(Nat.beq x y)) && apart l
def axY{X:Ctx}{f:Nat}:∀(l:List (LE X f)),apart (l.map LE.n)=true->∀e,e∈l->∀S r,(lt l e.n S).val=some r->W9 (den X (call X) f e.c) S=some r
 |[],_,e,h,_,_,_=>by cases h
 |d::l,hd,e,he,S,r,hr=>by
  have hr':(bif Nat.beq e.n d.n then(match d.P S with|some r=>r|none=> .none) else lt l e.n S).val=some r:=hr;simp only[PO,apart,xw] at hd;rcases List.mem_cons.1 he with rfl|he
  ·simp only[Nat.beq_refl,aK] at hr';split at hr'
   ·rename_i q hq;exact e.ok S q r hq hr'
   ·simp[ace.none,ace.val] at hr'
  ·have h1:=List.all_eq_true.1 hd.1 e.n (List.mem_map_of_mem he);have h2:e.n≠d.n:=by intro h;rw[h,Nat.beq_refl] at h1;cases h1
   rw[uV h2] at hr';exact axY l hd.2 e he S r hr'
def aHe{X:Ctx}{f:Nat}{l:List (LE X f)}{cs:List Code}(h:cs=l.map LE.c)(hd:apart (l.map LE.n)=true):LOk X (call X) f (lt l).to cs:=by intro c hc S r hr;rw[h] at hc;obtain⟨e,he,rfl⟩:=List.mem_map.1 hc;rw[e.hn] at hr;exact axY l hd e he S r hr
def fnS{X:Ctx}{S:dQ}{o:S.α->Option S.ρ}(C:∀{R:Type},S.α->(S.ρ->Option R)->Option R)(K:List (FE X))(L:List (LE X S.f))(hn:∀{R:Type} x (k:S.ρ->Option R),C x k=(C x some).bind k)
  (hE:∀{R:Type} x (k:List Row->List Cell->Option R),bodyC X (kt K) (lt L) S.f (S.p.enc x.1) (S.q.enc x.2) k=C x (λr=>k (S.enc r).1 (S.enc r).2):=by intros;kernel_rfl)
  (hL:loops (codeOf X.P S.f)=L.map LE.c:=by kernel_rfl) (hd:apart (L.map LE.n)=true:=by kernel_rfl) (hp:X.Zx S.f=none:=by kernel_rfl) (ho:∀x,o x=C x some:=by intros;rfl):S.ok X o:=by
 intro x r h;rw[ho] at h;exact axU hp (aHd K) (aHe hL hd) (by rw[hE,hn]) h
def dQ.lim{X:Ctx}{S:dQ}{o:Nat->S.α->Option S.ρ}(h:∀n,S.ok X (o n)):S.ok X λx=>Vm.lim λn=>o n x:=by intro x r hr;obtain⟨n,hn⟩:=X6 hr;exact h n x r hn
def dQ.zero{X:Ctx}{S:dQ}:S.ok X λ_=>none:=λ_ _ h=>by cases h
def dQ.zL{X:Ctx}{S:dQ}{o:Nat->S.α->Option S.ρ}(h:∀n,S.ok X (o n))(hi:∀a b,S.enc a=S.enc b->a=b){x:S.α}{n:Nat}{r:S.ρ}(hr:o n x=some r):(Vm.lim λn=>o n x)=some r:=by
 refine Vm.zL hr λm y hy=> ?_
 have h1:=h n x r hr;have h2:=h m x y hy;rw[h1] at h2;exact(hi _ _ (Option.some.inj h2)).symm
def dQ.Zx{X:Ctx}{S:dQ}{o:S.α->Option S.ρ}{p:List V->List Cell->Option (List Row×List Cell)}(h:∀x,p (S.p.enc x.1) (S.q.enc x.2)=(o x).map S.enc:=by intros;rfl)(hp:X.Zx S.f=some p:=by kernel_rfl):S.ok X o:=by intro x r hr;exact anT hp (by rw[h,hr];rfl)
def le{X:Ctx}{f:Nat}(n:Nat)(p:Pt St){σ:Type}(v:p.α->σ)(g:p.α->σ->p.α)(A:p.α->Alt (Ex×St))(C:∀{R:Type} (x:p.α),σ->(σ->Option R)->((A x).T->Option R)->Option R)(K:List (FE X))(L:List (LE X f))
  (hn:∀{R:Type} x s (kn:σ->Option R) (ke:(A x).T->Option R),C x s kn ke=(C x s (λs=>some (Sum.inl s)) (λt=>some (Sum.inr t))).bind λr=>match r with| .inl s=>kn s| .inr t=>ke t)
  (hE:∀{R:Type} x s (k:Ex->St->Option R),acg X (kt K) (lt L) f (ZW X.P f n) (p.enc (g x s)) k=C x s (λs=>k .normal (p.enc (g x s))) (λt=>(A x).go t λr=>k r.1 r.2):=by intros;kernel_rfl)
  (hx:∀x t,((A x).enc t).1≠.normal:=by first|(intro x t h;cases h;done)|(intro x t;rcases t with t|t<;>first|(intro h;cases h;done)|(rcases t with t|t<;>first|(intro h;cases h;done)|(rcases t with t|t<;>(intro h;cases h)))))
  (hv:∀x,g x (v x)=x:=by first|(intros;rfl)|(rintro(_|_)<;>rfl)|(rintro(_|_|_)<;>rfl)|(rintro(_|_|_|_)<;>rfl))
  (hL:loops (ZW X.P f n)=L.map LE.c:=by kernel_rfl) (hd:apart (L.map LE.n)=true:=by kernel_rfl) (hi:lid (ZW X.P f n)=n:=by kernel_rfl):LE X f:=
 ⟨n,ZW X.P f n,λS=>match p.dec S with|some x=>some ⟨A x,dU (λs=>C x s (λs=>some (Sum.inl s)) (λt=>some (Sum.inr t))) (v x)⟩|none=>none,hi,by
  intro S q r hq hr;split at hq
  ·rename_i x hp;cases hq;obtain⟨t,ht,rfl⟩:=ace.aiz hr;rw[p.ok _ _ hp];have h:=axV (X:=X) (f:=f) (c:=ZW X.P f n) (K:=kt K) (L:=lt L) (tm:=λs=>p.enc (g x s)) (tx:=(A x).enc) (aHd K) (aHe hL hd) (λs=>by
    rw[hE,hn];congr 1;funext r;cases r
    ·rfl
    ·exact Alt.go_eq _ _ _) (hx x) ht
   rwa [hv] at h
  ·cases hq⟩
def nb:(∀(α β:Type) (c:Bool) (a b:Option α) (f:α->Option β),(bif c then a else b).bind f=bif c then a.bind f else b.bind f)/\(∀(α β γ:Type) (o:Option α) (g:α->Option β) (f:β->Option γ),(o.bind g).bind f=o.bind λx=>(g x).bind f)/\
  (∀(α β:Type) (a:α) (f:α->Option β),(some a).bind f=f a)/\(∀(α β:Type) (f:α->Option β),(none:Option α).bind f=none)/\
  (∀(α β γ:Type) (o:Option α) (n:Option β) (f:α->Option β) (g:β->Option γ),(av5 o n f).bind g=av5 o (n.bind g) λx=>(f x).bind g)/\
  (∀(α β γ δ:Type) (r:α⊕β) (f:α->Option γ) (g:β->Option γ) (k:γ->Option δ),(rO r f g).bind k=rO r (λx=>(f x).bind k) (λy=>(g y).bind k))/\
  (∀(α β γ:Type) (x:α) (f:α->Option β) (g:β->Option γ),(letE x f).bind g=letE x λy=>(f y).bind g):=
 ⟨λ_ _=>axW,λ_ _ _=>av3,λ_ _=>ah,λ_ _=>av4,λ_ _ _=>al7,λ_ _ _ _=>al8,λ_ _ _=>al9⟩
section
variable {α β ρ R:Type} {k:ρ->Option R}
def fD{c:Bool}{x y:Option R}{u v:Option ρ}(h1:x=u.bind k)(h2:y=v.bind k):(bif c then x else y)=(bif c then u else v).bind k:=by cases c<;>assumption
def I4{o:Option α}{f:α->Option R}{g:α->Option ρ}(h:∀a,f a=(g a).bind k):o.bind f=(o.bind g).bind k:=by cases o with
 |none=>rfl
 |some a=>exact h a
def I5{o:Option α}{n:Option R}{m:Option ρ}{f:α->Option R}{g:α->Option ρ}(h1:n=m.bind k)(h:∀a,f a=(g a).bind k):av5 o n f=(av5 o m g).bind k:=by rw[al7,h1,funext h]
def I7{o:α⊕β}{f:α->Option R}{g:β->Option R}{f':α->Option ρ}{g':β->Option ρ}(h1:∀a,f a=(f' a).bind k)(h2:∀a,g a=(g' a).bind k):rO o f g=(rO o f' g').bind k:=by rw[al8,funext h1,funext h2]
def I8{x:α}{f:α->Option R}{g:α->Option ρ}(h:∀a,f a=(g a).bind k):letE x f=(letE x g).bind k:=by rw[al9,funext h]
end
end
def aB{n:Int}(h1: -9223372036854775808<=n)(h2:n<=9223372036854775807):i64.wrap n=n:=IntWalk.i64_in n ⟨h1,h2⟩
def ahj{α β:Type}(f:α->β)(l:List α)(i:Int):idx (l.map f) i=(idx l i).map f:=by unfold idx;cases decide (0<=i)<;>simp
def bC{α:Type}(l:List α)(i:Nat):idx l (i:Int)=l[i]? :=by simp[idx]
structure Nd where
 kind:Int
 op:Int
 text:List UInt8
 other:List UInt8
 kids:List Int
 deriving DecidableEq,Inhabited
def encI(l:List Int):List Row:=l.map λk=>[.int .i64 k]
def encS(l:List (List UInt8)):List Row:=l.map λs=>[.str s]
def NU(o:Bool)(n:Nd):Row:=[.int .i64 n.kind,.int .i64 n.op,.str n.text,.str n.other,.sl o 1 (encI n.kids)]
def aZ(o:Bool)(l:List Nd):List Row:=l.map (NU o)
structure Tk where
 kind:Int
 text:List UInt8
 at_:Int
 deriving DecidableEq,Inhabited
def aiD(n:Tk):Row:=[.int .i64 n.kind,.str n.text,.int .i64 n.at_]
def mV(l:List Tk):List Row:=l.map aiD
section
variable (o:Bool) (n:Nd) (l:List Nd) (k:List Int) (i:Int) (t:Tk) (ts:List Tk)
@[simp] theorem bf:(encI k).length=k.length:=by simp[encI]
@[simp] theorem fO:(aZ o l).length=l.length:=by simp[aZ]
@[simp] theorem iT:(mV ts).length=ts.length:=by simp[mV]
@[simp] theorem aiE:idx (encI k) i=(idx k i).map λk=>[D.int .i64 k]:=ahj _ _ _
@[simp] theorem aLp:idx (aZ o l) i=(idx l i).map (NU o):=ahj _ _ _
@[simp] theorem aLq:idx (mV ts) i=(idx ts i).map aiD:=ahj _ _ _
@[simp] theorem nI(j:Nat):(encI k)[j]? =(k[j]?).map λk=>[D.int .i64 k]:=by simp[encI]
@[simp] theorem kZ(j:Nat):(aZ o l)[j]? =(l[j]?).map (NU o):=by simp[aZ]
@[simp] theorem aLr(j:Nat):(mV ts)[j]? =(ts[j]?).map aiD:=by simp[mV]
@[simp] theorem Nw:bM .i64 (NU o n) 0=some n.kind:=rfl
@[simp] theorem PU:bM .i64 (NU o n) 1=some n.op:=rfl
@[simp] theorem Pz:cStr (NU o n) 2=some n.text:=rfl
@[simp] theorem PV:cStr (NU o n) 3=some n.other:=rfl
@[simp] theorem JM:NP 1 (NU o n) 4=some (encI n.kids):=rfl
@[simp] theorem cT0:bM .i64 (aiD t) 0=some t.kind:=rfl
@[simp] theorem cT1:cStr (aiD t) 1=some t.text:=rfl
@[simp] theorem cT2:bM .i64 (aiD t) 2=some t.at_:=rfl
@[simp] theorem NV:bM .i64 [D.int .i64 i] 0=some i:=rfl
@[simp] theorem aun:aG (encI k)=encI k:=by
 induction k with
 |nil=>rfl
 |cons x l ih=>simp only[encI,PO,aG] at ih|-;rw[ih];rfl
@[simp] theorem X8:aG (aZ o l)=aZ false l:=by
 induction l with
 |nil=>rfl
 |cons x l ih=>simp only[aZ,PO,aG] at ih|-;rw[ih];simp[NU,qo,D.fz,aun]
@[simp] theorem aLT:aG (mV ts)=mV ts:=by
 induction ts with
 |nil=>rfl
 |cons x l ih=>simp only[mV,PO,aG] at ih|-;rw[ih];simp[aiD,qo,D.fz]
@[simp] theorem zB:ay (encI k)=true:=by simp only[ay,encI,List.all_map,List.all_eq_true];intro x _;rfl
def axZ(j:Nat):(encI k).set j [D.int .i64 i]=encI (k.set j i):=by simp[encI,List.map_set]
end
def I64(n:Int):Prop:= -9223372036854775808<=n/\n<=9223372036854775807
structure Fit(n:Nd):Prop where
 kind:I64 n.kind
 op:I64 n.op
 text:n.text.length<=maxLen
 other:n.other.length<=maxLen
 kids:n.kids.length<=maxLen
 kid:∀k,k∈n.kids->I64 k
structure a8z(n:Tk):Prop where
 kind:I64 n.kind
 text:n.text.length<=maxLen
 at_:I64 n.at_
section
variable {X:Ctx} {base:Nat} {U:Nat->Prop} {w w':World} {f:FuncId} {gargs jD:List Value} {N1 N2:List Nat} {P:Program}
def adl{args:List V}(hG:Given X base U w f args [] gargs jD N1 N2)(hm:∀i,i<args.length->JW X.UO f i=0):
  jD=[]/\N1=[]/\N2=[]/\dn (impμ []) [] (view w U (· ∈([]:List Nat)++[])) args gargs:=by
 obtain⟨rfl,rfl⟩:=hG.cells;have key:∀(args:List V) (i:Nat) (gs:List Value) (N:List Nat) (hv:View),(∀j,i<=j->j<i+args.length->JW X.UO f j=0)->VU X.UO f (impμ []) (uF 0 []) (dA w) hv i args gs N->N=[]/\dn (impμ []) [] hv args gs:=by
  intro args;induction args with
  |nil=>intro i gs N hv _ h;simp only[VU] at h;exact⟨h.2,by simpa[dn] using h.1⟩
  |cons a args ih=>intro i gs N hv hi h;simp only[VU,hi i (Nat.le_refl _) (by simp)] at h;obtain⟨g,gs',M1,M2,rfl,rfl,⟨rfl,hq⟩,hr⟩:=h;obtain⟨rfl,hs⟩:=ih (i+1) gs' M2 hv (λj h1 h2=>hi j ak (by simp only[mQ];omega)) hr;exact⟨rfl,by simp only[dn];exact⟨g,gs',rfl,hq,hs⟩⟩
 obtain⟨rfl,hs⟩:=key args 0 gargs N1 _ (λj _ hj=>hm j ak) hG.args;exact⟨rfl,rfl,rfl,hs⟩
def aiF{μ:Nat->Value}{m:Mem}{h:View}{a b:List UInt8}(q:dn μ m h [.d (.str a),.d (.str b)] gargs):gargs=[.string ⟨⟨a⟩⟩,.string ⟨⟨b⟩⟩]:=by simp only[dn,aO,ro] at q;obtain⟨g,gs,rfl,rfl,g',gs',rfl,rfl,rfl⟩:=q;rfl
def YO{t:TypeId}{x:D}{g:Value}(ht:Sv P t=false)(hpt:ahI P t=none)(hx:∀H h,ow H h x g [])(hk:Keep [] w w'):Did P U w w' ([]++[]) [t] [] [] [] [[x]] [g] [] []:=by
 refine⟨hk,by simp,by simp,rfl,⟨rfl,rfl⟩, ?_⟩;simp only[Xd];refine⟨_,_,_,_,[],[],rfl,rfl,rfl,(Qg hpt).2 ⟨[g], ?_, ?_,rfl⟩,rfl,rfl,rfl⟩
 ·rw[valOf,if_neg (by rw[ht];simp)]
 ·simp only[iW];exact⟨_,_,[],[],rfl,rfl,hx _ _,rfl⟩
def afK{H:Heap}{h:View}:∀(l:List (List UInt8)),gJ H h 1 (encS l) (l.map λs=>Value.string ⟨⟨s⟩⟩) []
 |[]=>rfl
 |s::l=>by simp only[encS,PO,gJ];refine⟨rfl,[],[],rfl, ?_,afK l⟩;simp only[iW];exact⟨_,_,[],[],rfl,rfl,⟨rfl,rfl⟩,rfl⟩
def ax0{t T:TypeId}{l:List (List UInt8)}(hl:l≠[])(ht:Sv P t=false)(hpt:ahI P t=none)(hU:∀b,w.heap.size<=b->U b):
  Did P U w (w.alloc (.cells (l.map λs=>Value.string ⟨⟨s⟩⟩).toArray T)) ([]++[]) [t] [] [] [] [[.sl true 1 (encS l)]] [.slice (some ⟨w.heap.size,0,none⟩) l.length l.length] [] [w.heap.size]:=by
 refine⟨YG,by simp,λb hb=> ?_,rfl,⟨rfl,rfl⟩, ?_⟩
 ·simp at hb;subst hb;exact⟨.inr (Nat.le_refl _),by rw[World.size_alloc];omega⟩
 ·simp only[Xd];refine⟨_,_,_,_,[w.heap.size],[],rfl,rfl,rfl,(Qg hpt).2 ⟨[.slice (some ⟨w.heap.size,0,none⟩) l.length l.length], ?_, ?_,rfl⟩,rfl,rfl,rfl⟩
  ·rw[valOf,if_neg (by rw[ht];simp)]
  ·simp only[iW];refine⟨_,_,[w.heap.size],[],rfl,rfl, ?_,rfl⟩;simp only[ow];refine .inr ⟨w.heap.size,l.length,(l.map λs=>Value.string ⟨⟨s⟩⟩).toArray,T,[], ?_, ?_,VZ rfl, ?_,afK l,rfl⟩
   ·simp[encS]
   ·simp[encS]
   ·simp
end
inductive Tn where
 |mk (kind op:Int) (text other:List UInt8) (kids:List Tn)
mutual
def Tn.size:Tn->Nat
 | .mk _ _ _ _ ks=>sizes ks+1
def sizes:List Tn->Nat
 |[]=>0
 |t::ts=>t.size+sizes ts
end
def ends:List Tn->Nat->List Int
 |[],_=>[]
 |t::ts,b=>((b:Int)+t.size - 1)::ends ts (b+t.size)
mutual
def Tn.flat:Tn->Nat->List Nd
 | .mk k o x y ks,b=>jE ks b++[⟨k,o,x,y,ends ks b⟩]
def jE:List Tn->Nat->List Nd
 |[],_=>[]
 |t::ts,b=>t.flat b++jE ts (b+t.size)
end
mutual
def Tn.row(w:Bool):Tn->Row
 | .mk k o x y ks=>[.int .i64 k,.int .i64 o,.str x,.str y,.sl w 5 (fE w ks)]
def fE(w:Bool):List Tn->List Row
 |[]=>[]
 |t::ts=>t.row w::fE w ts
end
mutual
def Tn.depth:Tn->Int
 | .mk _ _ _ _ ks=>depths 0 ks+1
def depths(a:Int):List Tn->Int
 |[]=>a
 |t::ts=>depths (bif decide (a<t.depth) then t.depth else a) ts
end
def Tn.kids:Tn->List Tn| .mk _ _ _ _ ks=>ks
def Tn.kind:Tn->Int| .mk k _ _ _ _=>k
def Tn.op:Tn->Int| .mk _ o _ _ _=>o
def Tn.text:Tn->List UInt8| .mk _ _ x _ _=>x
def Tn.other:Tn->List UInt8| .mk _ _ _ y _=>y
def Tn.ind{P:Tn->Prop}(h:∀k o x y ks,(∀t,t∈ks->P t)->P (.mk k o x y ks))(t:Tn):P t:=by
 refine Tn.rec (motive_1:=P) (motive_2:=λks=>∀t,t∈ks->P t) ?_ ?_ ?_ t
 ·intro k o x y ks ih;exact h k o x y ks ih
 ·intro t ht;cases ht
 ·intro t ts h1 h2 u hu;rcases List.mem_cons.1 hu with rfl|hu
  ·exact h1
  ·exact h2 u hu
def Tn.size_pos:∀t:Tn,1<=t.size
 | .mk _ _ _ _ ks=>by rw[Tn.size];omega
def Tn.uf(t:Tn):t.size=sizes t.kids+1:=by cases t;rfl
def jd:∀a b:List Tn,sizes (a++b)=sizes a+sizes b
 |[],b=>by simp[sizes]
 |t::a,b=>by rw[VE,sizes,sizes,jd a b];omega
def jr:∀ks:List Tn,ks.length<=sizes ks
 |[]=>Nat.le_refl _
 |t::ts=>by have:=jr ts;have:=t.size_pos;rw[sizes,mQ];omega
def iP:∀{ks:List Tn} {t:Tn},t∈ks->t.size<=sizes ks
 |u::ts,t,h=>by
  rw[sizes];rcases List.mem_cons.1 h with rfl|h
  ·omega
  ·have:=iP h;omega
def IK:∀a:List Tn,sizes a.reverse=sizes a
 |[]=>rfl
 |t::a=>by rw[List.reverse_cons,jd,IK a,sizes,sizes,sizes];omega
def eH:∀(ks:List Tn) (b:Nat),(ends ks b).length=ks.length
 |[],_=>rfl
 |t::ts,b=>by rw[ends,mQ,eH ts,mQ]
def Xi:∀(a c:List Tn) (b:Nat),ends (a++c) b=ends a b++ends c (b+sizes a)
 |[],c,b=>by simp[ends,sizes]
 |t::a,c,b=>by rw[VE,ends,ends,Xi a c,sizes,VE,Nat.add_assoc]
def Qj:∀(a c:List Tn) (b:Nat),jE (a++c) b=jE a b++jE c (b+sizes a)
 |[],c,b=>by simp[jE,sizes]
 |t::a,c,b=>by rw[VE,jE,jE,Qj a c,sizes,JR,Nat.add_assoc]
mutual
def Tn.flat_length:∀(t:Tn) (b:Nat),(t.flat b).length=t.size
 | .mk _ _ _ _ ks,b=>by rw[Tn.flat,Tn.size,rJ,oq ks b];rfl
def oq:∀(ks:List Tn) (b:Nat),(jE ks b).length=sizes ks
 |[],_=>rfl
 |t::ts,b=>by rw[jE,sizes,rJ,t.flat_length b,oq ts]
end
def ax1{ks:List Tn}{b j:Nat}(h:j<ks.length):(ends ks b)[j]? =some ((b:Int)+sizes (ks.take (j+1)) - 1):=by
 induction ks generalizing b j with
 |nil=>simp at h
 |cons t ts ih=>
  cases j with
  |zero=>simp[ends,sizes]
  |succ j=>simp only[mQ,Nat.add_lt_add_iff_right] at h;rw[ends,List.getElem?_cons_succ,ih h,List.take_succ_cons,sizes];congr 1;omega
def Nd.up(d:Int)(n:Nd):Nd:={n with kids:=n.kids.map (· +d)}
def auo:∀(ks:List Tn) (b c:Nat),ends ks c=(ends ks b).map (· +((c:Int) - b))
 |[],_,_=>rfl
 |t::ts,b,c=>by rw[ends,ends,PO,auo ts (b+t.size) (c+t.size)];have e:(((c+t.size:Nat):Int) - ((b+t.size:Nat):Int))=(c:Int) - b:=ak;rw[e];congr 1;omega
mutual
def Tn.an2:∀(t:Tn) (b c:Nat),t.flat c=(t.flat b).map (Nd.up ((c:Int) - b))
 | .mk k o x y ks,b,c=>by rw[Tn.flat,Tn.flat,List.map_append,apu ks b c,auo ks b c];rfl
def apu:∀(ks:List Tn) (b c:Nat),jE ks c=(jE ks b).map (Nd.up ((c:Int) - b))
 |[],_,_=>rfl
 |t::ts,b,c=>by rw[jE,jE,List.map_append,t.an2 b c,apu ts (b+t.size) (c+t.size)];have e:(((c+t.size:Nat):Int) - ((b+t.size:Nat):Int))=(c:Int) - b:=ak;rw[e]
end
def Lies(l:List Nd)(b:Nat)(t:Tn):Prop:=∃pre post,l=pre++(t.flat b++post)/\pre.length=b
def Lies.whole(t:Tn):Lies (t.flat 0) 0 t:=⟨[],[],by simp,rfl⟩
def Lies.root{l:List Nd}{b:Nat}{k o:Int}{x y:List UInt8}{ks:List Tn}(h:Lies l b (.mk k o x y ks)):l[b+sizes ks]? =some ⟨k,o,x,y,ends ks b⟩:=by obtain⟨pre,post,rfl,rfl⟩:=h;rw[Tn.flat,List.getElem?_append_right ak,JR,List.getElem?_append_right (by rw[oq];omega),oq];simp
def Lies.kid{l:List Nd}{b:Nat}{k o:Int}{x y:List UInt8}{a c:List Tn}{t:Tn}(h:Lies l b (.mk k o x y (a++t::c))):Lies l (b+sizes a) t:=by obtain⟨pre,post,rfl,rfl⟩:=h;refine⟨pre++jE a pre.length,jE c (pre.length+sizes a+t.size)++[⟨k,o,x,y,ends (a++t::c) pre.length⟩]++post, ?_,by rw[rJ,oq]⟩;rw[Tn.flat,Qj,jE];simp only[JR]
def Lies.lt{l:List Nd}{b:Nat}{t:Tn}(h:Lies l b t):b+t.size<=l.length:=by obtain⟨pre,post,rfl,rfl⟩:=h;simp only[rJ,t.flat_length];omega
def Lies.part{l:List Nd}{b:Nat}{t:Tn}(h:Lies l b t):(l.drop b).take t.size=t.flat b:=by obtain⟨pre,post,rfl,rfl⟩:=h;rw[List.drop_left,<-t.flat_length pre.length,List.take_left]
def dV(st:List Int):List Int->Int->Option Int
 |[],at_=>some at_
 |k::ks,at_=>if at_<0\/k≠at_ then none else dV st ks ((st[k.toNat]?.getD 0) - 1)
def fZ:List Int->List (List Int)->Option (List Int)
 |st,[]=>some st
 |st,n::l=>match dV st n.reverse ((st.length:Int) - 1) with
  |none=>none
  |some at_=>fZ (st++[at_+1]) l
def qW(l:List (List Int)):Option (List Int):=if 1<=l.length/\l.length<=400 then fZ [] l else none
def ks(l:List Nd):List (List Int):=l.map (·.kids)
def J4(l:List Nd):Bool:=match qW (ks l) with
 |none=>false
 |some st=>st[l.length - 1]?.getD 0==0
def SG(l:List Nd):(ks l).length=l.length:=by simp[ks]
def av7(a b:List Nd):ks (a++b)=ks a++ks b:=by simp[ks]
def V7(st:List Int):List Tn->Prop
 |[]=>True
 |t::ts=>st[sizes (t::ts) - 1]? =some (sizes ts:Int)/\V7 st ts
def ama{st u:List Int}:∀{ts:List Tn},sizes ts<=st.length->(V7 (st++u) ts↔V7 st ts)
 |[],_=>Iff.rfl
 |t::ts,h=>by
  have hp:=t.size_pos;have h1:sizes ts<=st.length:=by rw[sizes] at h;omega
  rw[V7,V7,ama h1,List.getElem?_append_left (by rw[sizes] at h|-;omega)]
def aiG{st:List Int}:∀{ks:List Int} {ts:List Tn} {a:Int},V7 st ts->dV st ks ((sizes ts:Int) - 1)=some a->
  ∃u v,ts=u++v/\ks.reverse=ends u.reverse (sizes v)/\a=(sizes v:Int) - 1
 |[],ts,a,_,h=>by rw[dV] at h;cases h;exact⟨[],ts,rfl,rfl,rfl⟩
 |k::ks,[],a,_,h=>by rw[dV,if_pos (.inl (by simp[sizes]))] at h;cases h
 |k::ks,t::ts,a,hr,h=>by
  have hp:=t.size_pos;have hs:sizes (t::ts)=t.size+sizes ts:=by rw[sizes]
  rw[dV] at h;split at h
  ·cases h
  ·rename_i hc;have hk:k=(sizes (t::ts):Int) - 1:=ak;have hk':k.toNat=sizes (t::ts) - 1:=ak;rw[hk',hr.1,Option.getD_some] at h;obtain⟨u,v,rfl,h1,h2⟩:=aiG hr.2 h;refine⟨t::u,v,rfl, ?_,h2⟩;rw[List.reverse_cons,List.reverse_cons,h1,Xi,IK,hk,hs,jd,ends,ends];congr 2;omega
def aiH{st:List Int}:∀{u v:List Tn},V7 st (u++v)->V7 st v
 |[],_,h=>h
 |_::u,_,h=>aiH (u:=u) h.2
def adn:∀(l pre:List Nd) (st r:List Int) (ts:List Tn),pre=jE ts.reverse 0->st.length=pre.length->V7 st ts->fZ st (ks l)=some r->
  ∃us,pre++l=jE us.reverse 0/\r.length=(pre++l).length/\V7 r us
 |[],pre,st,r,ts,h1,h2,h3,h=>by rw[show ks []=[] from rfl,fZ] at h;cases h;exact⟨ts,by simpa using h1,by simpa using h2,h3⟩
 |n::l,pre,st,r,ts,h1,h2,h3,h=>by
  have hk:ks (n::l)=n.kids::ks l:=rfl;have hpl:pre.length=sizes ts:=by rw[h1,oq,IK]
  rw[hk,fZ] at h;split at h
  ·cases h
  ·rename_i a ha;rw[h2,hpl] at ha;obtain⟨u,v,rfl,hu,rfl⟩:=aiG h3 ha;rw[List.reverse_reverse] at hu;have hz:sizes (Tn.mk n.kind n.op n.text n.other u.reverse::v)=sizes u+1+sizes v:=by rw[sizes,Tn.size,IK]
   have:=adn l (pre++[n]) (st++[(sizes v:Int) - 1+1]) r (Tn.mk n.kind n.op n.text n.other u.reverse::v) (by
    rw[h1,List.reverse_append,List.reverse_cons,Qj,Qj,jE,jE,Tn.flat,List.append_nil,JR,IK,Nat.zero_add,<-hu]) (by simp[h2]) (by
    refine⟨?_, ?_⟩
    ·rw[hz,List.getElem?_append_right (by rw[h2,hpl,jd];omega),h2,hpl,jd];rw[show sizes u+1+sizes v - 1 - (sizes u+sizes v)=0 by omega];simp
    ·rw[ama (by rw[h2,hpl,jd];omega)];exact aiH h3) h
   obtain⟨us,k1,k2,k3⟩:=this;exact⟨us,by simpa using k1,by simpa using k2,k3⟩
def asR{l:List Nd}(h:J4 l=true):∃t:Tn,l=t.flat 0/\t.size<=400:=by
 unfold J4 at h;cases hs:qW (ks l) with
 |none=>rw[hs] at h;cases h
 |some r=>
  rw[hs] at h;unfold qW at hs;split at hs
  ·rename_i hq;rw[SG] at hq;obtain⟨us,k1,k2,k3⟩:=adn l [] [] r [] rfl rfl trivial hs;simp only[List.nil_append] at k1 k2;have hl:l.length=sizes us:=by rw[k1,oq,IK]
   cases us with
   |nil=>rw[sizes] at hl;omega
   |cons t ts=>
    rw[V7,<-hl] at k3;simp only[k3.1,Option.getD_some,beq_iff_eq] at h;have:ts=[]:=by
     cases ts with
     |nil=>rfl
     |cons u us=>have:=u.size_pos;rw[sizes] at h;omega
    subst this;refine⟨t,by simpa[jE] using k1, ?_⟩;rw[sizes,sizes] at hl;omega
  ·cases hs
mutual
def Tn.sts:Tn->Nat->List Int
 | .mk _ _ _ _ ks,b=>WT ks b++[(b:Int)]
def WT:List Tn->Nat->List Int
 |[],_=>[]
 |t::ts,b=>t.sts b++WT ts (b+t.size)
end
mutual
def Tn.aiI:∀(t:Tn) (b:Nat),(t.sts b).length=t.size
 | .mk _ _ _ _ ks,b=>by rw[Tn.sts,Tn.size,rJ,Uy ks b];rfl
def Uy:∀(ks:List Tn) (b:Nat),(WT ks b).length=sizes ks
 |[],_=>rfl
 |t::ts,b=>by rw[WT,sizes,rJ,t.aiI b,Uy ts]
end
def Tn.aiJ:∀(t:Tn) (b:Nat),∃u,t.sts b=u++[(b:Int)]/\u.length=t.size - 1
 | .mk _ _ _ _ ks,b=>⟨WT ks b,by rw[Tn.sts],by rw[Uy,Tn.size];omega⟩
def av8{st:List Int}{b:Nat}(hb:st.length=b):∀(ks:List Tn) (u:List Int),dV (st++WT ks b++u) (ends ks b).reverse ((b:Int)+sizes ks - 1)=some ((b:Int) - 1):=by
 intro ks;induction hn:ks.length generalizing ks with
 |zero=>intro u;have:ks=[]:=List.length_eq_zero_iff.1 hn;subst this;simp[ends,dV,sizes]
 |succ n ih=>
  intro u;obtain⟨ts,t,rfl⟩:∃ts t,ks=ts++[t]:=by
   have hne:ks≠[]:=by intro e;simp[e] at hn
   exact⟨ks.dropLast,ks.getLast hne,(List.dropLast_concat_getLast hne).symm⟩
  have hp:=t.size_pos;have hss:WT (ts++[t]) b=WT ts b++t.sts (b+sizes ts):=by
   have:∀(ts:List Tn) (b:Nat),WT (ts++[t]) b=WT ts b++t.sts (b+sizes ts):=by
    intro ts;induction ts with
    |nil=>intro b;simp[WT,sizes]
    |cons v vs ihv=>intro b;rw[VE,WT,WT,ihv,sizes,JR,Nat.add_assoc]
   exact this ts b
  have hsz:sizes (ts++[t])=sizes ts+t.size:=by rw[jd,sizes,sizes];omega
  rw[Xi,List.reverse_append,ends,ends,List.reverse_singleton,List.singleton_append,dV,hsz];have hn':¬((b:Int)+((sizes ts+t.size:Nat):Int) - 1<0\/((b+sizes ts:Nat):Int)+t.size - 1≠(b:Int)+((sizes ts+t.size:Nat):Int) - 1):=ak;rw[if_neg hn'];obtain⟨w,hw,hwl⟩:=t.aiJ (b+sizes ts);have hget:(st++WT (ts++[t]) b++u)[(((b+sizes ts:Nat):Int)+t.size - 1).toNat]? =some ((b+sizes ts:Nat):Int):=by
   rw[hss,hw];have e:(((b+sizes ts:Nat):Int)+t.size - 1).toNat=(st++WT ts b++w).length:=by simp only[rJ,hb,Uy,hwl];omega
   rw[e,show st++(WT ts b++(w++[((b+sizes ts:Nat):Int)]))++u=(st++WT ts b++w)++(((b+sizes ts:Nat):Int)::u) by simp,List.getElem?_append_right (Nat.le_refl _)];simp
  rw[hget,Option.getD_some,hss,show st++(WT ts b++t.sts (b+sizes ts))++u=st++WT ts b++(t.sts (b+sizes ts)++u) by simp];have:=ih ts (by simpa using hn) (t.sts (b+sizes ts)++u);rw[<-this];congr 1
mutual
def Tn.ZX:∀(t:Tn) (st:List Int) (l:List Nd),fZ st (ks (t.flat st.length++l))=fZ (st++t.sts st.length) (ks l)
 | .mk k o x y us,st,l=>by rw[Tn.flat,JR,ado us st];have e:ks ([⟨k,o,x,y,ends us st.length⟩]++l)=ends us st.length::ks l:=rfl;have hw:=av8 (st:=st) rfl us [];rw[List.append_nil] at hw;rw[e,fZ,rJ,Uy,Int.natCast_add,hw,Tn.sts];simp only;rw[JR];congr 3;simp
def ado:∀(us:List Tn) (st:List Int) (l:List Nd),fZ st (ks (jE us st.length++l))=fZ (st++WT us st.length) (ks l)
 |[],st,l=>by simp[jE,WT]
 |t::us,st,l=>by rw[jE,JR,t.ZX st];have:=ado us (st++t.sts st.length) l;rw[rJ,t.aiI] at this;rw[this,WT,JR]
end
def ZY(t:Tn):fZ [] (ks (t.flat 0))=some (t.sts 0):=by have:=t.ZX [] [];simpa[ks,fZ] using this
def Lies.sts{l:List Nd}{t:Tn}(hl:l=t.flat 0){b:Nat}{u:Tn}(h:Lies l b u):(t.sts 0)[b+u.size - 1]? =some (b:Int):=by
 obtain⟨pre,post,e,hb⟩:=h;have h0:=ZY t;rw[<-hl,e,av7] at h0;have key:∀(a c:List (List Int)) (st r:List Int),fZ st (a++c)=some r->∃m,fZ st a=some m/\fZ m c=some r/\m.length=st.length+a.length:=by
  intro a;induction a with
  |nil=>intro c st r h;exact⟨st,rfl,h,by simp⟩
  |cons x a ih=>
   intro c st r h;rw[VE,fZ] at h;rw[fZ];split at h
   ·cases h
   ·obtain⟨m,k1,k2,k3⟩:=ih c _ r h;exact⟨m,k1,k2,by rw[k3];simp;omega⟩
 obtain⟨m,k1,k2,k3⟩:=key _ _ _ _ h0;have hm:m.length=b:=by rw[k3,SG,hb];simp
 subst hm;rw[u.ZX m post] at k2;have pref:∀(a:List (List Int)) (st r:List Int),fZ st a=some r->∃w,r=st++w:=by
  intro a;induction a with
  |nil=>intro st r h;cases h;exact⟨[],by simp⟩
  |cons x a ih=>
   intro st r h;rw[fZ] at h;split at h
   ·cases h
   ·obtain⟨w,hw⟩:=ih _ r h;exact⟨_,by rw[hw,JR]⟩
 obtain⟨w,hw⟩:=pref _ _ _ k2;obtain⟨v,hv,hvl⟩:=u.aiJ m.length;have hp:=u.size_pos;rw[hw,hv,show m++(v++[(m.length:Int)])++w=(m++v)++((m.length:Int)::w) by simp,show m.length+u.size - 1=(m++v).length by rw[rJ,hvl];omega,List.getElem?_append_right (Nat.le_refl _)];simp
def X9(w:Bool):∀ts:List Tn,fE w ts=ts.map (Tn.row w)
 |[]=>rfl
 |t::ts=>by rw[fE,X9 w ts];rfl
mutual
def aJf(w:Bool):∀t:Tn,qo (t.row w)=t.row false
 | .mk k o x y ts=>by have:=aiK w ts;simp only[Tn.row,qo,D.fz,this]
def aiK(w:Bool):∀ts:List Tn,aG (fE w ts)=fE false ts
 |[]=>rfl
 |t::ts=>by rw[fE,aG,aJf w t,aiK w ts,fE]
end
def it{α:Type}(f:α->α):Nat->α->α
 |0,x=>x
 |n+1,x=>it f n (f x)
def asT{α:Type}(f:α->α)(x:α):it f 0 x=x:=rfl
def ahk{α:Type}(f:α->α)(n:Nat)(x:α):it f (n+1) x=it f n (f x):=rfl
def aiL{α:Type}(f:α->α):∀(m n:Nat) (x:α),it f (m+n) x=it f n (it f m x)
 |0,n,x=>by rw[Nat.zero_add];rfl
 |m+1,n,x=>by rw[Nat.add_right_comm];exact aiL f m n (f x)
def an3{α:Type}(f:α->α)(n:Nat)(x:α):it f (n+1) x=f (it f n x):=aiL f n 1 x
def aiM:Nat:=18446744073709551616
def adp(x:Nat):Nat:=(6364136223846793005 * x+1442695040888963407) % aiM
def pwT:List (Nat×Nat):=[(6364136223846793005,1442695040888963407),(7520897724310334953,1876011003808476466),(18108194425815612945,7401132627792533940),(13086856194709077281,6566661184467396264),(10186629832379121217,3646985772805368400),(10828933358287359105,982119659650238624),(4910590176156014849,10607473198416945472),(9908147928152388097,6914523672464851584),(146241703003251713,4689171378020353280),(7321387688379467777,8103286608563669504),(12255457568021647361,7710372194127975424),(9867978473775767553,16043993925053589504),(5088048636545613825,1993901509916512256),(2150478223927705601,13175896319671181312),(9196835419631190017,1993366741509554176),(5957860013156466689,7241871532530761728),(10389140232424652801,9829074100562493440),(13023643825678581761,7211655632440131584),(288945459443007489,14014807304630960128),(13413133364217511937,15586959662575517696),(8991946233350193153,5614651135149211648),(1986842707489718273,10449321915693662208),(13772462672974970881,17778722412968280064),(11399802156803424257,4631015078550831104),(13559343778149433345,14683519683525607424),(8604389488178757633,14159509325327892480),(16938562998715285505,4382386631181598720),(14349518013152100353,5251965553014210560),(5928836310318972929,14899444342342025216),(13010594125244792833,10487453482519363584),(12186130195207421953,17516142451218186240),(5925516316705292289,2750482773444657152),(11851032633410584577,5500965546889314304),(5255321193111617537,11001931093778628608),(10510642386223235073,3557118113847705600),(2574540698736918529,7114236227695411200),(5149081397473837057,14228472455390822400),(10298162794947674113,10010200837072093184),(2149581516185796609,1573657600434634752),(4299163032371593217,3147315200869269504),(8598326064743186433,6294630401738539008),(17196652129486372865,12589260803477078016),(15946560185263194113,6731777533244604416),(13446376296816836609,13463555066489208832),(8446008519924121601,8480366059268866048),(16892017039848243201,16960732118537732096),(15337290005986934785,15474720163365912576),(12227835938264317953,12502696253022273536),(6008927802819084289,6558648432334995456),(12017855605638168577,13117296864669990912),(5588967137566785537,7787849655630430208),(11177934275133571073,15575699311260860416),(3909124476557590529,12704654548812169216),(7818248953115181057,6962565023914786816),(15636497906230362113,13925130047829573632),(12826251738751172609,9403516021949595648),(7205759403792793601,360287970189639680),(14411518807585587201,720575940379279360),(10376293541461622785,1441151880758558720),(2305843009213693953,2882303761517117440),(4611686018427387905,5764607523034234880),(9223372036854775809,11529215046068469760),(1,4611686018427387904),(1,9223372036854775808)]
def ahl:List (Nat×Nat)->Bool
 |a::l=>(match l with
  |b::_=>Nat.beq b.1 (a.1 * a.1 % aiM) && Nat.beq b.2 ((a.1 * a.2+a.2) % aiM)
  |[]=>true) && ahl l
 |[]=>true
def apv:Nat->List (Nat×Nat)->Bool
 |p,a::l=>Nat.beq (a.1 %(2 * p)) 1 &&(Nat.beq (a.2 %(2 * p)) p && apv (2 * p) l)
 |_,[]=>true
def ax2:ahl pwT=true:=by kernel_rfl
def aJg:apv 1 pwT=true:=by kernel_rfl
def aJh:pwT.length=64:=by kernel_rfl
def aff(M a c x:Nat):(a * ((a * x+c) % M)+c) % M=(a * a % M * x+(a * c+c) % M) % M:=by
 have h1:(a * ((a * x+c) % M)+c) % M=(a * (a * x+c)+c) % M:=by rw[Nat.add_mod,Nat.mul_mod,Nat.mod_mod,<-Nat.mul_mod,<-Nat.add_mod]
 have h2:(a * a % M * x+(a * c+c) % M) % M=(a * a * x+(a * c+c)) % M:=by rw[Nat.add_mod,Nat.mod_mod,Nat.mul_mod,Nat.mod_mod,<-Nat.mul_mod,<-Nat.add_mod]
 rw[h1,h2,Nat.mul_add,Nat.mul_assoc,Nat.add_assoc]
def aup:∀(l:List (Nat×Nat)) (k:Nat) (a:Nat×Nat),ahl (a::l)=true->(∀x,it adp (2 ^ k) x=(a.1 * x+a.2) % aiM)->∀(j:Nat) q,(a::l)[j]? =some q->∀x,it adp (2 ^(k+j)) x=(q.1 * x+q.2) % aiM
 |l,k,a,_,h,0,q,hq=>by cases hq;exact h
 |[],k,a,_,h,j+1,q,hq=>by simp at hq
 |b::l,k,a,hs,h,j+1,q,hq=>by
  rw[ahl] at hs;simp only[xw] at hs;have h1:=yV hs.1.1;have h2:=yV hs.1.2;have hb:∀x,it adp (2 ^(k+1)) x=(b.1 * x+b.2) % aiM:=by intro x;rw[Nat.pow_succ,Nat.mul_two,aiL,h x,h,h1,h2,aff]
  rw[<-Nat.add_assoc,Nat.add_right_comm];exact aup l (k+1) b hs.2 hb j q (by simpa using hq)
def apw:∀(l:List (Nat×Nat)) (k:Nat),apv (2 ^ k) l=true->∀(j:Nat) q,l[j]? =some q->q.1 % 2 ^(k+j+1)=1/\q.2 % 2 ^(k+j+1)=2 ^(k+j)
 |[],k,_,j,q,hq=>by simp at hq
 |a::l,k,h,0,q,hq=>by cases hq;rw[apv] at h;simp only[xw] at h;rw[Nat.add_zero,Nat.pow_succ,Nat.mul_comm];exact⟨yV h.1,yV h.2.1⟩
 |a::l,k,h,j+1,q,hq=>by
  rw[apv] at h;simp only[xw] at h;have:=apw l (k+1) (by rw[Nat.pow_succ,Nat.mul_comm];exact h.2.2) j q (by simpa using hq)
  rwa [show k+1+j=k+(j+1) by omega] at this
def ax3(a:Nat×Nat)(h:a=(6364136223846793005,1442695040888963407))(x:Nat):it adp (2 ^ 0) x=(a.1 * x+a.2) % aiM:=by rw[h,Nat.pow_zero,it,it,adp]
def aCv:pwT.head? =some (6364136223846793005,1442695040888963407):=by kernel_rfl
def aLU(k:Nat)(hk:k<64):∃q:Nat×Nat,q.1 % 2 ^(k+1)=1/\q.2 % 2 ^(k+1)=2 ^ k/\∀x,it adp (2 ^ k) x=(q.1 * x+q.2) % aiM:=by
 have h1:=ax2;have h2:=aJg;have h3:=aJh;have h4:=aCv;generalize pwT=l at h1 h2 h3 h4;cases hq:l[k]? with
 |none=>rw[List.getElem?_eq_none_iff] at hq;omega
 |some q=>
  obtain⟨ha,hc⟩:=apw l 0 h2 k q hq;rw[Nat.zero_add] at ha hc;cases l with
  |nil=>simp at h4
  |cons a l=>simp only[List.head?_cons,jF] at h4;have hs:=aup l 0 a h1 (ax3 a h4) k q hq;rw[Nat.zero_add] at hs;exact⟨q,ha,hc,hs⟩
def apx:∀(k:Nat),k<=64->∀x,∃t,it adp t x % 2 ^ k=0
 |0,_,x=>⟨0,Nat.mod_one _⟩
 |k+1,hk,x=>by
  obtain⟨t,ht⟩:=apx k ak x;have hm:it adp t x % 2 ^(k+1)=2 ^ k * (it adp t x / 2 ^ k % 2):=by rw[Nat.pow_succ,Nat.mod_mul,ht,Nat.zero_add]
  have h2:it adp t x / 2 ^ k % 2=0\/it adp t x / 2 ^ k % 2=1:=ak;rcases h2 with h2|h2
  ·exact⟨t,by rw[hm,h2,Nat.mul_zero]⟩
  ·rw[h2,Nat.mul_one] at hm;refine⟨t+2 ^ k, ?_⟩;obtain⟨q,ha,hc,hs⟩:=aLU k ak;have hd:2 ^(k+1)∣aiM:=by
    have:aiM=2 ^ 64:=by decide
    rw[this];exact Nat.pow_dvd_pow 2 hk
   rw[aiL,hs,Nat.mod_mod_of_dvd _ hd,Nat.add_mod,Nat.mul_mod,ha,hm,hc,Nat.one_mul];have hlt:2 ^ k<2 ^(k+1):=by rw[Nat.pow_succ];have:=Nat.two_pow_pos k;omega
   rw[Nat.mod_eq_of_lt hlt,Nat.pow_succ,Nat.mul_two,Nat.mod_self]
def nxH(h:Int):Int:=i64.wrap (i64.wrap (h * 6364136223846793005)+1442695040888963407)
def asU(h:Int):Nat:=(h % 18446744073709551616).toNat
def ax4(h:Int): -9223372036854775808<=nxH h/\nxH h<=9223372036854775807:=by unfold nxH;rw[IntKind.wrap_i64,IntKind.wrap_i64];omega
def apy(z:Int):i64.wrap z % 18446744073709551616=z % 18446744073709551616:=by rw[IntKind.wrap_i64];omega
def aCw(a c m h:Int)(hm:0<m):(a * ((h % m).toNat:Int)+c) % m=(h * a+c) % m:=by rw[Int.toNat_of_nonneg (Int.emod_nonneg h ak),Int.add_emod,Int.mul_emod,Int.emod_emod_of_dvd h (Int.dvd_refl m),<-Int.mul_emod,<-Int.add_emod,Int.mul_comm]
def aJi(h:Int):asU (nxH h)=adp (asU h):=by
 have h1:nxH h % 18446744073709551616=(h * 6364136223846793005+1442695040888963407) % 18446744073709551616:=by unfold nxH;rw[apy,Int.add_emod,apy,<-Int.add_emod]
 have h2:=aCw 6364136223846793005 1442695040888963407 18446744073709551616 h (by decide);unfold asU adp aiM;rw[h1,<-h2];generalize (h % 18446744073709551616).toNat=x;have h3:((6364136223846793005 * (x:Int)+1442695040888963407) % 18446744073709551616)=(((6364136223846793005 * x+1442695040888963407) % 18446744073709551616:Nat):Int):=by rw[Int.natCast_emod,Int.natCast_add,Int.natCast_mul];rfl
 rw[h3,VO]
def ax5:∀(n:Nat) (h:Int),asU (it nxH n h)=it adp n (asU h)
 |0,_=>by rw[asT,asT]
 |n+1,h=>by rw[ahk,ahk,ax5 n,aJi]
def aCx(h:Int):∃t,it nxH t h=0:=by
 obtain⟨t,ht⟩:=apx 64 (Nat.le_refl _) (asU (nxH h));refine⟨t+1, ?_⟩;rw[ahk];rw[<-ax5 t] at ht;have hr: -9223372036854775808<=it nxH t (nxH h)/\it nxH t (nxH h)<=9223372036854775807:=by
  cases t with
  |zero=>exact ax4 h
  |succ t=>rw[an3];exact ax4 _
 have e:(2:Nat) ^ 64=18446744073709551616:=by decide
 rw[e] at ht;unfold asU at ht;omega
def adq(x:Int):Nat:=(BitVec.ofInt 64 x &&& BitVec.ofInt 64 255).toNat
def apz(h:Int):Int:=i64.wrap (↑(BitVec.ofInt 64 (h.fdiv 8589934592) ^^^ BitVec.ofInt 64 (h.fdiv 35184372088832)).toNat:Int)
def auq(x:Int):adq x<256:=by
 unfold adq;rw[BitVec.toNat_and];have:=@Nat.and_le_right (BitVec.ofInt 64 x).toNat (BitVec.ofInt 64 255).toNat;have e:(BitVec.ofInt 64 255).toNat=255:=by decide
 omega
structure Cu where
 code:List UInt8
 i:Nat
 h:Int
def Cu.nx(s:Cu):Cu:=⟨s.code,if s.i<s.code.length then s.i+1 else s.i,nxH s.h⟩
def Cu.byte(s:Cu):Nat:=match s.code[s.i]? with
 |some b=>adq (i64.wrap ((adq (apz (nxH s.h)):Int)+b.toNat))
 |none=>adq (apz (nxH s.h))
def Cu.aCy(s:Cu):s.byte<256:=by unfold Cu.byte;split<;>exact auq _
def Cu.st(s:Cu)(p:Nat):Cu:=it Cu.nx p s
def Cu.g(s:Cu)(p:Nat):Nat:=(s.st p).byte
def Cu.st_succ(s:Cu)(p:Nat):s.st (p+1)=(s.st p).nx:=an3 _ _ _
def Cu.apA(s:Cu)(p q:Nat):(s.st p).st q=s.st (p+q):=(aiL _ _ _ _).symm
def Cu.Oc(s:Cu):∀p,(s.st p).code=s.code
 |0=>rfl
 |p+1=>by rw[Cu.st_succ];exact Cu.Oc s p
def Cu.ax6(s:Cu)(h:s.i<=s.code.length):∀p,(s.st p).i=min (s.i+p) s.code.length
 |0=>by show s.i=_;omega
 |p+1=>by rw[Cu.st_succ];show(if(s.st p).i<(s.st p).code.length then(s.st p).i+1 else(s.st p).i)=_;rw[Cu.Oc,Cu.ax6 s h p];split<;>omega
def Cu.aJj(s:Cu):∀p,(s.st p).h=it nxH p s.h
 |0=>rfl
 |p+1=>by rw[Cu.st_succ,an3,<-Cu.aJj s p];rfl
def Cu.zero(c:List UInt8):Cu:=⟨c,c.length,0⟩
def Cu.aCz(s:Cu)(h:s.i<=s.code.length):∃t,s.st t=Cu.zero s.code:=by
 obtain⟨t,ht⟩:=aCx (s.st (s.code.length - s.i)).h;refine⟨s.code.length - s.i+t, ?_⟩;rw[<-Cu.apA];have h1:((s.st (s.code.length - s.i)).st t).h=0:=by rw[Cu.aJj];exact ht
 have h2:((s.st (s.code.length - s.i)).st t).i=s.code.length:=by rw[Cu.apA,Cu.ax6 s h];omega
 have h3:((s.st (s.code.length - s.i)).st t).code=s.code:=by rw[Cu.Oc,Cu.Oc]
 cases hs:(s.st (s.code.length - s.i)).st t with
 |mk c i h=>rw[hs] at h1 h2 h3;simp only at h1 h2 h3;subst h1 h2 h3;rfl
def adr(p:Nat):Nat:=adq (apz (nxH (it nxH p 0)))
def Cu.aJk(c:List UInt8)(p:Nat):(Cu.zero c).g p=adr p:=by
 unfold Cu.g Cu.byte adr;have h1:((Cu.zero c).st p).i=c.length:=by rw[Cu.ax6 _ (Nat.le_refl _)];show min (c.length+p) c.length=_;omega
 have h2:((Cu.zero c).st p).code=c:=Cu.Oc _ _;have h3:((Cu.zero c).st p).h=it nxH p 0:=Cu.aJj _ _;rw[h1,h2,h3,List.getElem?_eq_none (Nat.le_refl _)]
def av9(f:(Nat->Nat)->Nat->Nat×Nat)(lim L:Nat)(P:Cu->Prop)
  (hstep:∀(s:Cu) (p:Nat),s.i<=s.code.length->p<(f s.g p).2/\(f s.g p).2<=p+L/\((f s.g p).1<=lim->P (s.st p))/\(P (s.st (f s.g p).2)->P (s.st p)))
  (hsmall:∀j,j<=L->(f adr j).1<=lim):∀s:Cu,s.i<=s.code.length->P s:=by
 have key:∀(n t:Nat) (s:Cu),t<n->s.i<=s.code.length->s.st t=Cu.zero s.code->P s:=by
  intro n;induction n with
  |zero=>intro t s h;omega
  |succ n ih=>
   intro t s ht hi hz;obtain⟨h1,h2,_,h4⟩:=hstep s 0 hi;refine h4 ?_;have hi':(s.st (f s.g 0).2).i<=(s.st (f s.g 0).2).code.length:=by rw[Cu.Oc,Cu.ax6 s hi];omega
   by_cases hle:(f s.g 0).2<=t
   ·refine ih (t - (f s.g 0).2) _ ak hi' ?_;rw[Cu.apA,Cu.Oc,show(f s.g 0).2+(t - (f s.g 0).2)=t by omega];exact hz
   ·have e:s.st (f s.g 0).2=(Cu.zero s.code).st ((f s.g 0).2 - t):=by rw[<-hz,Cu.apA];congr 1;omega
    rw[e];refine(hstep (Cu.zero s.code) _ (Nat.le_refl _)).2.2.1 ?_;have hg:(Cu.zero s.code).g=adr:=funext (Cu.aJk _);rw[hg];exact hsmall _ ak
 intro s hi;obtain⟨t,ht⟩:=s.aCz hi;exact key (t+1) t s ak hi ht
mutual
def tyD(P:Program):Nat->TypeId->Row->Prop
 |0,_,_=>False
 |n+1,t,row=>match P.underlying t with
  |some .bool=>∃b,row=[.bool b]
  |some (.int k)=>∃x,row=[.int k x]/\(Lit.int k x).wf=true
  |some .string=>∃s,row=[.str s]/\s.length<=maxLen
  |some (.slice e)=>∃rows,row=[.sl false (oU P e) rows]/\rows.length<=maxLen/\∀r,r∈rows->tyD P n e r
  |some (.struct fs)=>ax7 P n fs.toList row
  |_=>False
def ax7(P:Program):Nat->List Field->Row->Prop
 |_,[],row=>row=[]
 |n,f::fs,row=>∃r1 r2,row=r1++r2/\tyD P n f.type r1/\ax7 P n fs r2
end
def aev(P:Program):Nat->List Field->Option Nat
 |o,[]=>some o
 |o,f::fs=>bif Nat.beq f.offset o then aev P (o+P.cellsOf f.type) fs else none
def afL(P:Program):Nat->TypeId->Bool
 |0,_=>false
 |n+1,t=>match P.underlying t with
  |some .bool|some (.int _)|some .string=>true
  |some (.slice e)=>afL P n e && Nat.ble 1 (oU P e)
  |some (.struct fs)=>(match aev P 0 fs.toList with|some o=>Nat.beq o (P.cellsOf t)|none=>false) && fs.toList.all λf=>afL P n f.type
  |_=>false
def awc(P:Program)(t:TypeId):oU P t=P.cellsOf t:=by unfold oU Program.cellsOf;cases P.info? t<;>rfl
def aiN{α β:Type}{f:α->Option β}:∀{l:List α} {r:List β},l.mapM f=some r->r.length=l.length/\∀(i:Nat) x,l[i]? =some x->∃y,f x=some y/\r[i]? =some y
 |[],r,h=>by simp at h;subst h;exact⟨rfl,λi x h=>by simp at h⟩
 |a::l,r,h=>by
  rw[List.mapM_cons] at h;simp only[Option.bind_eq_bind,Option.bind_eq_some_iff,Option.pure_def,jF] at h;obtain⟨y,h1,r',h2,rfl⟩:=h;obtain⟨h3,h4⟩:=aiN h2;refine⟨by simp[h3],λi x hx=> ?_⟩;cases i with
  |zero=>simp only[List.getElem?_cons_zero,jF] at hx;subst hx;exact⟨y,h1,rfl⟩
  |succ i=>simpa using h4 i x (by simpa using hx)
def aur{α:Type}{p:Nat->α->Prop}:∀(n k:Nat),(∀i,i<n->∃x,p (k+i) x)->∃l:List α,l.length=n/\∀(i:Nat) x,l[i]? =some x->p (k+i) x
 |0,_,_=>⟨[],rfl,λi x h=>by simp at h⟩
 |n+1,k,h=>by
  obtain⟨x,hx⟩:=h 0 ak;obtain⟨l,h1,h2⟩:=aur n (k+1) (λi hi=>by
   have:=h (i+1) ak
   rwa [show k+(i+1)=k+1+i by omega] at this)
  refine⟨x::l,by simp[h1],λi y hy=> ?_⟩;cases i with
  |zero=>simp only[List.getElem?_cons_zero,jF] at hy;subst hy;exact hx
  |succ i=>
   have:=h2 i y (by simpa using hy)
   rwa [show k+1+i=k+(i+1) by omega] at this
def apB{h:View}:∀(r:Row) (b o:Nat) (cs:List Value),(∀(j:Nat) v,cs[j]? =some v->h b (o+j)=some v)->jg h r cs->yX h r b o
 |[],_,_,_,_,_=>trivial
 |x::r,b,o,cs,hc,⟨v,cs',e,h1,h2⟩=>by
  subst e;exact⟨⟨v,by simpa using hc 0 v rfl,h1⟩,apB r b (o+1) cs' (λj u hj=>by
   have:=hc (j+1) u (by simpa using hj)
   rwa [show o+(j+1)=o+1+j by omega] at this) h2⟩
def amb{h:View}{s b:Nat}:∀(rs:List Row) (o:Nat),(∀(i:Nat) r,rs[i]? =some r->r.length=s/\yX h r b (o+i * s))->oW h s rs b o
 |[],_,_=>trivial
 |r::rs,o,hr=>by
  obtain⟨h1,h2⟩:=hr 0 r rfl;refine⟨h1,by simpa using h2,amb rs (o+s) λi q hq=> ?_⟩;obtain⟨h3,h4⟩:=hr (i+1) q (by simpa using hq);refine⟨h3, ?_⟩
  rwa [show o+(i+1) * s=o+s+i * s by rw[Nat.succ_mul];omega] at h4
def afM{h:View}:∀{r1 r2:Row} {c1 c2:List Value},jg h r1 c1->r1.length=c1.length->jg h r2 c2->jg h (r1++r2) (c1++c2)
 |[],r2,c1,c2,_,hl,h2=>by have:c1=[]:=List.length_eq_zero_iff.1 hl.symm;subst this;exact h2
 |x::r1,r2,_,c2,⟨v,cs',e,h1,h3⟩,hl,h2=>by subst e;exact⟨v,cs'++c2,rfl,h1,afM h3 (by simpa using hl) h2⟩
def aiO{w:World}{base:Nat}{a:Addr}{n:Nat}{cs:List Value}(h:w.cells? base a n=some cs):cs.length=n/\∀j,j<n->∃v,w.cell? (a.add j)=some v/\cs[j]? =some v:=by
 unfold World.cells? at h;split at h
 ·obtain⟨h1,h2⟩:=aiN h;rw[List.length_range] at h1;refine⟨h1,λj hj=> ?_⟩;exact h2 j j (by simp[hj])
 ·cases h
section
variable {H:Type} {enc:TypeId×Value->H} {P:Program} {w:World} {base:Nat} {spare:Nat->Bool} {held:Bool}
def amc{n:Nat}(ih:∀(t:TypeId) (cs:List Value) (d:DataW H) (ps:List MemPlace),afL P n t=true->DataW.trod enc P w base spare held n t cs=some (d,ps)->∃row:Row,row.length=cs.length/\tyD P n t row/\jg (full w) row cs):
  ∀(fs:List Field) (o tot:Nat) (cs:List Value) (xs:List (DataW H×List MemPlace)),aev P o fs=some tot->(fs.all λf=>afL P n f.type)=true->tot<=cs.length->
   fs.mapM (λf=>DataW.trod enc P w base spare held n f.type ((cs.drop f.offset).take (P.cellsOf f.type)))=some xs->
   ∃row:Row,row.length=tot - o/\o<=tot/\ax7 P n fs row/\jg (full w) row ((cs.drop o).take (tot - o))
 |[],o,tot,cs,xs,hc,_,_,_=>by simp only[aev,jF] at hc;subst hc;exact⟨[],by simp,Nat.le_refl _,by simp[ax7],trivial⟩
 |f::fs,o,tot,cs,xs,hc,hg,hle,hm=>by
  simp only[aev] at hc;cases hb:Nat.beq f.offset o with
  |false=>simp[hb] at hc
  |true=>
   simp only[hb,aK] at hc;have hbo:=yV hb;simp only[List.all_cons,xw] at hg;rw[List.mapM_cons] at hm;simp only[Option.bind_eq_bind,Option.bind_eq_some_iff,Option.pure_def,jF] at hm;obtain⟨y,h1,ys,h2,rfl⟩:=hm;obtain⟨aLV,l2,le2,t2,s2⟩:=amc ih fs _ tot cs ys hc hg.2 hle h2;obtain⟨aCA,l1,t1,s1⟩:=ih _ _ y.1 y.2 hg.1 h1;rw[hbo] at l1 s1;have hl:((cs.drop o).take (P.cellsOf f.type)).length=P.cellsOf f.type:=by simp;omega
   rw[hl] at l1;refine⟨aCA++aLV,by simp[l1,l2];omega,ak,by simp only[ax7];exact⟨aCA,aLV,rfl,t1,t2⟩, ?_⟩;have e:(cs.drop o).take (tot - o)=(cs.drop o).take (P.cellsOf f.type)++(cs.drop (o+P.cellsOf f.type)).take (tot - (o+P.cellsOf f.type)):=by rw[<-List.drop_drop,show tot - o=P.cellsOf f.type+(tot - (o+P.cellsOf f.type)) by omega,List.take_add]
   rw[e];exact afM s1 (by rw[l1,hl]) s2
def an4:∀(n:Nat) (t:TypeId) (cs:List Value) (d:DataW H) (ps:List MemPlace),afL P n t=true->DataW.trod enc P w base spare held n t cs=some (d,ps)->
  ∃row:Row,row.length=cs.length/\tyD P n t row/\jg (full w) row cs
 |0,t,cs,d,ps,hg,_=>by simp[afL] at hg
 |n+1,t,cs,d,ps,hg,h=>by
  simp only[afL] at hg;unfold DataW.trod at h;cases hu:P.underlying t with
  |none=>simp[hu] at hg
  |some D=>
   rw[hu] at hg h;cases D with
   |bool=>split at h<;>simp_all;rename_i b;exact⟨[.bool b],by simp,by simp[tyD,hu],_,_,rfl,rfl,trivial⟩
   |int k=>split at h<;>simp_all;rename_i k' x _;obtain⟨⟨rfl,hw⟩,_⟩:=h;refine⟨[.int _ x],by simp, ?_,_,_,rfl,rfl,trivial⟩;simp only[tyD,hu];exact⟨x,rfl,hw⟩
   |string=>
    split at h<;>simp_all;rename_i s;refine⟨[.str s.data.toList],by simp, ?_,_,_,rfl, ?_,trivial⟩
    ·simp only[tyD,hu];refine⟨_,rfl, ?_⟩;simpa using h.1
    ·simp[ro]
   |slice e=>
    simp only[xw] at hg;split at h
    all_goals first
     |(rename_i e1;cases e1;done)
     |(cases h;done)
     |(exfalso;rename_i h21 _ _ _ _ _ _ _ _ _ _ _ _ _ _ _ _ _ _ _;exact h21 _ rfl)
     |skip
    case h_7=>
     rename_i e1;refine⟨[.sl false (oU P e) []],rfl, ?_,_,_,rfl, ?_,trivial⟩
     ·simp only[tyD,hu];exact⟨[],rfl,by simp,λr hr=>by simp at hr⟩
     ·simp only[ro];exact⟨none,0,rfl,by simp,λhn=>absurd rfl hn⟩
    case h_8=>
     rename_i _ e' a len cap e1;cases e1;split at h
     ·rename_i hb;rw[Option.bind_eq_some_iff] at h;obtain⟨elems,hel,_⟩:=h;obtain⟨hl,hget⟩:=aiN hel;rw[List.length_range] at hl;have hs:=awc P e;have hpos:1<=P.cellsOf e:=by rw[<-hs];exact Nat.le_of_ble_eq_true hg.2
      have hrow:∀i,i<len->∃r:Row,tyD P n e r/\r.length=oU P e/\a.spot=none/\yX (full w) r a.block (a.off+i * oU P e):=by
       intro i hi;obtain⟨y,hy,_⟩:=hget i i (by simp[hi]);rw[Option.bind_eq_some_iff] at hy;obtain⟨cs,hcs,hy⟩:=hy;obtain⟨row,l1,t1,s1⟩:=an4 n e cs y.1 y.2 hg.1 hy;obtain⟨hcl,hcg⟩:=aiO hcs;refine⟨row,t1,by rw[l1,hcl,hs], ?_, ?_⟩
       ·obtain⟨y0,hy0,_⟩:=hget 0 0 (List.getElem?_range ak);rw[Option.bind_eq_some_iff] at hy0;obtain⟨cs0,hcs0,_⟩:=hy0;obtain⟨u,hu1,_⟩:=(aiO hcs0).2 0 ak;simpa[Addr.add] using World.cell?_spot hu1
       ·refine apB row a.block _ cs (λj v hj=> ?_) s1;have hjn:j<P.cellsOf e:=by have:=(PN.1 hj).1;omega
        obtain⟨u,hu1,hu2⟩:=hcg j hjn;rw[hu2] at hj;cases hj;have hsp:=World.cell?_spot hu1;have e2:((a.add (i * P.cellsOf e)).add j)=⟨a.block,a.off+i * oU P e+j,none⟩:=by
         rw[hs];generalize i * P.cellsOf e=q at hsp|-;obtain⟨ab,ao,as_⟩:=a;rcases Nat.eq_zero_or_pos q with h1|h1<;>rcases Nat.eq_zero_or_pos j with h2|h2
         ·subst h1;subst h2;have:as_=none:=hsp;subst this;rfl
         ·subst h1;simp[Addr.add,show j≠0 by omega]
         ·subst h2;simp[Addr.add,show q≠0 by omega]
         ·simp[Addr.add,show q≠0 by omega,show j≠0 by omega]
        rw[e2] at hu1;exact hu1
      obtain⟨rows,r1,r2⟩:=aur (p:=λi (r:Row)=>tyD P n e r/\r.length=oU P e/\a.spot=none/\yX (full w) r a.block (a.off+i * oU P e)) len 0 (λi hi=>by rw[Nat.zero_add];exact hrow i hi);refine⟨[.sl false (oU P e) rows],rfl, ?_,_,_,rfl, ?_,trivial⟩
      ·simp only[tyD,hu];refine⟨rows,rfl,ak,λr hr=> ?_⟩;obtain⟨i,hi⟩:=List.getElem?_of_mem hr;exact(r2 i r hi).1
      ·simp only[ro];refine⟨some a,cap,by rw[r1],ak,λhn=> ?_⟩;have h0:∃r0,rows[0]? =some r0:=by
        cases rows with
        |nil=>exact absurd rfl hn
        |cons r0 _=>exact⟨r0,rfl⟩
       obtain⟨r0,h0⟩:=h0;have hsp:=(r2 0 r0 h0).2.2.1;refine⟨a.block,a.off, ?_,amb rows a.off λi r hr=> ?_⟩
       ·obtain⟨ab,ao,as_⟩:=a;simp only at hsp;subst hsp;rfl
       ·obtain⟨_,h2,_,h4⟩:=r2 i r hr;rw[Nat.zero_add] at h4;exact⟨h2,h4⟩
     ·cases h
   |struct fs=>
    simp only[xw] at hg;split at h
    all_goals first
     |(rename_i e1;cases e1;done)
     |(cases h;done)
     |(exfalso;rename_i h21 _ _ _ _ _ _ _ _ _ _ _ _ _ _ _ _ _ _ _;exact h21 _ rfl)
     |skip
    case h_9=>
     rename_i _ fs' cs' e1;cases e1;split at h
     ·rename_i hcl;rw[Option.map_eq_some_iff] at h;obtain⟨xs,hxs,_⟩:=h;cases hc:aev P 0 fs.toList with
      |none=>simp[hc] at hg
      |some tot=>simp only[hc] at hg;have htot:=yV hg.1;obtain⟨row,l1,_,t1,s1⟩:=amc (λt cs d ps hg h=>an4 n t cs d ps hg h) fs.toList 0 tot _ xs hc hg.2 ak hxs;refine⟨row,by rw[l1];omega,by simp only[tyD,hu];exact t1, ?_⟩;simpa[htot,<-hcl] using s1
     ·cases h
   |_=>simp at hg
end
end Go.Vm
namespace Go.Vm
open Go Go.RowKit
def amd{A:Adv}{f:Nat}(hm:A.move f=[]){μ:Nat->Value}{m:Mem}{H:Heap}{h:View}:∀{vs:List V} {gs:List Value} (i:Nat),dn μ m h vs gs->VU A f μ m H h i vs gs []
 |[],gs,i,q=>by simp only[dn] at q;simp only[VU];exact⟨q,trivial⟩
 |v::vs,gs,i,q=>by
  simp only[dn] at q;obtain⟨g,gs',rfl,h1,h2⟩:=q;simp only[VU];refine⟨g,gs',[],[],rfl,rfl, ?_,amd hm (i+1) h2⟩;split
  ·rename_i hmo;simp only[JW,hm,mem?,bg] at hmo;cases hr3:mem? i (A.look f)<;>simp[hr3] at hmo
  ·exact⟨rfl,h1⟩
def awd{X:Ctx}(hp:anP X){f:Nat}{fn:Func}{t:TypeId}{args:List V}{gargs:List Value}{w:World}(hf:X.P.funcs[f]? =some fn)(hb:fn.body.isSome=true)(hr:fn.resultTypes=#[t])(ht:Sv X.P t=false)(hpt:ahI X.P t=none)(hm:X.UO.move f=[])(hgl:ahS X (full w))
  (hs:dn (impμ []) [] (full w) args gargs) (h:call X f args []=some ([[.bool true]],[])):
  Calls X.P f gargs.toArray w λe w'=>e=.returned (.bool true)/\Below w.heap.size w w':=by
 have hG:Given X 0 (λ_=>True) w f args [] gargs [] [] []:=by
  have hv:(full w).le (view w (λ_=>True) (· ∈([]:List Nat)++[])):=by intro b o v h;exact ahb trivial (by simp) h
  refine⟨by simp,by simp,λ_ _=>trivial,Nat.zero_le _, ?_,⟨rfl,rfl⟩,SA hv hgl⟩;exact XV (sH _ _) hv (λ_ _=>rfl) (amd (H:=dA w) hm 0 hs)
 refine(aCo hp f fn args [] [[.bool true]] [] hf hb h 0 (λ_=>True) w gargs [] [] [] hG).mono ?_;rintro e w' ⟨gs,M1,M2,rfl,D⟩;have hres:=D.res;rw[hr] at hres;simp only[Xd] at hres;obtain⟨row,rows',g,gs',N1,N2,e1,e2,_,hv,e3,e4,_⟩:=hres;rw[Qg hpt] at hv;obtain⟨cs,hv,ho,hl⟩:=hv;simp only[List.cons.injEq] at e1;obtain⟨rfl,rfl⟩:=e1;subst e4;subst e2;simp only[valOf,ht,Bool.false_eq_true,if_false] at hv;subst hv;simp only[iW,ow] at ho;obtain⟨v,cs',N1,N2,e5,_,⟨rfl,_⟩,_⟩:=ho;simp only[List.cons.injEq] at e5;obtain⟨rfl,_⟩:=e5;refine⟨rfl,⟨D.keep.os,D.keep.tape,D.keep.output,D.keep.size,λk hk=>D.keep.block k hk (by simp)⟩⟩
section
variable {H:Type} {enc:TypeId×Value->H} {P:Program} {w:World} {base:Nat} {spare:Nat->Bool} {held:Bool} {t:TypeId} {v:Value} {d:DataW H} {ps:List MemPlace}
def aCB{μ:Nat->Value}{m:Mem}(h:DataW.Trod enc P w base spare held t v d ps)(hg:∀n,afL P (n+8) t=true)(hv:v.cells.toList=[v]):
  ∃n x,tyD P (n+8) t [x]/\aO μ m (full w) (.d x) v:=by
 obtain⟨n,hn⟩:=h;have hn':DataW.trod enc P w base spare held (n+8) t v.cells.toList=some (d,ps):=DataW.trod_le (Nat.le_add_right n 8) hn;obtain⟨row,hl,ht,hs⟩:=an4 (n+8) t _ d ps (hg n) hn';rw[hv] at hl hs;cases row with
 |nil=>simp at hl
 |cons x r=>
  cases r with
  |cons _ _=>simp at hl
  |nil=>obtain⟨u,cs',e,h1,_⟩:=hs;simp only[List.cons.injEq] at e;obtain⟨rfl,_⟩:=e;exact⟨_,x,ht,by simpa[aO] using h1⟩
end
section
variable {P:Program} {n:Nat} {t:TypeId} {row:Row}
def aCC{k:IntKind}(hu:P.underlying t=some (.int k))(h:tyD P (n+1) t row):∃x,row=[.int k x]/\(Lit.int k x).wf=true:=by simpa[tyD,hu] using h
def aJl{e:TypeId}(hu:P.underlying t=some (.slice e))(h:tyD P (n+1) t row):∃rows,row=[.sl false (oU P e) rows]/\rows.length<=maxLen/\∀r,r∈rows->tyD P n e r:=by simpa[tyD,hu] using h
def apC{α:Type}{f:α->Row}{p:α->Prop}:∀{rows:List Row},(∀r,r∈rows->∃x,r=f x/\p x)->∃l:List α,rows=l.map f/\∀x,x∈l->p x
 |[],_=>⟨[],rfl,λx h=>by simp at h⟩
 |r::rows,h=>by
  obtain⟨x,hx,hp⟩:=h r (by simp);obtain⟨l,hl,hq⟩:=apC (rows:=rows) (λr hr=>h r (by simp[hr]));refine⟨x::l,by simp[hx,hl],λy hy=> ?_⟩;rcases List.mem_cons.1 hy with rfl|hy
  ·exact hp
  ·exact hq y hy
end
section
variable {H:Type} {enc:TypeId×Value->H}
def aiP{a:Assume}{C:Checked}{os:Os}{f:FuncId}{fn:Func}{s:ChangeSpec}{conds:List PathCond}{apart fresh handsOn again:Bool}{X:World->Array Value->Prop}
  (hX:∀(w w':World) (args:Array Value),w.heap=w'.heap->X w args->X w' args)
  (own:ownKnob C.prog.godebug=none) (started:os.Started) (noInit:C.prog.inits.idxOf? f=none) (hfn:C.prog.funcs[f]? =some fn)
  (witness:∃(w:World) (tape:Tape) (i:Input),w.os=os/\(w.forCall tape i).Shaped C.prog/\i.vars=[]/\Input.okWide C.prog (w.forCall tape i) .any w.heap.size f i/\
   ((s.pre enc C.prog fn conds apart (w.forCall tape i).memory i.args/\X (w.forCall tape i).memory i.args)/\sizedMet enc C.prog fn (OpenSpec.ofChange s) apart (w.forCall tape i).memory i.args)/\a.holds C.prog (lone (Frame.enter C.prog f i.args .normal) [] (w.forCall tape i)))
  (contract:∀(W:World) (base:Nat) (args:Array Value) (ds gs:List (DataW H)) (before:List MemPlace),
   (∀(j:Nat) t v,fn.params[j]? =some t->args[j]? =some v->Value.okWide C.prog W .any base t v)->
   DataW.Whole enc C.prog fn.params.toList s.vars apart W args.toList ds gs before->X W args->W.ShapedOpen C.prog->
   Calls C.prog f args W λe W'=>∃v,e=.returned v/\s.post enc C.prog fn apart fresh handsOn again W args v W'):
  ReturnsInHanded a C os f .any (λw args=>(s.pre enc C.prog fn conds apart w args/\X w args)/\sizedMet enc C.prog fn (OpenSpec.ofChange s) apart w args) (s.post enc C.prog fn apart fresh handsOn again):=by
 refine returnsInHanded_of_calls own started noInit witness ?_;rintro w tape i _ shp _ ⟨_,_,_,g,hg,_,_,_,_,val⟩ ⟨⟨⟨ds,gs,before,whole,_⟩,hx⟩,_⟩ _;have e:g=fn:=Option.some.inj (hg.symm.trans hfn);rw[e] at val;have c:=contract (w.forCall tape i) w.heap.size i.args ds gs before val (DataW.Whole.of_heap (w':=w.forCall tape i) (by rfl) whole) (hX _ _ _ (by rfl) hx) shp;refine c.mono ?_;rintro e W' ⟨v,rfl,hp⟩;exact ChangeSpec.post_blind hp
end
def aY9:DataW Unit->Value
 | .lit (.int k n)=> .int k n
 | .lit (.bool b)=> .bool b
 | .lit (.string b)=> .string ⟨b.toArray⟩
 |_=> .tuple #[]
def ame:Nat->DataW Unit->List Value
 |0,_=>[]
 |n+1,d=>match d with
  | .agg ds=>ds.flatMap (ame n)
  |d=>[aY9 d]
def aLW(h:Array Obj)(g:Nat)(d:DataW Unit):Array Obj:=h.modify g λo=>match o with
 | .cells _ t fr=> .cells (ame 4 d).toArray t fr
 |o=>o
def layAll(h:Array Obj):List (Nat×DataW Unit)->Array Obj
 |[]=>h
 |(g,d)::l=>layAll (aLW h g d) l
noncomputable def laidWorld(P:Program)(l:List (Nat×DataW Unit))(os:Os):World:=
 let w:=World.holding P os ⟨#[],#[],[]⟩
 {w with heap:=layAll w.heap l}
def apD{h:View}{g:Nat}:∀(row:Row) (o:Nat),(∀(j:Nat) x,row[j]? =some x->∃v,h g (o+j)=some v/\ro h x v)->yX h row g o
 |[],_,_=>trivial
 |x::row,o,q=>⟨by simpa using q 0 x rfl,apD row (o+1) λj y hj=>by
   have:=q (j+1) y (by simpa using hj)
   rwa [show o+(j+1)=o+1+j by omega] at this⟩
def aew{P:Program}{w:World}{nm:String}{g t e n fuel:Nat}{cs:Array Value}{ss:List (List UInt8)}{p:List MemPlace}(hu:P.underlying t=some (.array n e))(he:P.underlying e=some .string)(hc:P.cellsOf e=1)
  (hg:P.globalNamed nm=some g) (hv:w.var? P nm=some cs) (h:DataW.trod (λ_=>()) P w 0 (λ_=>true) false fuel t cs.toList=some (.agg (ss.map λs=> .lit (.string s)),p)):yX (full w) (ss.map D.str) g 0:=by
 obtain⟨xs,m,rfl,hx,hcl,hxl,hel⟩:=DataW.trod_array hu h;simp only[nT,DataW.agg.injEq] at hx;refine apD _ 0 λj x hj=> ?_
 rw[List.getElem?_map] at hj;cases hs:ss[j]? with
 |none=>rw[hs] at hj;cases hj
 |some s=>
  rw[hs] at hj;cases hj;have hjl:j<ss.length:=(PN.1 hs).1;have hlen:ss.length=xs.length:=by have:=congrArg List.length hx.1;simpa using this
  obtain⟨y,hy⟩:∃y,xs[j]? =some y:=⟨xs[j]'ak,by simp⟩
  have hh:=hel j ak;rw[hy] at hh;obtain⟨b,hb1,hb2,_⟩:=DataW.trod_string he hh;have hyx:y.1=.lit (.string s):=by have:=congrArg (λl=>l[j]?) hx.1;simp only[List.getElem?_map,hs,hy,Oa,jF] at this;exact this.symm
  rw[hb2] at hyx;simp only[DataW.lit.injEq,Lit.string.injEq] at hyx;rw[hc,Nat.mul_one] at hb1;have hcell:cs[j]? =some (.string b):=by have:=congrArg (λl=>l[0]?) hb1;simpa using this
  refine⟨.string b, ?_, ?_⟩
  ·have:=World.var?_cell hg hv j;rw[Nat.zero_add];show w.cell? ⟨g,j,none⟩=_;rw[this];exact hcell
  ·simp only[ro];rw[<-hyx]
end Go.Vm
