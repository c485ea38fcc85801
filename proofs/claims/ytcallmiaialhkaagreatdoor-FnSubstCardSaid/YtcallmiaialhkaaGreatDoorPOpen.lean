import Derived.Test.YtcallmiaialhkaaGreatDoorXCnt
import Derived.Test.YtcallmiaialhkaaGreatDoorEvRd
import Derived.Shelf.Strconv.Atoi
import Derived.Shelf.Strconv.Itoa0
import Derived.Shelf.Strconv.Itoa1
import Derived.Shelf.LaysM
import Derived.Shelf.Strconv.Itoa2
import Derived.Shelf.Strconv.Itoa3
import Derived.Shelf.Strconv.AtoiErrFast
import Derived.Shelf.Strconv.ParseIntEmpty
import Derived.Shelf.Strconv.AtoiFail
import Derived.Shelf.Strconv.Clone
import Derived.Shelf.Strconv.SyntaxError
import Derived.Shelf.LaysC
import Derived.Shelf.Strconv.ToError
import Derived.Shelf.Strconv.Lower
import Derived.Shelf.Strconv.ParseUint10
import Derived.Shelf.Strconv.ParseUint10Empty
import Derived.Shelf.Strconv.ParseUint10Any
import Derived.Shelf.Strconv.ParseInt10
import Derived.Shelf.Strconv.AtoiLong
import Derived.Shelf.Strconv.AtoiInnerAll
import Derived.Shelf.Strconv.RangeError
import Derived.Shelf.Strconv.ToErrorRange
import Derived.Shelf.Strconv.AtoiAll
import Derived.Shelf.Strings.Search1
import Derived.Shelf.Strings.Search2
import Derived.Shelf.Strings.Search3
import Derived.Shelf.Strings.Shaped
import Derived.Shelf.Strings.Prefix
import Derived.Ground.Names2Prog
import Derived.Shelf.Slices.Clone
import Derived.Test.YtcallmiaialhkaaGreatDoorProg
import Derived.Test.YtcallmiaialhkaaGreatDoorPPrim
import Derived.WalkKit
import Derived.WalkSpells
import Derived.WideLaws
import Derived.BigCall
import Derived.Lib.AppendIntMem
import Derived.Lib.ItoaLen
import Derived.Lib.AtoiErrMem
import Derived.Test.YtcallmiaialhkaaGreatDoorVm4
import Derived.Test.YtcallmiaialhkaaGreatDoorVm5
import Derived.Test.YtcallmiaialhkaaGreatDoorZVal
import Derived.Test.YtcallmiaialhkaaGreatDoorRows
import Derived.Stop.LaidErr
set_option linter.defProp false
namespace Go.Proofs.YtcallmiaialhkaaGreatDoor
set_option linter.unusedVariables false
set_option linter.unusedSimpArgs false
open Go Go.Vm
open Go.IntKind (i64)
def abq{k op:Int}{t o:aT}{kids:ay}(h:M.aA k op t o kids=some true):QV k:=by
 by_cases hk:QV k
 ·exact hk
 ·exfalso;have e1:(decide (k>=1) && decide (k<=16))=false:=by
   cases hq:(decide (k>=1) && decide (k<=16)) with
   |false=>rfl
   |true=>rw[su,decide_eq_true_eq,decide_eq_true_eq] at hq;exact absurd (Or.inl hq) hk
  have e2:(decide (k>=20) && decide (k<=34))=false:=by
   cases hq:(decide (k>=20) && decide (k<=34)) with
   |false=>rfl
   |true=>rw[su,decide_eq_true_eq,decide_eq_true_eq] at hq;exact absurd (Or.inr (Or.inl hq)) hk
  have e3:(decide (k>=40) && decide (k<=45))=false:=by
   cases hq:(decide (k>=40) && decide (k<=45)) with
   |false=>rfl
   |true=>rw[su,decide_eq_true_eq,decide_eq_true_eq] at hq;exact absurd (Or.inr (Or.inr hq)) hk
  simp only[M.aA,M.aS,dI,e1,e2,e3,aj,dX] at h;cases hm:M.bI k op t o kids with
  |none=>rw[hm] at h;cases h
  |some r=>rw[hm,aj] at h;cases h
def aoI{k op:Int}{t o:aT}{kids:ay}(h:M.aA k op t o kids=some true):Cnt k op o kids.length:=by
 have hk:k=1\/k=2\/k=3\/k=4\/k=5\/k=6\/k=7\/k=8\/k=9\/k=10\/k=11\/k=12\/k=13\/k=14\/k=15\/k=16\/k=20\/k=21\/k=22\/k=23\/k=24\/k=25\/k=26\/k=27\/k=28\/k=29\/k=30\/k=31\/k=32\/k=33\/k=34\/k=40\/k=41\/k=42\/k=43\/k=44\/k=45:=by have:=abq h;unfold QV at this;omega
 rcases hk with rfl|rfl|rfl|rfl|rfl|rfl|rfl|rfl|rfl|rfl|rfl|rfl|rfl|rfl|rfl|rfl|rfl|rfl|rfl|rfl|rfl|rfl|rfl|rfl|rfl|rfl|rfl|rfl|rfl|rfl|rfl|rfl|rfl|rfl|rfl|rfl|rfl
 ·exact QW _ _ _ _ _ h au
 ·exact atK _ _ _ _ h
 ·exact atL _ _ _ _ h
 ·exact atM _ _ _ _ h
 ·exact QW _ _ _ _ _ h au
 ·exact yP _ _ _ _ _ h au
 ·exact QW _ _ _ _ _ h au
 ·exact atN _ _ _ _ h
 ·exact ahm _ _ _ _ _ h au
 ·exact ahm _ _ _ _ _ h au
 ·exact aov _ _ _ _ h
 ·exact aow _ _ _ _ h
 ·exact QW _ _ _ _ _ h au
 ·exact yP _ _ _ _ _ h au
 ·exact aox _ _ _ _ h
 ·exact yP _ _ _ _ _ h au
 ·exact yP _ _ _ _ _ h au
 ·exact aoy _ _ _ _ h
 ·exact yP _ _ _ _ _ h au
 ·exact yP _ _ _ _ _ h au
 ·exact yP _ _ _ _ _ h au
 ·exact yP _ _ _ _ _ h au
 ·exact yP _ _ _ _ _ h au
 ·exact QW _ _ _ _ _ h au
 ·exact yP _ _ _ _ _ h au
 ·exact yP _ _ _ _ _ h au
 ·exact yP _ _ _ _ _ h au
 ·exact yP _ _ _ _ _ h au
 ·exact aoz _ _ _ _ h
 ·exact yP _ _ _ _ _ h au
 ·exact aoA _ _ _ _ h
 ·exact yP _ _ _ _ _ h au
 ·exact yP _ _ _ _ _ h au
 ·exact aoB _ _ _ _ h
 ·exact aoC _ _ _ _ h
 ·exact QW _ _ _ _ _ h au
 ·exact yP _ _ _ _ _ h au
def aoJ{k op:Int}{t o:aT}{kids:ay}{j:Nat}{d:Int}(hk:QV k)(hj:j<kids.length)(hl:kids.length<=400)(hc:Cnt k op o kids.length)(h:M.aJ k op t o kids (j:Int) d=some true):wQ (cls k op kids.length j) d:=by
 have hk:k=1\/k=2\/k=3\/k=4\/k=5\/k=6\/k=7\/k=8\/k=9\/k=10\/k=11\/k=12\/k=13\/k=14\/k=15\/k=16\/k=20\/k=21\/k=22\/k=23\/k=24\/k=25\/k=26\/k=27\/k=28\/k=29\/k=30\/k=31\/k=32\/k=33\/k=34\/k=40\/k=41\/k=42\/k=43\/k=44\/k=45:=by unfold QV at hk;omega
 rcases hk with rfl|rfl|rfl|rfl|rfl|rfl|rfl|rfl|rfl|rfl|rfl|rfl|rfl|rfl|rfl|rfl|rfl|rfl|rfl|rfl|rfl|rfl|rfl|rfl|rfl|rfl|rfl|rfl|rfl|rfl|rfl|rfl|rfl|rfl|rfl|rfl|rfl
 ·exact Kw _ _ _ _ _ _ _ hj hl hc h au
 ·exact Kw _ _ _ _ _ _ _ hj hl hc h au
 ·exact Kw _ _ _ _ _ _ _ hj hl hc h au
 ·exact Kw _ _ _ _ _ _ _ hj hl hc h au
 ·exact xg _ _ _ _ _ _ _ hj hl hc h au
 ·exact xg _ _ _ _ _ _ _ hj hl hc h au
 ·exact xg _ _ _ _ _ _ _ hj hl hc h au
 ·exact xg _ _ _ _ _ _ _ hj hl hc h au
 ·exact ahn _ _ _ _ _ _ _ hj hl hc h au
 ·exact ahn _ _ _ _ _ _ _ hj hl hc h au
 ·exact xg _ _ _ _ _ _ _ hj hl hc h au
 ·exact xg _ _ _ _ _ _ _ hj hl hc h au
 ·exact xg _ _ _ _ _ _ _ hj hl hc h au
 ·exact xg _ _ _ _ _ _ _ hj hl hc h au
 ·exact acX _ _ _ _ _ _ _ hj hl hc h au
 ·exact Kw _ _ _ _ _ _ _ hj hl hc h au
 ·exact xg _ _ _ _ _ _ _ hj hl hc h au
 ·exact xg _ _ _ _ _ _ _ hj hl hc h au
 ·exact Kw _ _ _ _ _ _ _ hj hl hc h au
 ·exact xg _ _ _ _ _ _ _ hj hl hc h au
 ·exact xg _ _ _ _ _ _ _ hj hl hc h au
 ·exact Kw _ _ _ _ _ _ _ hj hl hc h au
 ·exact Kw _ _ _ _ _ _ _ hj hl hc h au
 ·exact xg _ _ _ _ _ _ _ hj hl hc h au
 ·exact aoD _ _ _ _ _ _ hj hl hc h
 ·exact acX _ _ _ _ _ _ _ hj hl hc h au
 ·exact acX _ _ _ _ _ _ _ hj hl hc h au
 ·exact aoE _ _ _ _ _ _ hj hl hc h
 ·exact xg _ _ _ _ _ _ _ hj hl hc h au
 ·exact xg _ _ _ _ _ _ _ hj hl hc h au
 ·exact Kw _ _ _ _ _ _ _ hj hl hc h au
 ·exact xg _ _ _ _ _ _ _ hj hl hc h au
 ·exact xg _ _ _ _ _ _ _ hj hl hc h au
 ·exact aoF _ _ _ _ _ _ hj hl hc h
 ·exact aoG _ _ _ _ _ _ hj hl hc h
 ·exact aoH _ _ _ _ _ _ hj hl hc h
 ·exact xg _ _ _ _ _ _ _ hj hl hc h au
def WE{α:Type}{p:Nat->α->Bool}:∀{l:List α} {i j:Nat} {x:α},Du p l i=true->l[j]? =some x->p (i+j) x=true
 |[],_,j,_,_,h=>by simp at h
 |y::l,i,0,x,h,e=>by rw[Du,su] at h;cases e;exact h.1
 |y::l,i,j+1,x,h,e=>by
  rw[Du,su] at h;rw[List.getElem?_cons_succ] at e;have:=WE h.2 e
  rwa [show i+1+j=i+(j+1) by omega] at this
def aho{k op:Int}{n:Nat}:∀{ks:List Tn} {j:Nat},(∀i t,ks[i]? =some t->wQ (cls k op n (j+i)) t.kind/\KF t)->oks k op n ks j
 |[],_,_=>by rw[oks];trivial
 |t::ts,j,h=>by
  rw[oks];have h0:=h 0 t rfl;refine⟨h0.1,h0.2,aho λi u hu=> ?_⟩;have:=h (i+1) u (by rw[List.getElem?_cons_succ];exact hu)
  rwa [show j+(i+1)=j+1+i by omega] at this
def akP{l:List Nd}(hall:Du (np l) l 0=true)(hsm:∀n,n∈l->Small n)(hkl:∀n,n∈l->n.kids.length<=400)(t:Tn):∀b,Lies l b t->KF t:=by
 refine Tn.ind (P:=λt=>∀b,Lies l b t->KF t) ?_ t;intro k op x y ks ih b h;have hr:=h.root;have hm:=OQ hr;have hn:=WE hall hr;unfold np at hn;rw[su] at hn;have hf:=(Zw (hsm _ hm) (hkl _ hm)).1;rw[hn.1] at hf;have hc:=aoI hf;rw[dw,jH] at hc;have hkn:=abq hf;rw[KF];refine⟨hkn,hc,aho λi u hu=>⟨?_,ih u (OQ hu) _ (Lies.QO h hu)⟩⟩;have he:=P9 (b:=b) hu;have hlt:=(FK.1 hu).1;have hk:=WE hn.2 he;have hroot:=Lies.root' (Lies.QO h hu);unfold kp at hk;rw[Qi] at hk;have hnd:(MR l (b+sizes (ks.take i)+sizes u.kids)).kind=u.kind:=by rw[MR,hroot]
 rw[hnd] at hk;have hko:=(acF (hsm _ hm) (hkl _ hm) hn.1 (0+i) (by rw[jH];omega) u.kind).1;rw[hk] at hko;have:=aoJ (j:=0+i) hkn (by rw[dw,jH];omega) (by rw[dw];exact hkl _ hm) (by rw[dw,jH];exact hc) hko;rw[dw,jH] at this;exact this
def acY{t:Tn}(h:uF (t.flat 0)=true)(hsm:∀n,n∈t.flat 0->Small n):KF t:=by unfold uF at h;rw[su,su] at h;obtain⟨r,hv⟩:=Zu h.1;exact akP h.2.2 hsm hv.V6 t 0 (Lies.whole t)
end Go.Proofs.YtcallmiaialhkaaGreatDoor
namespace Go.Proofs.YtcallmiaialhkaaGreatDoor
set_option linter.unusedVariables false
set_option linter.unusedSimpArgs false
set_option linter.unusedSectionVars false
open Go Go.Vm
open Go.IntKind (i64)
def ahp:∀{l:List Nd},(∀n,n∈l->n.kids.length<=501)->wK l<=505 * l.length
 |[],_=>by simp[wK]
 |n::l,h=>by
  have:=ahp (l:=l) λm hm=>h m (by simp[hm])
  have:=h n (by simp);rw[wK,OL];omega
def Bt.ok{l:List Nd}(h:Bt l):Ok l:=by
 have hl:=h.len;have hw:=ahp λn hn=>(h.all n hn).kids
 refine⟨au,λn hn=> ?_,λn hn=> ?_,au⟩
 ·have hb:=h.all n hn;have:=hb.kids;exact⟨au,λe he=>by have:=hb.ints e he;constructor<;>omega⟩
 ·have hb:=(h.all n hn).fine;have h1:n.text.length<=100:=hb.2.2.1;have h2:n.other.length<=100:=hb.2.2.2;exact⟨au,au⟩
def aoK(t:Tn):KF t->sml t->evK t:=by
 refine Tn.ind (P:=λt=>KF t->sml t->evK t) ?_ t;intro k op x y ks ih ho hs;rw[KF] at ho;rw[sml] at hs;obtain⟨_,hc,hks⟩:=ho;rw[evK];refine⟨⟨λh=>by have:=hc.one au;omega,λh=>by have:=hc.two au;omega,λh=>by have:=hc.three h;omega⟩,hs.1.1, ?_⟩;have key:∀(l:List Tn),(∀u,u∈l->evK u)->ag8 l:=by
  intro l;induction l with
  |nil=>intro _;trivial
  |cons u l ih2=>intro hl;exact⟨hl u (by simp),ih2 λv hv=>hl v (by simp[hv])⟩
 have sm:∀(l:List Tn),Wi l->∀u,u∈l->sml u:=by
  intro l;induction l with
  |nil=>intro _ u hu;cases hu
  |cons v l ih2=>
   intro hl u hu;rw[Wi] at hl;rcases List.mem_cons.1 hu with rfl|hu
   ·exact hl.1
   ·exact ih2 hl.2 u hu
 refine key ks λu hu=>ih u hu ?_ (sm ks hs.2 u hu)
 obtain⟨i,hi,hx⟩:=List.mem_iff_getElem.1 hu;exact(adS hks (FK.2 ⟨hi,hx⟩)).2
def aeY(t:Tn):(t.flat 0).getLast? =some ⟨t.kind,t.op,t.text,t.other,ends t.kids 0⟩:=by cases t;simp[Tn.flat,Tn.kind,Tn.op,Tn.text,Tn.other,Tn.kids]
def abr(t:Tn):Dw (t.flat 0)=(uF (t.flat 0) &&(decide (1<=t.kind) && decide (t.kind<=15))):=by rw[Dw,aeY]
section
variable {t:Tn} {e:Env} (hk:Ok (t.flat 0)) (he:e.length<=1000000)
include hk he
theorem WG(h:Dw (t.flat 0)=true):M.sW (aH false (t.flat 0)) (xX e)=some (vR (ev ZC e t))/\M.yY (aH false (t.flat 0)) (xX e)=some (vR (ev ZC e t)):=by
 have a1:=HY (t.flat 0) false (by have:=hk.len;omega) hk.k hk.sm;have a2:=LM (t.flat 0) false (by have:=hk.len;omega) hk.k hk.sm;rw[h] at a1 a2;have ht:uF (t.flat 0)=true:=by unfold Dw at h;rw[su] at h;exact h.1
 have hl:t.size<=1048576:=by have:=hk.len;rwa [t.flat_length] at this
 have hv:=aoK t (acY ht hk.sm) ((Qb t 0).2 hk.sm);have b1:=M.Xb (akw (o:=false) (l:=t.flat 0) he (λx hx=>acL x hx) (λx v=>ZE) t (3 * t.size) 0 (Lies.whole t) (zav _) hv);have b2:=M.Zp (akv he (λx hx=>acM x hx) (λx v=>ZE) t (2 * t.size) (zav _) hv);have hr:=Yn (t:=t) (o:=false) hl;have hs:=t.MF;have hidx:i64.wrap (((aH false (t.flat 0)).length:Int) - 1)=((0+sizes t.kids:Nat):Int):=by rw[bn,t.flat_length,aB au au];omega
 simp only[M.sW,M.Iq,M.yY,M.Ir,a1,a2,aj,zau,dX,hidx,b1,hr,PO,b2];exact⟨trivial,trivial⟩
end
def acZ(c:aT)(i:Int)(h0:0<=i)(hi:i<=10)(hc:c.length<=1048576):∃v,M.yX (c.map byteRow) i=some v:=by
 simp only[M.yX,M.MI,zaw];cases hd:decide (i<(c.length:Int)) with
 |false=>exact⟨_,rfl⟩
 |true=>
  have:=of_decide_eq_true hd;obtain⟨n,rfl⟩:=Int.eq_ofNat_of_zero_le h0;have hn:n<c.length:=au;have hr:idx (c.map byteRow) (n:Int)=some (byteRow c[n]):=by rw[bT,List.getElem?_map,List.getElem?_eq_getElem hn];rfl
  rw[bZ,hr,aj];exact⟨_,rfl⟩
def aeZ(c:aT):M.vV (c.map byteRow)=some true:=by
 simp only[M.vV,M.Dn,M.Hf,M.JX,aj,zaw]
 by_cases hc:c.length<=1048576
 ·rw[pX au,dX];obtain⟨b,o,l,xs,name,h1,hl,hx⟩:=ZN c hc;have ol:=hl.ok;have ox:=hx.ok;have a5:=Iw l false name (by have:=ol.len;omega);have a6:=Iy l false name (by have:=ol.len;omega);rw[h1,aj];simp only[pF];have nb:∀z:Bool,(!z==z)=false:=by intro z;cases z<;>rfl
  rcases akt name ol ox with⟨s1,s2⟩|⟨t,X,rfl,rfl,ht,hxo,hy,oky,ht4,hX4,s1,s2⟩
  ·obtain⟨z,e1,e2⟩:=akO l l false false ol.len (λn hn=>ol.k n hn);have hz:z=true:=e2.2 rfl;subst hz;simp only[s1,s2,aj,pF,e1,a5,a6,nb,zau,Bool.not_false,bZ,dX]
  ·obtain⟨v0,q0⟩:=acZ c 0 au au hc;obtain⟨v1,q1⟩:=acZ c 1 au au hc;obtain⟨v2,q2⟩:=acZ c 2 au au hc;have b3:=Dv ((je name X t).flat 0) false (by have:=oky.len;omega) oky.k oky.sm;have a3:=HY (t.flat 0) false (by have:=ol.len;omega) ol.k ol.sm;rw[hy] at b3;obtain⟨e,he⟩:∃e:Env,e=[([110],v0.tmod 5),([120],v1),([121],i64.wrap (v2 - 128))]:=⟨_,rfl⟩
   have hen:[[D.str [110],D.int IntKind.i64 (v0.tmod 5)],[D.str [120],D.int IntKind.i64 v1],[D.str [121],D.int IntKind.i64 (i64.wrap (v2 - 128))]]=xX e:=by rw[he];rfl
   have hel:e.length<=1000000:=by rw[he];simp
   have vX:=(WG ox hel hxo).1;simp only[s1,s2,aj,pF,a5,a6,nb,zau,dX,q0,q1,q2,hen,vX,a3,b3];cases hv:ev ZC e X with
   |none=>rfl
   |some v=>
    simp only[vR,zau,dX];cases hex:Dw (t.flat 0) with
    |false=>rfl
    |true=>
     have hvr:rng v=some v:=by have:=ag9 (λx v=>ZE) X v hv;exact ag7 this.1 this.2
     have hey:Dw ((je name X t).flat 0)=true:=by
      rw[abr] at hex hxo|-;rw[su] at hex hxo;rw[hy,Bool.true_and];cases t with
      |mk k op x y ks=>
       rw[je];split
       ·exact hxo.2
       ·exact hex.2
     have aD3:[[D.str name,D.int IntKind.i64 v]]++xX e=xX ((name,v)::e):=rfl;have w1:=(WG oky hel hey).2;have w2:=(WG (e:=(name,v)::e) ol (by rw[he];simp) hex).1;simp only[zau,dX,w1,aD3,w2,aj,abd hv hvr,BEq.rfl,bZ]
 ·rw[zdt au,bZ]
end Go.Proofs.YtcallmiaialhkaaGreatDoor
namespace Go.Proofs
open Go.Shelf
open Go.IntKind (i64)
def Tryz.laysM171_ren:Go.Shelf.Ren:=⟨fun|171=>130|243=>150|246=>163|283=>168|284=>169|285=>170|286=>171|129=>177|317=>176|318=>178|319=>179|320=>180|337=>183|338=>184|n=>n,fun|3=>3|9=>9|2=>2|4=>4|171=>139|0=>0|53=>126|37=>22|5=>5|173=>142|212=>145|51=>146|20=>20|213=>147|46=>84|232=>152|233=>153|n=>n,fun|17=>6|18=>7|19=>8|n=>n⟩
def Tryz.laysM171:Go.Proofs.LaysM.n171 Tryz.prog Tryz.laysM171_ren:={
 mixed:=by kernel_rfl
 f129:=Tryz.func177.trans (congrArg some (by kernel_rfl))
 f171:=Tryz.func130.trans (congrArg some (by kernel_rfl))
 f243:=Tryz.func150.trans (congrArg some (by kernel_rfl))
 f246:=Tryz.func163.trans (congrArg some (by kernel_rfl))
 f283:=Tryz.func168.trans (congrArg some (by kernel_rfl))
 f284:=Tryz.func169.trans (congrArg some (by kernel_rfl))
 f285:=Tryz.func170.trans (congrArg some (by kernel_rfl))
 f286:=Tryz.func171.trans (congrArg some (by kernel_rfl))
 f317:=Tryz.func176.trans (congrArg some (by kernel_rfl))
 f318:=Tryz.func178.trans (congrArg some (by kernel_rfl))
 f319:=Tryz.func179.trans (congrArg some (by kernel_rfl))
 f320:=Tryz.func180.trans (congrArg some (by kernel_rfl))
 f337:=Tryz.func183.trans (congrArg some (by kernel_rfl))
 f338:=Tryz.func184.trans (congrArg some (by kernel_rfl))
 t0:=Tryz.underlying0
 a0:=Tryz.isAgg0
 z0:=Tryz.sizeOf0
 v0:=Tryz.zeroValue0
 t2:=Tryz.underlying2
 a2:=Tryz.isAgg2
 z2:=Tryz.sizeOf2
 v2:=Tryz.zeroValue2
 t3:=Tryz.underlying3
 a3:=Tryz.isAgg3
 z3:=Tryz.sizeOf3
 v3:=Tryz.zeroValue3
 t4:=Tryz.underlying4
 a4:=Tryz.isAgg4
 z4:=Tryz.sizeOf4
 v4:=Tryz.zeroValue4
 t5:=Tryz.underlying5
 a5:=Tryz.isAgg5
 z5:=Tryz.sizeOf5
 v5:=Tryz.zeroValue5
 t9:=Tryz.underlying9
 a9:=Tryz.isAgg9
 z9:=Tryz.sizeOf9
 v9:=Tryz.zeroValue9
 t20:=Tryz.underlying20
 a20:=Tryz.isAgg20
 z20:=Tryz.sizeOf20
 v20:=Tryz.zeroValue20
 t37:=Tryz.underlying22
 a37:=Tryz.isAgg22
 z37:=Tryz.sizeOf22
 v37:=Tryz.zeroValue22
 t46:=Tryz.underlying84
 a46:=Tryz.isAgg84
 z46:=Tryz.sizeOf84
 v46:=Tryz.zeroValue84
 t51:=Tryz.underlying146
 a51:=Tryz.isAgg146
 z51:=Tryz.sizeOf146
 v51:=Tryz.zeroValue146
 t53:=Tryz.underlying126
 a53:=Tryz.isAgg126
 z53:=Tryz.sizeOf126
 v53:=Tryz.zeroValue126
 t171:=Tryz.underlying139
 a171:=Tryz.isAgg139
 z171:=Tryz.sizeOf139
 v171:=Tryz.zeroValue139
 t173:=Tryz.underlying142
 a173:=Tryz.isAgg142
 z173:=Tryz.sizeOf142
 v173:=Tryz.zeroValue142
 t212:=Tryz.underlying145
 a212:=Tryz.isAgg145
 z212:=Tryz.sizeOf145
 v212:=Tryz.zeroValue145
 t213:=Tryz.underlying147
 a213:=Tryz.isAgg147
 z213:=Tryz.sizeOf147
 t232:=Tryz.underlying152
 a232:=Tryz.isAgg152
 z232:=Tryz.sizeOf152
 v232:=Tryz.zeroValue152
 t233:=Tryz.underlying153
 a233:=Tryz.isAgg153
 z233:=Tryz.sizeOf153
 v233:=Tryz.zeroValue153
 g17:=by kernel_rfl
 g18:=by kernel_rfl
 g19:=by kernel_rfl
 i0:=by kernel_rfl
 i2:=by kernel_rfl
 i3:=by kernel_rfl
 i4:=by kernel_rfl
 i5:=by kernel_rfl
 i9:=by kernel_rfl
 i20:=by kernel_rfl
 i37:=by kernel_rfl
 i46:=by kernel_rfl
 i51:=by kernel_rfl
 i53:=by kernel_rfl
 i171:=by kernel_rfl
 i173:=by kernel_rfl
 i212:=by kernel_rfl
 i232:=by kernel_rfl
 i233:=by kernel_rfl
 m17:=by kernel_rfl
 m18:=by kernel_rfl
 m19:=by kernel_rfl}
def Tryz.laysC172_ren:Go.Shelf.Ren:=⟨fun|172=>105|244=>128|245=>129|247=>145|279=>146|280=>147|281=>148|282=>149|287=>160|316=>161|171=>130|205=>162|321=>166|322=>167|243=>150|246=>163|283=>168|284=>169|285=>170|286=>171|129=>177|317=>176|318=>178|319=>179|320=>180|337=>183|338=>184|n=>n,fun|9=>9|3=>3|75=>101|76=>102|4=>4|5=>5|167=>117|37=>22|0=>0|85=>118|2=>2|168=>120|53=>126|175=>127|46=>84|210=>131|127=>135|145=>138|143=>136|21=>21|171=>139|173=>142|212=>145|51=>146|20=>20|213=>147|232=>152|233=>153|80=>154|n=>n,fun|15=>3|16=>4|17=>6|18=>7|19=>8|n=>n⟩
def Tryz.laysC172:Go.Proofs.LaysC.n172 Tryz.prog Tryz.laysC172_ren:={
 mixed:=by kernel_rfl
 f129:=Tryz.func177.trans (congrArg some (by kernel_rfl))
 f171:=Tryz.func130.trans (congrArg some (by kernel_rfl))
 f172:=Tryz.func105.trans (congrArg some (by kernel_rfl))
 f205:=Tryz.func162.trans (congrArg some (by kernel_rfl))
 f243:=Tryz.func150.trans (congrArg some (by kernel_rfl))
 f244:=Tryz.func128.trans (congrArg some (by kernel_rfl))
 f245:=Tryz.func129.trans (congrArg some (by kernel_rfl))
 f246:=Tryz.func163.trans (congrArg some (by kernel_rfl))
 f247:=Tryz.func145.trans (congrArg some (by kernel_rfl))
 f279:=Tryz.func146.trans (congrArg some (by kernel_rfl))
 f280:=Tryz.func147.trans (congrArg some (by kernel_rfl))
 f281:=Tryz.func148.trans (congrArg some (by kernel_rfl))
 f282:=Tryz.func149.trans (congrArg some (by kernel_rfl))
 f283:=Tryz.func168.trans (congrArg some (by kernel_rfl))
 f284:=Tryz.func169.trans (congrArg some (by kernel_rfl))
 f285:=Tryz.func170.trans (congrArg some (by kernel_rfl))
 f286:=Tryz.func171.trans (congrArg some (by kernel_rfl))
 f287:=Tryz.func160.trans (congrArg some (by kernel_rfl))
 f316:=Tryz.func161.trans (congrArg some (by kernel_rfl))
 f317:=Tryz.func176.trans (congrArg some (by kernel_rfl))
 f318:=Tryz.func178.trans (congrArg some (by kernel_rfl))
 f319:=Tryz.func179.trans (congrArg some (by kernel_rfl))
 f320:=Tryz.func180.trans (congrArg some (by kernel_rfl))
 f321:=Tryz.func166.trans (congrArg some (by kernel_rfl))
 f322:=Tryz.func167.trans (congrArg some (by kernel_rfl))
 f337:=Tryz.func183.trans (congrArg some (by kernel_rfl))
 f338:=Tryz.func184.trans (congrArg some (by kernel_rfl))
 t0:=Tryz.underlying0
 a0:=Tryz.isAgg0
 z0:=Tryz.sizeOf0
 v0:=Tryz.zeroValue0
 t2:=Tryz.underlying2
 a2:=Tryz.isAgg2
 z2:=Tryz.sizeOf2
 v2:=Tryz.zeroValue2
 t3:=Tryz.underlying3
 a3:=Tryz.isAgg3
 z3:=Tryz.sizeOf3
 v3:=Tryz.zeroValue3
 t4:=Tryz.underlying4
 a4:=Tryz.isAgg4
 z4:=Tryz.sizeOf4
 v4:=Tryz.zeroValue4
 t5:=Tryz.underlying5
 a5:=Tryz.isAgg5
 z5:=Tryz.sizeOf5
 v5:=Tryz.zeroValue5
 t9:=Tryz.underlying9
 a9:=Tryz.isAgg9
 z9:=Tryz.sizeOf9
 v9:=Tryz.zeroValue9
 t20:=Tryz.underlying20
 a20:=Tryz.isAgg20
 z20:=Tryz.sizeOf20
 v20:=Tryz.zeroValue20
 t21:=Tryz.underlying21
 a21:=Tryz.isAgg21
 z21:=Tryz.sizeOf21
 v21:=Tryz.zeroValue21
 t37:=Tryz.underlying22
 a37:=Tryz.isAgg22
 z37:=Tryz.sizeOf22
 v37:=Tryz.zeroValue22
 t46:=Tryz.underlying84
 a46:=Tryz.isAgg84
 z46:=Tryz.sizeOf84
 v46:=Tryz.zeroValue84
 t51:=Tryz.underlying146
 a51:=Tryz.isAgg146
 z51:=Tryz.sizeOf146
 v51:=Tryz.zeroValue146
 t53:=Tryz.underlying126
 a53:=Tryz.isAgg126
 z53:=Tryz.sizeOf126
 v53:=Tryz.zeroValue126
 t75:=Tryz.underlying101
 a75:=Tryz.isAgg101
 z75:=Tryz.sizeOf101
 v75:=Tryz.zeroValue101
 t76:=Tryz.underlying102
 a76:=Tryz.isAgg102
 z76:=Tryz.sizeOf102
 v76:=Tryz.zeroValue102
 t85:=Tryz.underlying118
 a85:=Tryz.isAgg118
 z85:=Tryz.sizeOf118
 v85:=Tryz.zeroValue118
 t127:=Tryz.underlying135
 a127:=Tryz.isAgg135
 z127:=Tryz.sizeOf135
 v127:=Tryz.zeroValue135
 t143:=Tryz.underlying136
 a143:=Tryz.isAgg136
 z143:=Tryz.sizeOf136
 v143:=Tryz.zeroValue136
 t145:=Tryz.underlying138
 a145:=Tryz.isAgg138
 z145:=Tryz.sizeOf138
 v145:=Tryz.zeroValue138
 t167:=Tryz.underlying117
 a167:=Tryz.isAgg117
 z167:=Tryz.sizeOf117
 v167:=Tryz.zeroValue117
 t168:=Tryz.underlying120
 a168:=Tryz.isAgg120
 z168:=Tryz.sizeOf120
 v168:=Tryz.zeroValue120
 t171:=Tryz.underlying139
 a171:=Tryz.isAgg139
 z171:=Tryz.sizeOf139
 v171:=Tryz.zeroValue139
 t173:=Tryz.underlying142
 a173:=Tryz.isAgg142
 z173:=Tryz.sizeOf142
 v173:=Tryz.zeroValue142
 t175:=Tryz.underlying127
 a175:=Tryz.isAgg127
 z175:=Tryz.sizeOf127
 v175:=Tryz.zeroValue127
 t210:=Tryz.underlying131
 a210:=Tryz.isAgg131
 z210:=Tryz.sizeOf131
 v210:=Tryz.zeroValue131
 t212:=Tryz.underlying145
 a212:=Tryz.isAgg145
 z212:=Tryz.sizeOf145
 v212:=Tryz.zeroValue145
 t213:=Tryz.underlying147
 a213:=Tryz.isAgg147
 z213:=Tryz.sizeOf147
 t232:=Tryz.underlying152
 a232:=Tryz.isAgg152
 z232:=Tryz.sizeOf152
 v232:=Tryz.zeroValue152
 t233:=Tryz.underlying153
 a233:=Tryz.isAgg153
 z233:=Tryz.sizeOf153
 v233:=Tryz.zeroValue153
 g15:=by kernel_rfl
 g16:=by kernel_rfl
 g17:=by kernel_rfl
 g18:=by kernel_rfl
 g19:=by kernel_rfl
 t80:=Tryz.underlying154
 a80:=Tryz.isAgg154
 z80:=Tryz.sizeOf154
 v80:=Tryz.zeroValue154
 i0:=by kernel_rfl
 i2:=by kernel_rfl
 i3:=by kernel_rfl
 i4:=by kernel_rfl
 i5:=by kernel_rfl
 i9:=by kernel_rfl
 i20:=by kernel_rfl
 i21:=by kernel_rfl
 i37:=by kernel_rfl
 i46:=by kernel_rfl
 i51:=by kernel_rfl
 i53:=by kernel_rfl
 i75:=by kernel_rfl
 i76:=by kernel_rfl
 i80:=by kernel_rfl
 i85:=by kernel_rfl
 i127:=by kernel_rfl
 i143:=by kernel_rfl
 i145:=by kernel_rfl
 i167:=by kernel_rfl
 i168:=by kernel_rfl
 i171:=by kernel_rfl
 i173:=by kernel_rfl
 i175:=by kernel_rfl
 i210:=by kernel_rfl
 i212:=by kernel_rfl
 i232:=by kernel_rfl
 i233:=by kernel_rfl
 m15:=by kernel_rfl
 m16:=by kernel_rfl
 m17:=by kernel_rfl
 m18:=by kernel_rfl
 m19:=by kernel_rfl
 c0:=by kernel_rfl
 c2:=by kernel_rfl
 c3:=by kernel_rfl
 c4:=by kernel_rfl
 c5:=by kernel_rfl
 c9:=by kernel_rfl
 c20:=by kernel_rfl
 c21:=by kernel_rfl
 c37:=by kernel_rfl
 c46:=by kernel_rfl
 c51:=by kernel_rfl
 c53:=by kernel_rfl
 c75:=by kernel_rfl
 c76:=by kernel_rfl
 c80:=by kernel_rfl
 c85:=by kernel_rfl
 c127:=by kernel_rfl
 c143:=by kernel_rfl
 c145:=by kernel_rfl
 c167:=by kernel_rfl
 c168:=by kernel_rfl
 c171:=by kernel_rfl
 c173:=by kernel_rfl
 c175:=by kernel_rfl
 c210:=by kernel_rfl
 c212:=by kernel_rfl
 c213:=by kernel_rfl
 c232:=by kernel_rfl
 c233:=by kernel_rfl}
def Tryz.lays144_ren:Go.Shelf.Ren:=⟨fun|144=>138|143=>154|219=>165|217=>172|225=>173|224=>174|267=>175|266=>181|314=>182|n=>n,fun|9=>9|4=>4|3=>3|5=>5|46=>84|146=>149|51=>146|n=>n,fun|1=>5|n=>n⟩
def Tryz.lays144:Go.Proofs.Lays.n144 Tryz.prog Tryz.lays144_ren:={
 mixed:=by kernel_rfl
 f143:=Tryz.func154.trans (congrArg some (by kernel_rfl))
 f144:=Tryz.func138.trans (congrArg some (by kernel_rfl))
 f217:=Tryz.func172.trans (congrArg some (by kernel_rfl))
 f219:=Tryz.func165.trans (congrArg some (by kernel_rfl))
 f224:=Tryz.func174.trans (congrArg some (by kernel_rfl))
 f225:=Tryz.func173.trans (congrArg some (by kernel_rfl))
 f266:=Tryz.func181.trans (congrArg some (by kernel_rfl))
 f267:=Tryz.func175.trans (congrArg some (by kernel_rfl))
 f314:=Tryz.func182.trans (congrArg some (by kernel_rfl))
 t3:=Tryz.underlying3
 a3:=Tryz.isAgg3
 z3:=Tryz.sizeOf3
 v3:=Tryz.zeroValue3
 t4:=Tryz.underlying4
 a4:=Tryz.isAgg4
 z4:=Tryz.sizeOf4
 v4:=Tryz.zeroValue4
 t5:=Tryz.underlying5
 a5:=Tryz.isAgg5
 z5:=Tryz.sizeOf5
 v5:=Tryz.zeroValue5
 t9:=Tryz.underlying9
 a9:=Tryz.isAgg9
 z9:=Tryz.sizeOf9
 v9:=Tryz.zeroValue9
 t46:=Tryz.underlying84
 a46:=Tryz.isAgg84
 z46:=Tryz.sizeOf84
 v46:=Tryz.zeroValue84
 t51:=Tryz.underlying146
 a51:=Tryz.isAgg146
 z51:=Tryz.sizeOf146
 v51:=Tryz.zeroValue146
 t146:=Tryz.underlying149
 a146:=Tryz.isAgg149
 z146:=Tryz.sizeOf149
 v146:=Tryz.zeroValue149
 g1:=by kernel_rfl}
def Tryz.lays101_ren:Go.Shelf.Ren:=⟨fun|101=>107|208=>131|206=>151|n=>n,fun|9=>9|4=>4|3=>3|n=>n,fun|n=>n⟩
def Tryz.lays101:Go.Proofs.Lays.n101 Tryz.prog Tryz.lays101_ren:={
 mixed:=by kernel_rfl
 f101:=Tryz.func107.trans (congrArg some (by kernel_rfl))
 f206:=Tryz.func151.trans (congrArg some (by kernel_rfl))
 f208:=Tryz.func131.trans (congrArg some (by kernel_rfl))
 t3:=Tryz.underlying3
 a3:=Tryz.isAgg3
 z3:=Tryz.sizeOf3
 v3:=Tryz.zeroValue3
 t4:=Tryz.underlying4
 a4:=Tryz.isAgg4
 z4:=Tryz.sizeOf4
 v4:=Tryz.zeroValue4
 t9:=Tryz.underlying9
 a9:=Tryz.isAgg9
 z9:=Tryz.sizeOf9
 v9:=Tryz.zeroValue9}
def Tryz.laysNm215_ren:Go.Shelf.Ren:=⟨fun|15=>46|n=>n,fun|22=>54|3=>3|4=>4|n=>n,fun|n=>n⟩
def Tryz.laysNm215:Go.Proofs.Lays2.n15 Tryz.prog Tryz.laysNm215_ren:={
 mixed:=by kernel_rfl
 f15:=Tryz.func46.trans (congrArg some (by kernel_rfl))
 t3:=Tryz.underlying3
 a3:=Tryz.isAgg3
 z3:=Tryz.sizeOf3
 v3:=Tryz.zeroValue3
 t4:=Tryz.underlying4
 a4:=Tryz.isAgg4
 z4:=Tryz.sizeOf4
 v4:=Tryz.zeroValue4
 t22:=Tryz.underlying54
 a22:=Tryz.isAgg54
 z22:=Tryz.sizeOf54
 v22:=Tryz.zeroValue54
 i3:=by kernel_rfl}
open Go.RowKit Go.Sort Go.Lib in
open Go.IntKind (i64)
def Tryz.strconv_Itoa (n : Int) (h0 : -9223372036854775808 <= n) (h1 : n <= 9223372036854775807) (w : World) (htab : Lib.TabIs Tryz.prog w "internal/strconv.uint64pow10" .u64 Lib.pow10Tab) :
  Calls Tryz.prog 130 #[.int .i64 n] w λe w'=>e=.returned (.string ⟨(Lib.itoa n).toArray⟩)/\∃k os,w'=Go.Sort.grow (w.drewN k) os:=Any.strconv_Itoa Tryz.laysM171 n h0 h1 w htab
open Go.RowKit in
open Go.IntKind (i64)
def Tryz.strconv_Atoi_ok(s:ByteArray)(hmax:s.size<=9223372036854775806)(v:Int)(h:Lib.atoiAll s.data.toList=.ok v)(w:World):
  Calls Tryz.prog 105 #[.string s] w λe w'=>e=.returned (.tuple #[.int .i64 v,.nilIface])/\(w'=w\/∃t,w'=Lib.bytesWorld w 5 t):=Any.strconv_Atoi_ok Tryz.laysC172 s hmax v h w
open Go.RowKit in
open Go.IntKind (i64)
def Tryz.strconv_Atoi_syntax(s:ByteArray)(hlim:s.size<=281474976710656)(h : (∀ v, Lib.atoiAll s.data.toList ≠ .ok v) ∧ Lib.atoiAll s.data.toList ≠ .range)(ev:Value)(w:World)(hv:w.cell? ⟨3,0,none⟩=some ev)(hev:ev=.nilIface\/∃te pe,ev=.iface te pe):
  Calls Tryz.prog 105 #[.string s] w λe w'=>∃N,e=.returned (.tuple #[.int .i64 (0),.iface 120 (.pointer (some ⟨N,0,none⟩))])/\w.heap.size<=N/\w'.heap[N]? =some (.cells #[.string ⟨#[65,116,111,105]⟩,.string s,ev] 131 (0,0))/\Go.RowKit.Below w.heap.size w w':=Any.strconv_Atoi_syntax Tryz.laysC172 s hlim (by cases hq : Lib.atoiAll s.data.toList with | ok v => exact absurd hq (h.1 v) | range => exact absurd hq h.2 | _ => rfl) ev w hv hev
open Go.RowKit in
open Go.IntKind (i64)
def Tryz.strconv_Atoi_range(s:ByteArray)(hlim:s.size<=281474976710656)(h:Lib.atoiAll s.data.toList=.range)(ev:Value)(w:World)(hv:w.cell? ⟨4,0,none⟩=some ev)(hev:ev=.nilIface\/∃te pe,ev=.iface te pe):
  Calls Tryz.prog 105 #[.string s] w λe w'=>∃N,e=.returned (.tuple #[.int .i64 (Lib.atoiSat s.data.toList),.iface 120 (.pointer (some ⟨N,0,none⟩))])/\w.heap.size<=N/\w'.heap[N]? =some (.cells #[.string ⟨#[65,116,111,105]⟩,.string s,ev] 131 (0,0))/\Go.RowKit.Below w.heap.size w w':=Any.strconv_Atoi_range Tryz.laysC172 s hlim h ev w hv hev
open Go.RowKit Go.Lib in
open Go.IntKind (i64)
def Tryz.strings_Contains_one(s:ByteArray)(c:UInt8)(w:World):
  Calls Tryz.prog 138 #[.string s,.string ⟨#[c]⟩] w λe w'=>e=.returned (.bool (decide (0<=Lib.indexByte s.data.toList c)))/\w'=w:=Any.strings_Contains_one Tryz.lays144 s c w
open Go.RowKit Go.Lib in
open Go.IntKind (i64)
def Tryz.strings_TrimPrefix(s p:ByteArray)(w:World):
  Calls Tryz.prog 107 #[.string s,.string p] w λe w'=>e=.returned (.string ⟨(Lib.trimPrefix s.data.toList p.data.toList).toArray⟩)/\w'=w:=Any.strings_TrimPrefix Tryz.lays101 s p w
open Go.RowKit Go.Lib in
open Go.IntKind (i64)
def Tryz.slices_Clone_int(b off n c:Nat)(zs:List Int)(w:World)(hz:n<=zs.length)(hbig:n * 8<=140737488355328)(hc:∀j,j<zs.length->w.cell? ⟨b,off+j,none⟩=some (.int .i64 (zs.getD j 0))):
  Calls Tryz.prog 46 #[.slice (some ⟨b,off,none⟩) n c] w λe w'=>∃v',e=.returned v'/\w'.ownsRow w.heap.size 3 1 v' n ((zs.take n).map (Value.int .i64))/\v'≠.slice none 0 0/\Go.RowKit.Below w.heap.size w w':=Any.slices_Clone_int Tryz.laysNm215 b off n c zs w hz hbig hc
open Go.RowKit Go.Lib in
open Go.IntKind (i64)
def Tryz.slices_Clone_int_nil(n c:Nat)(w:World):
  Calls Tryz.prog 46 #[.slice none n c] w λe w'=>e=.returned (.slice none 0 0)/\w'=w:=Any.slices_Clone_int_nil Tryz.laysNm215 n c w
open Go.RowKit Go.Lib in
open Go.IntKind (i64)
def Tryz.slices_Clone_int_zero(a:Addr)(c:Nat)(w:World):
  Calls Tryz.prog 46 #[.slice (some a) 0 c] w λe w'=>∃v',e=.returned v'/\w'.ownsRow w.heap.size 3 1 v' 0 []/\v'≠.slice none 0 0/\Go.RowKit.Below w.heap.size w w':=Any.slices_Clone_int_zero Tryz.laysNm215 a c w
end Go.Proofs
namespace Go.Proofs.YtcallmiaialhkaaGreatDoor
set_option linter.unusedVariables false
set_option linter.unusedSimpArgs false
open Go Go.Proofs Go.RowKit Go.Shelf
open Go.IntKind (i64)
def ae0 (n : Int) (w : World) (h0 : -9223372036854775808 <= n) (h1 : n <= 9223372036854775807) (htab : Lib.TabIs Tryz.prog w "internal/strconv.uint64pow10" .u64 Lib.pow10Tab) :
  Calls Tryz.prog 106 #[.int .i64 n] w λe w'=>e=.returned (.string ⟨(Lib.itoa n).toArray⟩)/\Go.RowKit.Below w.heap.size w w':=by
 go_enter Tryz.func106,Tryz.ntmps106
 go_wp2_with (go_at_call 130;refine(Tryz.strconv_Itoa n h0 h1 _ htab).mono ?_;rintro e w' ⟨rfl,k,os,rfl⟩)
 go_ret
 exact⟨rfl,Lib.below_grow _ _ (zav _) _ _⟩
def ae1(s:ByteArray)(hs:s.size<=1048576)(h : (∀ v, Lib.atoiAll s.data.toList ≠ .ok v) ∧ Lib.atoiAll s.data.toList ≠ .range)(ev:Value)(w:World)(hv:w.cell? ⟨3,0,none⟩=some ev)(hev:ev=.nilIface\/∃te pe,ev=.iface te pe):
  Calls Tryz.prog 80 #[.string s] w λe w'=>e=.returned (.tuple #[.int .i64 0,.bool false])/\Go.RowKit.Below w.heap.size w w':=by
 go_enter Tryz.func80,Tryz.ntmps80
 go_wp2_with (go_at_call 105;refine(Tryz.strconv_Atoi_syntax s (by omega) h ev _ hv hev).mono ?_;rintro e w' ⟨N,rfl,hN,hc,hb⟩)
 go_wp2
 go_ret2
 exact⟨rfl,hb⟩
def ahq(s:ByteArray)(hs:s.size<=1048576)(h:Lib.atoiAll s.data.toList=.range)(ev:Value)(w:World)(hv:w.cell? ⟨4,0,none⟩=some ev)(hev:ev=.nilIface\/∃te pe,ev=.iface te pe):
  Calls Tryz.prog 80 #[.string s] w λe w'=>e=.returned (.tuple #[.int .i64 0,.bool false])/\Go.RowKit.Below w.heap.size w w':=by
 go_enter Tryz.func80,Tryz.ntmps80
 go_wp2_with (go_at_call 105;refine(Tryz.strconv_Atoi_range s (by omega) h ev _ hv hev).mono ?_;rintro e w' ⟨N,rfl,hN,hc,hb⟩)
 go_wp2
 go_ret2
 exact⟨rfl,hb⟩
def YB{w w':World}{t:TypeId}(hw:w'=w\/∃k,w'=Lib.bytesWorld w t k):Go.RowKit.Below w.heap.size w w':=by
 rcases hw with rfl|⟨k,rfl⟩
 ·exact Below.refl _ _
 ·exact Lib.bytesWorld_below _ _ _
def ae2{w w1 w2:World}{t:TypeId}(h1:w1=w\/∃k,w1=Lib.bytesWorld w t k)(h2:Go.RowKit.Below w1.heap.size w1 w2):Go.RowKit.Below w.heap.size w w2:=by have hb:=YB h1;exact hb.trans ⟨h2.os,h2.tape,h2.output,h2.size,λb hlt=>h2.block b (Nat.lt_of_lt_of_le hlt hb.size)⟩
def atO (s : ByteArray) (hs : s.size <= 1048576) (v : Int) (h : Lib.atoiAll s.data.toList = .ok v) (w : World) (htab : ∀ w', Go.RowKit.Below w.heap.size w w' -> Lib.TabIs Tryz.prog w' "internal/strconv.uint64pow10" .u64 Lib.pow10Tab) :
  Calls Tryz.prog 80 #[.string s] w λe w'=>e=.returned (.tuple (if Lib.itoa v=s.data.toList/\(Lib.trimPrefix s.data.toList [45]).length<=9 then #[.int .i64 v,.bool true] else #[.int .i64 0,.bool false]))/\Go.RowKit.Below w.heap.size w w':=by
 obtain⟨v0,v1⟩:=Lib.atoiAll_bounds h;obtain⟨R,hR⟩:∃R:Array Value,R=(if Lib.itoa v=s.data.toList/\(Lib.trimPrefix s.data.toList [45]).length<=9 then #[.int .i64 v,.bool true] else #[.int .i64 0,.bool false]):=⟨_,rfl⟩
 rw[<-hR]
 go_enter Tryz.func80,Tryz.ntmps80
 go_wp2_with (go_at_call 105;refine(Tryz.strconv_Atoi_ok s (by omega) v h _).mono ?_;rintro e w1 ⟨rfl,hw1⟩)
 go_wp2_with (go_at_call 106;refine(ae0 v _ v0 v1 (htab _ (YB hw1))).mono ?_;rintro e w2 ⟨rfl,hw2⟩)
 go_wp2_with (go_at_call 107;refine(Tryz.strings_TrimPrefix s ⟨#[45]⟩ _).mono ?_;rintro e w3 ⟨rfl,rfl⟩)
 all_goals go_ret2
 all_goals refine⟨?_,ae2 hw1 (by assumption)⟩
 all_goals subst hR
 all_goals simp only[ByteArray.toList_eq] at *
 all_goals first
  |(rw[if_pos ⟨by assumption,by omega⟩];rfl)
  |(rw[if_neg (λhh=>by first|omega|exact absurd hh.1 (by assumption))];rfl)
end Go.Proofs.YtcallmiaialhkaaGreatDoor
namespace Go.Proofs.YtcallmiaialhkaaGreatDoor
set_option linter.unusedVariables false
set_option linter.unusedSimpArgs false
open Go Go.Vm
open Go.IntKind (i64)
def Tf{X:Ctx}(hP:X.P=Tryz.prog)(hm:∀i,i<2->vI X.Bf 138 i=0)(fn:Func)(args:List V)(cells:List Cell)(rows:ay)(outs:List Cell)(hf:X.P.funcs[138]? =some fn)(h:Prim.strings_Contains args cells=some (rows,outs))
  (base:Nat) (U:Nat->Prop) (w:World) (gargs eu:List Value) (N1 N2:List Nat) (hG:Given X base U w 138 args cells gargs eu N1 N2):
  Calls X.P 138 gargs.toArray w λe w'=>∃gs M1 M2,e=.returned (Lc gs)/\Did X.P U w w' (N1++N2) fn.resultTypes.toList cells outs eu rows gs M1 M2:=by
 unfold Prim.strings_Contains at h;split at h
 ·rename_i s t;unfold M.strings_Contains at h;split at h
  ·rename_i c;cases h;obtain⟨rfl,rfl,rfl,hs⟩:=U6 hG hm;rw[ace hs];rw[hP] at hf|-;have hfn:fn.resultTypes.toList=[4]:=by rw[Tryz.func138] at hf;cases hf;rfl
   refine(Tryz.strings_Contains_one ⟨⟨s⟩⟩ c w).mono ?_;rintro e w' ⟨rfl,rfl⟩;rw[hfn];exact⟨[_],[],[],rfl,acf (by kernel_rfl) (by kernel_rfl) (λ_ _=>⟨rfl,rfl⟩) (Keep.refl _ _)⟩
  ·cases h
 ·cases h
def ac0{w w':World}(h:Go.RowKit.Below w.heap.size w w'):Keep [] w w':=⟨h.os,h.tape,h.output,h.size,λb hb _=>h.block b hb⟩
def aoL{X:Ctx}{U:Nat->Prop}{M:List Nat}{w:World}(hP:X.P=Tryz.prog)(hT:X.alM 6=true)(hR:X.glob 6=some He)(hg:O7 X (view w U (· ∈M)))(ht:abM X w):
  Lib.TabIs Tryz.prog w "internal/strconv.uint64pow10" .u64 Lib.pow10Tab := by
 obtain⟨x,row,cs,T,fr,h1,h2,h3⟩:=ht 6 hT;have hr:=hg.row 6 _ hR;have hl:row.length+1=20:=by rw[hR] at h1;have:=congrArg List.length (Option.some.inj h1);rw[OL] at this;rw[<-this,He,zaw,Lib.pow10Tab_length]
 have hgn : Tryz.prog.globalNamed "internal/strconv.uint64pow10" = some 6 := by kernel_rfl
 unfold Lib.TabIs World.var?;rw[hgn];simp only[Option.bind_some,h2,dG];apply Array.ext
 ·rw[h3,hl,List.size_toArray,zaw,Lib.pow10Tab_length]
 ·intro i hi hi';rw[h3,hl] at hi;have hz:i<Lib.pow10Tab.length:=by rw[Lib.pow10Tab_length];exact hi
  have hrow:He[i]? =some (D.int .u64 Lib.pow10Tab[i]):=by rw[He,List.getElem?_map,List.getElem?_eq_getElem hz];rfl
  obtain⟨v,hv,hro⟩:=L8 hr hrow;simp only[ro] at hro;subst hro;have hc:=(DU hv).2.2;unfold World.cell? at hc;rw[h2] at hc;simp only[Option.isSome_none,Bool.false_eq_true,if_false,Nat.zero_add] at hc;rw[Array.getElem?_eq_getElem au] at hc;rw[Option.some.inj hc];simp
def YC:∀{rows:ay} {k:List Int},QF rows=some k->rows=Go.Vm.encI k
 |[],k,h=>by cases h;rfl
 |r::rs,k,h=>by
  rw[QF.eq_def] at h;simp only at h;split at h
  ·cases hd:QF rs with
   |none=>rw[hd] at h;cases h
   |some q=>rw[hd] at h;cases h;rw[YC hd];rfl
  ·cases h
def Xd{X:Ctx}(hP:X.P=Tryz.prog)(hm:vI X.Bf 46 0=0)(fn:Func)(args:List V)(cells:List Cell)(rows:ay)(outs:List Cell)(hf:X.P.funcs[46]? =some fn)(h:Prim.slices_Clone args cells=some (rows,outs))
  (base:Nat) (U:Nat->Prop) (w:World) (gargs eu:List Value) (N1 N2:List Nat) (hG:Given X base U w 46 args cells gargs eu N1 N2):
  Calls X.P 46 gargs.toArray w λe w'=>∃gs M1 M2,e=.returned (Lc gs)/\Did X.P U w w' (N1++N2) fn.resultTypes.toList cells outs eu rows gs M1 M2:=by
 unfold Prim.slices_Clone at h;split at h
 ·rename_i apd;unfold M.slices_Clone at h;split at h
  ·rename_i k hk;obtain rfl:=YC hk;cases hc:Nat.ble (k.length * 8) 140737488355328 with
   |false=>rw[hc] at h;cases h
   |true=>
    rw[hc] at h;cases h;have hfn:fn.resultTypes.toList=[54]:=by rw[hP,Tryz.func46] at hf;cases hf;rfl
    refine Zg (t:=54) hm hfn (by rw[hP];kernel_rfl) (by rw[hP];kernel_rfl) (Nat.le_of_ble_eq_true hc) ?_ ?_ ?_ base U w gargs eu N1 N2 hG
    ·intro b off c zs w hb hz;rw[hP];refine(Tryz.slices_Clone_int b off zs.length c zs w (zav _) hb hz).mono ?_;rintro e w' ⟨v',rfl,h1,_,h2⟩;exact⟨v',rfl,by rwa [List.take_length] at h1,h2⟩
    ·intro c w;rw[hP];exact Tryz.slices_Clone_int_nil 0 c w
    ·intro a c w;rw[hP];refine(Tryz.slices_Clone_int_zero a c w).mono ?_;rintro e w' ⟨v',rfl,h1,_,h2⟩;exact⟨v',rfl,h1,h2⟩
  ·cases h
 ·cases h
def adT(s:aT):Lib.trimPrefix s [45]=Ls s:=by
 unfold Lib.trimPrefix Ls;cases s with
 |nil=>rfl
 |cons c t=>
  by_cases h:c=45
  ·subst h;rfl
  ·have:¬Lib.hasPrefix (c::t) [45]=true:=by simp[Lib.hasPrefix,List.isPrefixOf];exact λe=>h e.symm
   rw[if_neg this];split
   ·rename_i h2;injection h2 with h3 _;exact absurd h3 h
   ·rfl
def akQ{P:Program}{U:Nat->Prop}{w w':World}{t u:TypeId}{x y:D}{g k:Value}(ht:xZ P t=false)(hpt:OT P t=none)(hu:xZ P u=false)(hpu:OT P u=none)(hx:∀H h,ow H h x g [])(hy:∀H h,ow H h y k [])(hk:Keep [] w w'):Did P U w w' ([]++[]) [t,u] [] [] [] [[x],[y]] [g,k] [] []:=by
 refine⟨hk,by simp,by simp,rfl,⟨rfl,rfl⟩, ?_⟩;simp only[Fj];refine⟨_,_,_,_,[],[],rfl,rfl,rfl,(sU hpt).2 ⟨[g], ?_, ?_,rfl⟩,_,_,_,_,[],[],rfl,rfl,rfl,(sU hpu).2 ⟨[k], ?_, ?_,rfl⟩,rfl,rfl,rfl⟩
 ·rw[Go.Vm.valOf,if_neg (by rw[ht];simp)]
 ·simp only[dF];exact⟨_,_,[],[],rfl,rfl,hx _ _,rfl⟩
 ·rw[Go.Vm.valOf,if_neg (by rw[hu];simp)]
 ·simp only[dF];exact⟨_,_,[],[],rfl,rfl,hy _ _,rfl⟩
def tab_below{w w':World}{nm:String}{k:IntKind}{l:List Int}(h:Lib.TabIs Tryz.prog w nm k l)(hb:Go.RowKit.Below w.heap.size w w'):Lib.TabIs Tryz.prog w' nm k l:=by
 unfold Lib.TabIs World.var? at h|-;cases hg:Tryz.prog.globalNamed nm with
 |none=>rw[hg] at h;simp at h
 |some g=>
  rw[hg] at h;simp only[Option.bind_some] at h|-;cases hq:w.heap[g]? with
  |none=>rw[hq] at h;simp at h
  |some o=>have hlt:g<w.heap.size:=(Array.getElem?_eq_some_iff.1 hq).1;rw[hb.block g hlt];exact h
def abt{X:Ctx}(hP:X.P=Tryz.prog)(hm:∀i,i<1->vI X.Bf 80 i=0)(hT:X.alM 6=true)(hR:X.glob 6=some He)(h3:X.alN 3=true)(h4:X.alN 4=true)(fn:Func)(args:List V)(cells:List Cell)(rows:ay)(outs:List Cell)(hf:X.P.funcs[80]? =some fn)(h:Prim.iK args cells=some (rows,outs))
  (base:Nat) (U:Nat->Prop) (w:World) (gargs eu:List Value) (N1 N2:List Nat) (hG:Given X base U w 80 args cells gargs eu N1 N2):
  Calls X.P 80 gargs.toArray w λe w'=>∃gs M1 M2,e=.returned (Lc gs)/\Did X.P U w w' (N1++N2) fn.resultTypes.toList cells outs eu rows gs M1 M2:=by
 unfold Prim.iK at h;split at h
 ·rename_i s;unfold M.iK at h;cases hc:Nat.ble s.length 1048576 with
  |false=>rw[hc] at h;cases h
  |true=>
   rw[hc] at h;cases h;rw[Nat.ble_eq] at hc;obtain⟨rfl,rfl,rfl,hs⟩:=U6 hG hm;have hg:gargs=[.string ⟨⟨s⟩⟩]:=by simp only[bD,aC,ro] at hs;obtain⟨g,gs,rfl,rfl,rfl⟩:=hs;rfl
   rw[hg];have htab:=aoL hP hT hR hG.gl hG.tab;obtain⟨e3,k3,q3⟩:=hG.gl.ifc 3 h3;obtain⟨e4,k4,q4⟩:=hG.gl.ifc 4 h4;have k3:=(DU k3).2.2;have k4:=(DU k4).2.2;rw[hP] at hf|-;have hfn:fn.resultTypes.toList=[3,4]:=by rw[Tryz.func80] at hf;cases hf;rfl
   rw[hfn];have fin:∀(v:Int) (b:Bool) (w':World),Go.RowKit.Below w.heap.size w w'->∃gs M1 M2,(Ending.returned (.tuple #[.int .i64 v,.bool b]):Ending)=.returned (Lc gs)/\Did Tryz.prog U w w' ([]++[]) [3,4] [] [] [] [[.int .i64 v],[.bool b]] gs M1 M2:=λv b w' hb=>⟨[_,_],[],[],rfl,akQ (by kernel_rfl) (by kernel_rfl) (by kernel_rfl) (by kernel_rfl) (λ_ _=>⟨rfl,rfl⟩) (λ_ _=>⟨rfl,rfl⟩) (ac0 hb)⟩
   cases ha:Lib.atoiAll s with
   |range=>
    have e:zT s=none:=by unfold zT;rw[ha]
    rw[e];refine(ahq ⟨⟨s⟩⟩ hc ha e4 w k4 q4).mono ?_;rintro x w' ⟨rfl,hb⟩;exact fin 0 false w' hb
   |ok v=>
    refine(atO ⟨⟨s⟩⟩ hc v ha w (λw' hb=>tab_below htab hb)).mono ?_;rintro x w' ⟨rfl,hb⟩
    by_cases hcd:Lib.itoa v=s/\(Lib.trimPrefix s [45]).length<=9
    ·have e:zT s=some v:=by
      unfold zT;rw[ha];have h9:Nat.ble (Ls s).length 9=true:=by rw[Nat.ble_eq,<-adT];exact hcd.2
      have h8:(Lib.itoa v==s)=true:=beq_iff_eq.2 hcd.1;show(bif Lib.itoa v==s && Nat.ble (Ls s).length 9 then some v else none)=some v;rw[h8,h9];rfl
     rw[e];have:=fin v true w' hb;rw[if_pos hcd];exact this
    ·have e:zT s=none:=by
      unfold zT;rw[ha];show(bif Lib.itoa v==s && Nat.ble (Ls s).length 9 then some v else none)=none;cases hx:(Lib.itoa v==s && Nat.ble (Ls s).length 9) with
      |false=>rfl
      |true=>rw[su,beq_iff_eq,Nat.ble_eq] at hx;exact absurd ⟨hx.1,by rw[adT];exact hx.2⟩ hcd
     rw[e];have:=fin 0 false w' hb;rw[if_neg hcd];exact this
   |_=>
    have e:zT s=none:=by unfold zT;rw[ha]
    rw[e];refine(ae1 ⟨⟨s⟩⟩ hc ⟨fun v q => (by have q : Lib.atoiAll s = _ := q; rw [ha] at q; cases q), fun q => (by have q : Lib.atoiAll s = _ := q; rw [ha] at q; cases q)⟩ e3 w k3 q3).mono ?_;rintro x w' ⟨rfl,hb⟩;exact fin 0 false w' hb
 ·cases h
end Go.Proofs.YtcallmiaialhkaaGreatDoor
namespace Go.Proofs.YtcallmiaialhkaaGreatDoor
set_option linter.unusedVariables false
set_option linter.unusedSimpArgs false
open Go Go.Vm Go.RowKit
open Go.IntKind (i64)
set_option maxRecDepth 100000 in
def ac1{n:Nat}{row:Row}(h:Zh Tryz.prog (n+2) 22 row):∃c:aT,row=[.sl false 1 (c.map byteRow)]/\c.length<=maxLen:=by
 obtain⟨rows,rfl,hl,hr⟩:=amk Tryz.underlying22 h;obtain⟨c,rfl,_⟩:=aaJ (f:=byteRow) (p:=λ_=>True) (λr hr'=>by
  obtain⟨x,rfl,hx⟩:=ah3 Tryz.underlying5 (hr r hr');have h':0<=x/\x<=255:=by simp[Lit.wf,IntKind.min,IntKind.max,IntKind.signed,IntKind.bits] at hx;omega
  refine⟨UInt8.ofNat x.toNat, ?_,trivial⟩;rw[byteRow,UInt8.toNat_ofNat'];congr 2;omega)
 exact⟨c,rfl,by simpa using hl⟩
def aoM:YX X0:=by
 intro f p fn args cells rows outs hx hf hb h base U w gargs eu N1 N2 hG;have hx':(bif Nat.beq f 80 then some Prim.iK else bif Nat.beq f 46 then some Prim.slices_Clone else bif Nat.beq f 88 then some Prim.iy else bif Nat.beq f 138 then some Prim.strings_Contains else none)=some p:=hx;cases hq:Nat.beq f 80 with
 |true=>rw[hq] at hx';cases hx';have e:=lq hq;subst e;exact abt rfl (by decide) rfl rfl rfl rfl fn args cells rows outs hf h base U w gargs eu N1 N2 hG
 |false=>
 rw[hq,dX] at hx';cases hq:Nat.beq f 46 with
 |true=>rw[hq] at hx';cases hx';have e:=lq hq;subst e;exact Xd rfl rfl fn args cells rows outs hf h base U w gargs eu N1 N2 hG
 |false=>
 rw[hq,dX] at hx';cases hq:Nat.beq f 88 with
 |true=>rw[hq] at hx';cases hx';have e:=lq hq;subst e;exact WW rfl rfl fn args cells rows outs hf h base U w gargs eu N1 N2 hG
 |false=>
 rw[hq,dX] at hx';cases hq:Nat.beq f 138 with
 |true=>rw[hq] at hx';cases hx';have e:=lq hq;subst e;exact Tf rfl (by decide) fn args cells rows outs hf h base U w gargs eu N1 N2 hG
 |false=>rw[hq] at hx';cases hx'
def own:ownKnob Tryz.prog.godebug=none:=by kernel_rfl
def laidOut:laidOutB Tryz.prog=true:=by kernel_rfl
def gK : Tryz.prog.globalNamed "loop.example/g01543/impl.keywords" = some 1 := by kernel_rfl
def gS : Tryz.prog.globalNamed "loop.example/g01543/impl.signs" = some 2 := by kernel_rfl
def gB : Tryz.prog.globalNamed "loop.example/g01543/impl.builtins" = some 0 := by kernel_rfl
def tK:(Tryz.prog.globals[1]?).map (·.type)=some 123:=by kernel_rfl
def tS:(Tryz.prog.globals[2]?).map (·.type)=some 125:=by kernel_rfl
def tB:(Tryz.prog.globals[0]?).map (·.type)=some 116:=by kernel_rfl
def c9:Tryz.prog.cellsOf 9=1:=by kernel_rfl
def dK:(Rows.laid_loop_example_g01543_impl_keywords:DataW Unit)=.agg (MQ.map λs=> .lit (.string s)):=by kernel_rfl
def dS:(Rows.laid_loop_example_g01543_impl_signs:DataW Unit)=.agg (aaU.map λs=> .lit (.string s)):=by kernel_rfl
def dB:(Rows.laid_loop_example_g01543_impl_builtins:DataW Unit)=.agg (aaV.map λs=> .lit (.string s)):=by kernel_rfl
def rK:uQ=MQ.map D.str:=by kernel_rfl
def rS:Jp=aaU.map D.str:=by kernel_rfl
def rB:Bj=aaV.map D.str:=by kernel_rfl
def ae3{P:Program}{w:World}{nm:String}{g t e n fuel:Nat}{k:IntKind}{cs:Array Value}{zs:List Int}{p:List MemPlace}(hu:P.underlying t=some (.array n e))(he:P.underlying e=some (.int k))(hc:P.cellsOf e=1)(hn:P.cellsOf t=n)
  (hg:P.globalNamed nm=some g) (hv:w.var? P nm=some cs) (h:DataW.trod (λ_=>()) P w 0 (λ_=>true) false fuel t cs.toList=some (.agg (zs.map λz=> .lit (.int k z)),p)):nN (full w) (zs.map λz=>D.int k z) g 0/\∃T fr,w.heap[g]? =some (.cells cs T fr)/\cs.size=zs.length:=by
 obtain⟨xs,m,rfl,hx,hcl,hxl,hel⟩:=DataW.trod_array hu h;simp only[eH,DataW.agg.injEq] at hx;have hlen:zs.length=xs.length:=by have:=congrArg List.length hx.1;simpa using this
 constructor
 ·refine Vg _ 0 λj x hj=> ?_
  rw[List.getElem?_map] at hj;cases hs:zs[j]? with
  |none=>rw[hs] at hj;cases hj
  |some s=>
   rw[hs] at hj;cases hj;have hjl:j<zs.length:=(FK.1 hs).1;obtain⟨y,hy⟩:∃y,xs[j]? =some y:=⟨xs[j]'au,by simp⟩
   have hh:=hel j au;rw[hy] at hh;obtain⟨b,hb1,hb2,_⟩:=DataW.trod_int he hh;have hyx:y.1=.lit (.int k s):=by have:=congrArg (λl=>l[j]?) hx.1;simp only[List.getElem?_map,hs,hy,Eh,dG] at this;exact this.symm
   rw[hb2] at hyx;simp only[DataW.lit.injEq,Lit.int.injEq,true_and] at hyx;rw[hc,Nat.mul_one] at hb1;have hcell:cs[j]? =some (.int k b):=by have:=congrArg (λl=>l[0]?) hb1;simpa using this
   refine⟨.int k b, ?_, ?_⟩
   ·have:=World.var?_cell hg hv j;rw[Nat.zero_add];show w.cell? ⟨g,j,none⟩=_;rw[this];exact hcell
   ·simp only[ro];rw[<-hyx]
 ·unfold World.var? at hv;rw[hg,Option.bind_some] at hv;split at hv
  ·rename_i cs' T fr hh;cases hv;refine⟨T,fr,hh, ?_⟩;rw[hn,Array.length_toList] at hcl;omega
  ·cases hv
def gT : Tryz.prog.globalNamed "internal/strconv.uint64pow10" = some 6 := by kernel_rfl
def tT:(Tryz.prog.globals[6]?).map (·.type)=some 145:=by kernel_rfl
def c8:Tryz.prog.cellsOf 126=1:=by kernel_rfl
def dT:(Rows.laid_internal_strconv_uint64pow10:DataW Unit)=.agg (Lib.pow10Tab.map λz=> .lit (.int .u64 z)):=by kernel_rfl
def gY : Tryz.prog.globalNamed "strconv.ErrSyntax" = some 3 := by kernel_rfl
def gR : Tryz.prog.globalNamed "strconv.ErrRange" = some 4 := by kernel_rfl
def tY:(Tryz.prog.globals[3]?).map (·.type)=some 101:=by kernel_rfl
def tR:(Tryz.prog.globals[4]?).map (·.type)=some 101:=by kernel_rfl
def c138:Tryz.prog.cellsOf 138=1:=by kernel_rfl
def star : "*" ++ "errors.errorString" = "*errors.errorString" := by decide
def ahr (u : TypeId) (h : Tryz.prog.typeName? 3 u = some "*errors.errorString") : u = 136 :=
 typeName_ptr_named (nm := "errors.errorString") (by rw [star]; kernel_rfl) (by kernel_rfl) (by decide) u (by rw [star]; exact h)
def alL{W:World}(hL:laidMetH Tryz.prog Rows.fnSubstRow.laid W)(hS:W.ShapedOpen Tryz.prog):O7 X0 (full W)/\abM X0 W:=by
 rw[MakeChecks.laidMetH_plain _ _ _ (by kernel_rfl)] at hL;obtain⟨aR,sR,vR, -, -, -⟩:=laid_sentinel hL.tail.tail.tail gR tR Tryz.underlying101 ahr Tryz.underlying136 Tryz.underlying138 rfl rfl Tryz.underlying9 c138 c9;obtain⟨aY,sY,vY, -, -, -⟩:=laid_sentinel hL.tail.tail.tail.tail gY tY Tryz.underlying101 ahr Tryz.underlying136 Tryz.underlying138 rfl rfl Tryz.underlying9 c138 c9;have vR:W.cell? ⟨4,0,none⟩=_:=World.var?_cell gR vR 0;have vY:W.cell? ⟨3,0,none⟩=_:=World.var?_cell gY vY 0;obtain⟨ps,⟨gA,tA,csA,fA,pA,qA,hgA,htA,hvA,hdA,⟨gC,tC,csC,fC,pC,qC,hgC,htC,hvC,hdC,⟨g3,t3,cs3,f3,p3,q3,hg3,ht3,hv3,hd3,⟨gD,tD,csD,fD,pD,qD,hgD,htD,hvD,hdD,⟨gE,tE,csE,fE,pE,qE,hgE,htE,hvE,hdE,⟨g0,t0,cs0,f0,p0,q0,hg0,ht0,hv0,hd0,⟨g1,t1,cs1,f1,p1,q1,hg1,ht1,hv1,hd1,⟨g2,t2,cs2,f2,p2,q2,hg2,ht2,hv2,hd2,_,_⟩,_⟩,_⟩,_⟩,_⟩,_⟩,_⟩,_⟩,_,_⟩:=hL;obtain rfl:=Option.some.inj (gK.symm.trans hg0);obtain rfl:=Option.some.inj (gS.symm.trans hg1);obtain rfl:=Option.some.inj (gB.symm.trans hg2);obtain rfl:=Option.some.inj (gT.symm.trans hg3);obtain rfl:=Option.some.inj (tK.symm.trans ht0);obtain rfl:=Option.some.inj (tS.symm.trans ht1);obtain rfl:=Option.some.inj (tB.symm.trans ht2);obtain rfl:=Option.some.inj (tT.symm.trans ht3);rw[dK] at hd0;rw[dS] at hd1;rw[dB] at hd2;rw[dT] at hd3;have hT3:=ae3 Tryz.underlying145 Tryz.underlying126 c8 (by kernel_rfl) hg3 hv3 hd3;refine⟨⟨λg row h=> ?_,λg h=> ?_,λg h=> ?_⟩,λg h=> ?_⟩
 ·have h':(bif Nat.beq g 6 then some He else bif Nat.beq g 0 then some Bj else bif Nat.beq g 1 then some uQ else bif Nat.beq g 2 then some Jp else none)=some row:=h;cases hq:Nat.beq g 6 with
  |true=>rw[hq] at h';cases h';have e:=lq hq;subst e;exact hT3.1
  |false=>
  rw[hq,dX] at h';cases hq:Nat.beq g 0 with
  |true=>rw[hq] at h';cases h';have e:=lq hq;subst e;rw[rB];exact QB Tryz.underlying116 Tryz.underlying9 c9 hg2 hv2 hd2
  |false=>
  rw[hq,dX] at h';cases hq:Nat.beq g 1 with
  |true=>rw[hq] at h';cases h';have e:=lq hq;subst e;rw[rK];exact QB Tryz.underlying123 Tryz.underlying9 c9 hg0 hv0 hd0
  |false=>
  rw[hq,dX] at h';cases hq:Nat.beq g 2 with
  |true=>rw[hq] at h';cases h';have e:=lq hq;subst e;rw[rS];exact QB Tryz.underlying125 Tryz.underlying9 c9 hg1 hv1 hd1
  |false=>rw[hq] at h';cases h'
 ·have h':(bif Nat.beq g 5 then true else false)=true:=h;cases hq:Nat.beq g 5 with
  |false=>rw[hq] at h';cases h'
  |true=>have e:=lq hq;subst e;exact Go.Proofs.cell_of_shapedOpen_int (zero:=#[.int .i64 0]) hS (of_decide_eq_true (by kernel_rfl)) (by kernel_rfl) rfl (by kernel_rfl) (by kernel_rfl) Tryz.underlying3
 ·have h':(bif Nat.beq g 4 then true else bif Nat.beq g 3 then true else false)=true:=h;cases hq:Nat.beq g 4 with
  |true=>have e:=lq hq;subst e;exact⟨_,vR,.inr ⟨_,_,rfl⟩⟩
  |false=>
  rw[hq,dX] at h';cases hq:Nat.beq g 3 with
  |true=>have e:=lq hq;subst e;exact⟨_,vY,.inr ⟨_,_,rfl⟩⟩
  |false=>rw[hq] at h';cases h'
 ·have h':(bif Nat.beq g 6 then true else false)=true:=h;cases hq:Nat.beq g 6 with
  |false=>rw[hq] at h';cases h'
  |true=>have e:=lq hq;subst e;obtain⟨T,fr,hh,hsz⟩:=hT3.2;exact⟨_,_,cs3,T,fr,rfl,hh,hsz.trans Lib.pow10Tab_length⟩
end Go.Proofs.YtcallmiaialhkaaGreatDoor
