import Derived.Test.YtoaeipkhadpbiaaGreatDoorVm3
import Derived.IntWalk
import Derived.ChangeShapes
import Derived.ChangeOld
import Derived.Carry
import Derived.WideShapes
import Derived.ProofKit
import Derived.Handed
import Derived.LaidLaws
import Derived.LaidHandle
import Derived.Shelf.Vars
import Derived.OpenShut
import Derived.ChangeArms
import Derived.LaidMore
set_option linter.defProp false
set_option linter.unusedVariables false
set_option linter.unusedSimpArgs false
namespace Go.Vm
open Go
open Go.IntKind (i64)
set_option linter.unusedVariables false
structure Pt(β:Type) where
 α:Type
 enc:α->β
 dec:β->Option α
 ok:∀b x,dec b=some x->b=enc x
noncomputable section
def pS:Pt V:=⟨List UInt8,λs=> .d (.str s),λv=>match v with| .d (.str s)=>some s|_=>none,by intro b x h;split at h<;>simp_all⟩
def pK(k:IntKind):Pt V:=⟨Int,λn=> .d (.int k n),λv=>match v with| .d (.int k' n)=>(match decEq k' k with| .isTrue _=>some n| .isFalse _=>none)|_=>none,by
 intro b x h;split at h
 ·split at h<;>simp_all
 ·cases h⟩
def pI:Pt V:=pK .i64
def pB:Pt V:=⟨Bool,λs=> .d (.bool s),λv=>match v with| .d (.bool s)=>some s|_=>none,by intro b x h;split at h<;>simp_all⟩
def pL(o:Bool)(s:Nat):Pt V:=⟨List Row,λr=> .d (.sl o s r),λv=>match v with| .d (.sl o' s' r)=>bif(o==o') && Nat.beq s s' then some r else none|_=>none,by
 intro b x h;split at h
 ·rename_i o' s' r;cases ho:(o==o')<;>cases hs:Nat.beq s s'<;>simp only[ho,hs,Bool.and_true,Bool.and_false,Bool.false_and,aJ,aX,oL] at h
  all_goals first|cases h;done|skip
  cases h;rw[beq_iff_eq] at ho;rw[MB hs,ho]
 ·cases h⟩
def pZ{β:Type}(v:β)(t:β->Bool)(h:∀b,t b=true->b=v):Pt β:=⟨Unit,λ_=>v,λb=>bif t b then some () else none,by
 intro b x e;cases ht:t b with
 |true=>exact h b ht
 |false=>rw[ht] at e;cases e⟩
def RY(s:Nat):Pt V:=pZ (.nil s) (λv=>match v with| .nil t=>Nat.beq s t|_=>false) (by
 intro b h;split at h
 ·rw[MB h]
 ·cases h)
def axz{a b:Bool}(h:(a && b)=true):a=true/\b=true:=by simpa using h
def pO(r n:Nat):Pt V:=pZ (.own r n) (λv=>match v with| .own a b=>Nat.beq r a && Nat.beq n b|_=>false) (by
 intro b h;split at h
 ·obtain⟨h1,h2⟩:=axz h;rw[MB h1,MB h2]
 ·cases h)
def pP(r n:Nat):Pt V:=pZ (.ptr r n) (λv=>match v with| .ptr a b=>Nat.beq r a && Nat.beq n b|_=>false) (by
 intro b h;split at h
 ·obtain⟨h1,h2⟩:=axz h;rw[MB h1,MB h2]
 ·cases h)
def aHQ{β:Type}(p:Pt β)(q:Pt (List β)):Pt (List β):=⟨p.α×q.α,λx=>p.enc x.1::q.enc x.2,λl=>match l with|a::b=>(match p.dec a with|some x=>(match q.dec b with|some y=>some (x,y)|none=>none)|none=>none)|[]=>none,by
 intro b x h;split at h
 ·split at h
  ·rename_i hp;split at h
   ·rename_i hq;cases h;rw[p.ok _ _ hp,q.ok _ _ hq]
   ·cases h
  ·cases h
 ·cases h⟩
def aRZ{β:Type}:Pt (List β):=pZ [] (λl=>match l with|[]=>true|_=>false) (by intro b h;split at h<;>simp_all)
def pl{β:Type}(l:List (Pt β)):Pt (List β):=List.rec aRZ (λp _ q=>aHQ p q) l
def aHR(f:Nat)(a b:List (Pt V)):Pt V:=⟨(pl a).α×(pl b).α,λx=> .clo f ((pl a).enc x.1) ((pl b).enc x.2),λv=>match v with| .clo g x y=>bif Nat.beq f g then(match(pl a).dec x with|some x=>(match(pl b).dec y with|some y=>some (x,y)|none=>none)|none=>none) else none|_=>none,by
 intro v x h;split at h
 ·rename_i g u w;cases ht:Nat.beq f g with
  |false=>rw[ht] at h;cases h
  |true=>
   rw[ht,aJ] at h;split at h
   ·rename_i hp;split at h
    ·rename_i hq;cases h;rw[(pl a).ok _ _ hp,(pl b).ok _ _ hq,MB ht]
    ·cases h
   ·cases h
 ·cases h⟩
def yL(a:List (Pt V)):Pt V:=⟨(pl a).α,λx=> .agg ((pl a).enc x),λv=>match v with| .agg x=>(pl a).dec x|_=>none,by
 intro v x h;split at h
 ·rw[(pl a).ok _ _ h]
 ·cases h⟩
def cB(t:TypeId)(a:List (Pt V)):Pt Cell:=⟨(pl a).α,λx=> .box t ((pl a).enc x),λv=>match v with| .box u x=>bif Nat.beq t u then(pl a).dec x else none|_=>none,by
 intro v x h;split at h
 ·rename_i u y;cases ht:Nat.beq t u with
  |false=>rw[ht] at h;cases h
  |true=>rw[ht,aJ] at h;rw[(pl a).ok _ _ h,MB ht]
 ·cases h⟩
def cA(z l:Bool)(n s:Nat):Pt Cell:=⟨List Row,λr=> .arr z l n s r,λv=>match v with| .arr z' l' n' s' r=>bif(z==z') &&((l==l') &&(Nat.beq n n' && Nat.beq s s')) then some r else none|_=>none,by
 intro b x h;split at h
 ·rename_i z' l' n' s' r;cases ht:((z==z') &&((l==l') &&(Nat.beq n n' && Nat.beq s s'))) with
  |false=>rw[ht] at h;cases h
  |true=>rw[ht] at h;obtain⟨h1,h2⟩:=axz ht;obtain⟨h2,h3⟩:=axz h2;obtain⟨h3,h4⟩:=axz h3;cases h;rw[beq_iff_eq] at h1 h2;rw[h1,h2,MB h3,MB h4]
 ·cases h⟩
def dO{β:Type}(n:Nat)(p:Pt β):Pt (Nat×β):=⟨p.α,λx=>(n,p.enc x),λy=>bif Nat.beq n y.1 then p.dec y.2 else none,by
 intro y x h;cases ht:Nat.beq n y.1 with
 |false=>rw[ht] at h;cases h
 |true=>rw[ht,aJ] at h;rw[<-p.ok _ _ h,MB ht]⟩
def Iu(t:List (Pt (Nat×V)))(m:List (Pt (Nat×Cell))):Pt St:=⟨(pl t).α×(pl m).α,λx=>⟨(pl t).enc x.1,(pl m).enc x.2⟩,λS=>match(pl t).dec S.tm with|some x=>(match(pl m).dec S.mem with|some y=>some (x,y)|none=>none)|none=>none,by
 intro S x h;split at h
 ·rename_i hp;split at h
  ·rename_i hq;cases h;cases S;have e1:=(pl t).ok _ _ hp;have e2:=(pl m).ok _ _ hq;simp only at e1 e2;rw[e1,e2]
  ·cases h
 ·cases h⟩
def pOr{β:Type}(p q:Pt β):Pt β:=⟨p.α⊕q.α,λx=>match x with| .inl x=>p.enc x| .inr y=>q.enc y,λb=>match p.dec b with|some x=>some (.inl x)|none=>(match q.dec b with|some y=>some (.inr y)|none=>none),by
 intro b x h;split at h
 ·rename_i hp;cases h;exact p.ok _ _ hp
 ·split at h
  ·rename_i hq;cases h;exact q.ok _ _ hq
  ·cases h⟩
structure fF where
 f:Nat
 p:Pt (List V)
 q:Pt (List Cell)
 ρ:Type
 enc:ρ->List Row×List Cell
@[reducible] def sg(f:Nat)(a:List (Pt V))(c:List (Pt Cell)){ρ:Type}(enc:ρ->List Row×List Cell):fF:=⟨f,pl a,pl c,ρ,enc⟩
abbrev fF.α(S:fF):Type:=S.p.α×S.q.α
def fF.ok(S:fF)(X:Ctx)(o:S.α->Option S.ρ):Prop:=∀x r,o x=some r->call X S.f (S.p.enc x.1) (S.q.enc x.2)=some (S.enc r)
structure FE(X:Ctx) where
 f:Nat
 P:List V->List Cell->Option (Res (List Row×List Cell))
 ok:∀a c q r,P a c=some q->q.val=some r->call X f a c=some r
def fe{X:Ctx}{S:fF}{o:S.α->Option S.ρ}(h:S.ok X o):FE X:=⟨S.f,λa c=>match S.p.dec a with|some x=>(match S.q.dec c with|some y=>some ⟨S.ρ,o (x,y),S.enc⟩|none=>none)|none=>none,by
 intro a c q r hq hr;split at hq
 ·rename_i x hx;split at hq
  ·rename_i y hy;cases hq;obtain⟨z,hz,rfl⟩:=Res.ajw hr;rw[S.p.ok _ _ hx,S.q.ok _ _ hy];exact h (x,y) z hz
  ·cases hq
 ·cases hq⟩
def kt{X:Ctx}(l:List (FE X)):Vb:=List.rec (λ_ _ _=> .none) (λe _ K g a c=>bif Nat.beq g e.f then(match e.P a c with|some r=>r|none=>K g a c) else K g a c) l
def aDS{X:Ctx}(l:List (FE X)):KLe (kt l).to (call X):=by
 induction l with
 |nil=>exact λ_ _ _ _ h=>by simp[Vb.to,kt,Res.none,Res.val] at h
 |cons e l ih=>
  intro g a c r hr;have hr':(bif Nat.beq g e.f then(match e.P a c with|some r=>r|none=>kt l g a c) else kt l g a c).val=some r:=hr
  by_cases h:g=e.f
  ·subst h;simp only[Nat.beq_refl,aJ] at hr';split at hr'
   ·rename_i q hq;exact e.ok a c q r hq hr'
   ·exact ih _ a c r hr'
  ·rw[EM h] at hr';exact ih g a c r hr'
structure LE(X:Ctx)(f:Nat) where
 n:Nat
 c:Code
 P:St->Option (aek (Ex×St))
 hn:lid c=n
 ok:∀S q r,P S=some q->q.val=some r->WC (den X (call X) f c) S=some r
def lt{X:Ctx}{f:Nat}(l:List (LE X f)):WO:=List.rec (λ_ _=> .none) (λe _ L n S=>bif Nat.beq n e.n then(match e.P S with|some r=>r|none=> .none) else L n S) l
def apart(l:List Nat):Bool:=match l with
 |[]=>true
 |x::l=>l.all (λy=> !(Nat.beq x y)) && apart l
def axA{X:Ctx}{f:Nat}:∀(l:List (LE X f)),apart (l.map LE.n)=true->∀e,e∈l->∀S r,(lt l e.n S).val=some r->WC (den X (call X) f e.c) S=some r
 |[],_,e,h,_,_,_=>by cases h
 |d::l,hd,e,he,S,r,hr=>by
  have hr':(bif Nat.beq e.n d.n then(match d.P S with|some r=>r|none=> .none) else lt l e.n S).val=some r:=hr;simp only[zmc,apart,PO] at hd;rcases List.mem_cons.1 he with rfl|he
  ·simp only[Nat.beq_refl,aJ] at hr';split at hr'
   ·rename_i q hq;exact e.ok S q r hq hr'
   ·simp[aek.none,aek.val] at hr'
  ·have h1:=List.all_eq_true.1 hd.1 e.n (List.mem_map_of_mem he);have h2:e.n≠d.n:=by intro h;rw[h,Nat.beq_refl] at h1;cases h1
   rw[EM h2] at hr';exact axA l hd.2 e he S r hr'
def aDT{X:Ctx}{f:Nat}{l:List (LE X f)}{cs:List Code}(h:cs=l.map LE.c)(hd:apart (l.map LE.n)=true):LOk X (call X) f (lt l).to cs:=by intro c hc S r hr;rw[h] at hc;obtain⟨e,he,rfl⟩:=List.mem_map.1 hc;rw[e.hn] at hr;exact axA l hd e he S r hr
def fnS{X:Ctx}{S:fF}{o:S.α->Option S.ρ}(C:∀{R:Type},S.α->(S.ρ->Option R)->Option R)(K:List (FE X))(L:List (LE X S.f))(hn:∀{R:Type} x (k:S.ρ->Option R),C x k=(C x some).bind k)
  (hE:∀{R:Type} x (k:List Row->List Cell->Option R),bodyC X (kt K) (lt L) S.f (S.p.enc x.1) (S.q.enc x.2) k=C x (λr=>k (S.enc r).1 (S.enc r).2):=by intros;kernel_rfl)
  (hL:loops (codeOf X.P S.f)=L.map LE.c:=by kernel_rfl) (hd:apart (L.map LE.n)=true:=by kernel_rfl) (hp:X.adV S.f=none:=by kernel_rfl) (ho:∀x,o x=C x some:=by intros;rfl):S.ok X o:=by
 intro x r h;rw[ho] at h;exact axw hp (aDS K) (aDT hL hd) (by rw[hE,hn]) h
def fF.lim{X:Ctx}{S:fF}{o:Nat->S.α->Option S.ρ}(h:∀n,S.ok X (o n)):S.ok X λx=>Vm.lim λn=>o n x:=by intro x r hr;obtain⟨n,hn⟩:=VJ hr;exact h n x r hn
def fF.zero{X:Ctx}{S:fF}:S.ok X λ_=>none:=λ_ _ h=>by cases h
def fF.IY{X:Ctx}{S:fF}{o:Nat->S.α->Option S.ρ}(h:∀n,S.ok X (o n))(hi:∀a b,S.enc a=S.enc b->a=b){x:S.α}{n:Nat}{r:S.ρ}(hr:o n x=some r):(Vm.lim λn=>o n x)=some r:=by
 refine Vm.IY hr λm y hy=> ?_
 have h1:=h n x r hr;have h2:=h m x y hy;rw[h1] at h2;exact(hi _ _ (Option.some.inj h2)).symm
def fF.adV{X:Ctx}{S:fF}{o:S.α->Option S.ρ}{p:List V->List Cell->Option (List Row×List Cell)}(h:∀x,p (S.p.enc x.1) (S.q.enc x.2)=(o x).map S.enc:=by intros;rfl)(hp:X.adV S.f=some p:=by kernel_rfl):S.ok X o:=by intro x r hr;exact anD hp (by rw[h,hr];rfl)
def le{X:Ctx}{f:Nat}(n:Nat)(p:Pt St){σ:Type}(v:p.α->σ)(g:p.α->σ->p.α)(A:p.α->Alt (Ex×St))(C:∀{R:Type} (x:p.α),σ->(σ->Option R)->((A x).T->Option R)->Option R)(K:List (FE X))(L:List (LE X f))
  (hn:∀{R:Type} x s (kn:σ->Option R) (ke:(A x).T->Option R),C x s kn ke=(C x s (λs=>some (Sum.inl s)) (λt=>some (Sum.inr t))).bind λr=>match r with| .inl s=>kn s| .inr t=>ke t)
  (hE:∀{R:Type} x s (k:Ex->St->Option R),aem X (kt K) (lt L) f (Z7 X.P f n) (p.enc (g x s)) k=C x s (λs=>k .normal (p.enc (g x s))) (λt=>(A x).go t λr=>k r.1 r.2):=by intros;kernel_rfl)
  (hx:∀x t,((A x).enc t).1≠.normal:=by first|(intro x t h;cases h;done)|(intro x t;rcases t with t|t<;>first|(intro h;cases h;done)|(rcases t with t|t<;>first|(intro h;cases h;done)|(rcases t with t|t<;>(intro h;cases h)))))
  (hv:∀x,g x (v x)=x:=by first|(intros;rfl)|(rintro(_|_)<;>rfl)|(rintro(_|_|_)<;>rfl)|(rintro(_|_|_|_)<;>rfl))
  (hL:loops (Z7 X.P f n)=L.map LE.c:=by kernel_rfl) (hd:apart (L.map LE.n)=true:=by kernel_rfl) (hi:lid (Z7 X.P f n)=n:=by kernel_rfl):LE X f:=
 ⟨n,Z7 X.P f n,λS=>match p.dec S with|some x=>some ⟨A x,gU (λs=>C x s (λs=>some (Sum.inl s)) (λt=>some (Sum.inr t))) (v x)⟩|none=>none,hi,by
  intro S q r hq hr;split at hq
  ·rename_i x hp;cases hq;obtain⟨t,ht,rfl⟩:=aek.ajw hr;rw[p.ok _ _ hp];have h:=axx (X:=X) (f:=f) (c:=Z7 X.P f n) (K:=kt K) (L:=lt L) (tm:=λs=>p.enc (g x s)) (tx:=(A x).enc) (aDS K) (aDT hL hd) (λs=>by
    rw[hE,hn];congr 1;funext r;cases r
    ·rfl
    ·exact Alt.go_eq _ _ _) (hx x) ht
   rwa [hv] at h
  ·cases hq⟩
def nb:(∀(α β:Type) (c:Bool) (a b:Option α) (f:α->Option β),(bif c then a else b).bind f=bif c then a.bind f else b.bind f)/\(∀(α β γ:Type) (o:Option α) (g:α->Option β) (f:β->Option γ),(o.bind g).bind f=o.bind λx=>(g x).bind f)/\
  (∀(α β:Type) (a:α) (f:α->Option β),(some a).bind f=f a)/\(∀(α β:Type) (f:α->Option β),(none:Option α).bind f=none)/\
  (∀(α β γ:Type) (o:Option α) (n:Option β) (f:α->Option β) (g:β->Option γ),(avc o n f).bind g=avc o (n.bind g) λx=>(f x).bind g)/\
  (∀(α β γ δ:Type) (r:α⊕β) (f:α->Option γ) (g:β->Option γ) (k:γ->Option δ),(jg r f g).bind k=jg r (λx=>(f x).bind k) (λy=>(g y).bind k))/\
  (∀(α β γ:Type) (x:α) (f:α->Option β) (g:β->Option γ),(letE x f).bind g=letE x λy=>(f y).bind g):=
 ⟨λ_ _=>axy,λ_ _ _=>ava,λ_ _=>aj,λ_ _=>avb,λ_ _ _=>amf,λ_ _ _ _=>amg,λ_ _ _=>amh⟩
section
variable {α β ρ R:Type} {k:ρ->Option R}
def dn{c:Bool}{x y:Option R}{u v:Option ρ}(h1:x=u.bind k)(h2:y=v.bind k):(bif c then x else y)=(bif c then u else v).bind k:=by cases c<;>assumption
def vI{o:Option α}{f:α->Option R}{g:α->Option ρ}(h:∀a,f a=(g a).bind k):o.bind f=(o.bind g).bind k:=by cases o with
 |none=>rfl
 |some a=>exact h a
def vJ{o:Option α}{n:Option R}{m:Option ρ}{f:α->Option R}{g:α->Option ρ}(h1:n=m.bind k)(h:∀a,f a=(g a).bind k):avc o n f=(avc o m g).bind k:=by rw[amf,h1,funext h]
def vK{o:α⊕β}{f:α->Option R}{g:β->Option R}{f':α->Option ρ}{g':β->Option ρ}(h1:∀a,f a=(f' a).bind k)(h2:∀a,g a=(g' a).bind k):jg o f g=(jg o f' g').bind k:=by rw[amg,funext h1,funext h2]
def vM{x:α}{f:α->Option R}{g:α->Option ρ}(h:∀a,f a=(g a).bind k):letE x f=(letE x g).bind k:=by rw[amh,funext h]
end
end
end Go.Vm
namespace Go.Vm
open Go
open Go.IntKind (i64)
def bF{n:Int}(h1: -9223372036854775808<=n)(h2:n<=9223372036854775807):i64.wrap n=n:=IntWalk.i64_in n ⟨h1,h2⟩
def anM{α β:Type}(f:α->β)(l:List α)(i:Int):idx (l.map f) i=(idx l i).map f:=by unfold idx;cases decide (0<=i)<;>simp
def dG{α:Type}(l:List α)(i:Nat):idx l (i:Int)=l[i]? :=by simp[idx]
structure Nd where
 kind:Int
 op:Int
 text:List UInt8
 other:List UInt8
 kids:List Int
 deriving DecidableEq,Inhabited
def encI(l:List Int):List Row:=l.map λk=>[.int .i64 k]
def encS(l:List (List UInt8)):List Row:=l.map λs=>[.str s]
def afj(o:Bool)(n:Nd):Row:=[.int .i64 n.kind,.int .i64 n.op,.str n.text,.str n.other,.sl o 1 (encI n.kids)]
def aU(o:Bool)(l:List Nd):List Row:=l.map (afj o)
structure Tk where
 kind:Int
 text:List UInt8
 at_:Int
 deriving DecidableEq,Inhabited
def alf(n:Tk):Row:=[.int .i64 n.kind,.str n.text,.int .i64 n.at_]
def ay(l:List Tk):List Row:=l.map alf
section
variable (o:Bool) (n:Nd) (l:List Nd) (k:List Int) (i:Int) (t:Tk) (ts:List Tk)
@[simp] theorem jK:(encI k).length=k.length:=by simp[encI]
@[simp] theorem gV:(aU o l).length=l.length:=by simp[aU]
@[simp] theorem dZ:(ay ts).length=ts.length:=by simp[ay]
@[simp] theorem ao0:idx (encI k) i=(idx k i).map λk=>[D.int .i64 k]:=anM _ _ _
@[simp] theorem aHp:idx (aU o l) i=(idx l i).map (afj o):=anM _ _ _
@[simp] theorem aHq:idx (ay ts) i=(idx ts i).map alf:=anM _ _ _
@[simp] theorem BP(j:Nat):(encI k)[j]? =(k[j]?).map λk=>[D.int .i64 k]:=by simp[encI]
@[simp] theorem oO(j:Nat):(aU o l)[j]? =(l[j]?).map (afj o):=by simp[aU]
@[simp] theorem iE(j:Nat):(ay ts)[j]? =(ts[j]?).map alf:=by simp[ay]
@[simp] theorem cN0:kP .i64 (afj o n) 0=some n.kind:=rfl
@[simp] theorem cN1:kP .i64 (afj o n) 1=some n.op:=rfl
@[simp] theorem cN2:cStr (afj o n) 2=some n.text:=rfl
@[simp] theorem cN3:cStr (afj o n) 3=some n.other:=rfl
@[simp] theorem cN4:cSl 1 (afj o n) 4=some (encI n.kids):=rfl
@[simp] theorem cT0:kP .i64 (alf t) 0=some t.kind:=rfl
@[simp] theorem cT1:cStr (alf t) 1=some t.text:=rfl
@[simp] theorem cT2:kP .i64 (alf t) 2=some t.at_:=rfl
@[simp] theorem cI0:kP .i64 [D.int .i64 i] 0=some i:=rfl
@[simp] theorem aBx:au (encI k)=encI k:=by
 induction k with
 |nil=>rfl
 |cons x l ih=>simp only[encI,zmc,au] at ih|-;rw[ih];rfl
@[simp] theorem aV:au (aU o l)=aU false l:=by
 induction l with
 |nil=>rfl
 |cons x l ih=>simp only[aU,zmc,au] at ih|-;rw[ih];simp[afj,EK,D.fz,aBx]
@[simp] theorem aHS:au (ay ts)=ay ts:=by
 induction ts with
 |nil=>rfl
 |cons x l ih=>simp only[ay,zmc,au] at ih|-;rw[ih];simp[alf,EK,D.fz]
@[simp] theorem Vu:ah (encI k)=true:=by simp only[ah,encI,List.all_map,List.all_eq_true];intro x _;rfl
end
def I64(n:Int):Prop:= -9223372036854775808<=n/\n<=9223372036854775807
structure Fit(n:Nd):Prop where
 kind:I64 n.kind
 op:I64 n.op
 text:n.text.length<=maxLen
 other:n.other.length<=maxLen
 kids:n.kids.length<=maxLen
 kid:∀k,k∈n.kids->I64 k
structure aYl(n:Tk):Prop where
 kind:I64 n.kind
 text:n.text.length<=maxLen
 at_:I64 n.at_
end Go.Vm
namespace Go.Vm
open Go
open Go.IntKind (i64)
section
variable {X:Ctx} {base:Nat} {U:Nat->Prop} {w w':World} {f:FuncId} {gargs mV:List Value} {N1 N2:List Nat} {P:Program}
def ao1{args:List V}(hG:Given X base U w f args [] gargs mV N1 N2)(hm:∀i,i<args.length->PS X.U8 f i=0):
  mV=[]/\N1=[]/\N2=[]/\dX (impμ []) [] (view w U (· ∈([]:List Nat)++[])) args gargs:=by
 obtain⟨rfl,rfl⟩:=hG.cells;have key:∀(args:List V) (i:Nat) (gs:List Value) (N:List Nat) (hv:View),(∀j,i<=j->j<i+args.length->PS X.U8 f j=0)->VA X.U8 f (impμ []) (y7 0 []) (fZ w) hv i args gs N->N=[]/\dX (impμ []) [] hv args gs:=by
  intro args;induction args with
  |nil=>intro i gs N hv _ h;simp only[VA] at h;exact⟨h.2,by simpa[dX] using h.1⟩
  |cons a args ih=>intro i gs N hv hi h;simp only[VA,hi i (Nat.le_refl _) (by simp)] at h;obtain⟨g,gs',M1,M2,rfl,rfl,⟨rfl,hq⟩,hr⟩:=h;obtain⟨rfl,hs⟩:=ih (i+1) gs' M2 hv (λj h1 h2=>hi j aC (by simp only[Zr];omega)) hr;exact⟨rfl,by simp only[dX];exact⟨g,gs',rfl,hq,hs⟩⟩
 obtain⟨rfl,hs⟩:=key args 0 gargs N1 _ (λj _ hj=>hm j aC) hG.args;exact⟨rfl,rfl,rfl,hs⟩
def arY{μ:Nat->Value}{m:Mem}{h:View}{a b:List UInt8}(q:dX μ m h [.d (.str a),.d (.str b)] gargs):gargs=[.string ⟨⟨a⟩⟩,.string ⟨⟨b⟩⟩]:=by simp only[dX,bQ,ro] at q;obtain⟨g,gs,rfl,rfl,g',gs',rfl,rfl,rfl⟩:=q;rfl
def ajA{t:TypeId}{x:D}{g:Value}(ht:UA P t=false)(hx:∀H h,ow H h x g [])(hk:Keep [] w w'):Did P U w w' ([]++[]) [t] [] [] [] [[x]] [g] [] []:=by
 refine⟨hk,by simp,by simp,rfl,⟨rfl,rfl⟩, ?_⟩;simp only[XP];refine⟨_,_,_,_,[g],[],[],rfl,rfl,rfl, ?_, ?_,rfl,rfl,rfl,rfl⟩
 ·rw[valOf,if_neg (by rw[ht];simp)]
 ·simp only[mQ];exact⟨_,_,[],[],rfl,rfl,hx _ _,rfl⟩
end
end Go.Vm
namespace Go.Vm
open Go
open Go.IntKind (i64)
inductive Tn where
 |mk (kind op:Int) (text other:List UInt8) (kids:List Tn)
mutual
def Tn.size:Tn->Nat
 | .mk _ _ _ _ ks=>sizes ks+1
def sizes:List Tn->Nat
 |[]=>0
 |t::ts=>t.size+sizes ts
end
def ends:List Tn->Nat->List Int
 |[],_=>[]
 |t::ts,b=>((b:Int)+t.size - 1)::ends ts (b+t.size)
mutual
def Tn.flat:Tn->Nat->List Nd
 | .mk k o x y ks,b=>qU ks b++[⟨k,o,x,y,ends ks b⟩]
def qU:List Tn->Nat->List Nd
 |[],_=>[]
 |t::ts,b=>t.flat b++qU ts (b+t.size)
end
mutual
def Tn.row(w:Bool):Tn->Row
 | .mk k o x y ks=>[.int .i64 k,.int .i64 o,.str x,.str y,.sl w 5 (dN w ks)]
def dN(w:Bool):List Tn->List Row
 |[]=>[]
 |t::ts=>t.row w::dN w ts
end
mutual
def Tn.depth:Tn->Int
 | .mk _ _ _ _ ks=>depths 0 ks+1
def depths(a:Int):List Tn->Int
 |[]=>a
 |t::ts=>depths (bif decide (a<t.depth) then t.depth else a) ts
end
def Tn.kids:Tn->List Tn| .mk _ _ _ _ ks=>ks
def Tn.kind:Tn->Int| .mk k _ _ _ _=>k
def Tn.op:Tn->Int| .mk _ o _ _ _=>o
def Tn.text:Tn->List UInt8| .mk _ _ x _ _=>x
def Tn.other:Tn->List UInt8| .mk _ _ _ y _=>y
def Tn.ind{P:Tn->Prop}(h:∀k o x y ks,(∀t,t∈ks->P t)->P (.mk k o x y ks))(t:Tn):P t:=by
 refine Tn.rec (motive_1:=P) (motive_2:=λks=>∀t,t∈ks->P t) ?_ ?_ ?_ t
 ·intro k o x y ks ih;exact h k o x y ks ih
 ·intro t ht;cases ht
 ·intro t ts h1 h2 u hu;rcases List.mem_cons.1 hu with rfl|hu
  ·exact h1
  ·exact h2 u hu
def Tn.size_pos:∀t:Tn,1<=t.size
 | .mk _ _ _ _ ks=>by rw[Tn.size];omega
def Tn.X3(t:Tn):t.size=sizes t.kids+1:=by cases t;rfl
def jT:∀a b:List Tn,sizes (a++b)=sizes a+sizes b
 |[],b=>by simp[sizes]
 |t::a,b=>by rw[zca,sizes,sizes,jT a b];omega
def yP:∀ks:List Tn,ks.length<=sizes ks
 |[]=>Nat.le_refl _
 |t::ts=>by have:=yP ts;have:=t.size_pos;rw[sizes,Zr];omega
def agj:∀{ks:List Tn} {t:Tn},t∈ks->t.size<=sizes ks
 |u::ts,t,h=>by
  rw[sizes];rcases List.mem_cons.1 h with rfl|h
  ·omega
  ·have:=agj h;omega
def J3:∀a:List Tn,sizes a.reverse=sizes a
 |[]=>rfl
 |t::a=>by rw[List.reverse_cons,jT,J3 a,sizes,sizes,sizes];omega
def Iw:∀(ks:List Tn) (b:Nat),(ends ks b).length=ks.length
 |[],_=>rfl
 |t::ts,b=>by rw[ends,Zr,Iw ts,Zr]
def WR:∀(a c:List Tn) (b:Nat),ends (a++c) b=ends a b++ends c (b+sizes a)
 |[],c,b=>by simp[ends,sizes]
 |t::a,c,b=>by rw[zca,ends,ends,WR a c,sizes,zca,Nat.add_assoc]
def P8:∀(a c:List Tn) (b:Nat),qU (a++c) b=qU a b++qU c (b+sizes a)
 |[],c,b=>by simp[qU,sizes]
 |t::a,c,b=>by rw[zca,qU,qU,P8 a c,sizes,XG,Nat.add_assoc]
mutual
def Tn.flat_length:∀(t:Tn) (b:Nat),(t.flat b).length=t.size
 | .mk _ _ _ _ ks,b=>by rw[Tn.flat,Tn.size,DJ,uV ks b];rfl
def uV:∀(ks:List Tn) (b:Nat),(qU ks b).length=sizes ks
 |[],_=>rfl
 |t::ts,b=>by rw[qU,sizes,DJ,t.flat_length b,uV ts]
end
def axB{ks:List Tn}{b j:Nat}(h:j<ks.length):(ends ks b)[j]? =some ((b:Int)+sizes (ks.take (j+1)) - 1):=by
 induction ks generalizing b j with
 |nil=>simp at h
 |cons t ts ih=>
  cases j with
  |zero=>simp[ends,sizes]
  |succ j=>simp only[Zr,Nat.add_lt_add_iff_right] at h;rw[ends,List.getElem?_cons_succ,ih h,List.take_succ_cons,sizes];congr 1;omega
def Nd.up(d:Int)(n:Nd):Nd:={n with kids:=n.kids.map (· +d)}
def aty:∀(ks:List Tn) (b c:Nat),ends ks c=(ends ks b).map (· +((c:Int) - b))
 |[],_,_=>rfl
 |t::ts,b,c=>by rw[ends,ends,zmc,aty ts (b+t.size) (c+t.size)];have e:(((c+t.size:Nat):Int) - ((b+t.size:Nat):Int))=(c:Int) - b:=aC;rw[e];congr 1;omega
mutual
def Tn.atz:∀(t:Tn) (b c:Nat),t.flat c=(t.flat b).map (Nd.up ((c:Int) - b))
 | .mk k o x y ks,b,c=>by rw[Tn.flat,Tn.flat,List.map_append,ao2 ks b c,aty ks b c];rfl
def ao2:∀(ks:List Tn) (b c:Nat),qU ks c=(qU ks b).map (Nd.up ((c:Int) - b))
 |[],_,_=>rfl
 |t::ts,b,c=>by rw[qU,qU,List.map_append,t.atz b c,ao2 ts (b+t.size) (c+t.size)];have e:(((c+t.size:Nat):Int) - ((b+t.size:Nat):Int))=(c:Int) - b:=aC;rw[e]
end
def Lies(l:List Nd)(b:Nat)(t:Tn):Prop:=∃pre post,l=pre++(t.flat b++post)/\pre.length=b
def Lies.whole(t:Tn):Lies (t.flat 0) 0 t:=⟨[],[],by simp,rfl⟩
def Lies.root{l:List Nd}{b:Nat}{k o:Int}{x y:List UInt8}{ks:List Tn}(h:Lies l b (.mk k o x y ks)):l[b+sizes ks]? =some ⟨k,o,x,y,ends ks b⟩:=by obtain⟨pre,post,rfl,rfl⟩:=h;rw[Tn.flat,List.getElem?_append_right aC,XG,List.getElem?_append_right (by rw[uV];omega),uV];simp
def Lies.kid{l:List Nd}{b:Nat}{k o:Int}{x y:List UInt8}{a c:List Tn}{t:Tn}(h:Lies l b (.mk k o x y (a++t::c))):Lies l (b+sizes a) t:=by obtain⟨pre,post,rfl,rfl⟩:=h;refine⟨pre++qU a pre.length,qU c (pre.length+sizes a+t.size)++[⟨k,o,x,y,ends (a++t::c) pre.length⟩]++post, ?_,by rw[DJ,uV]⟩;rw[Tn.flat,P8,qU];simp only[XG]
def Lies.lt{l:List Nd}{b:Nat}{t:Tn}(h:Lies l b t):b+t.size<=l.length:=by obtain⟨pre,post,rfl,rfl⟩:=h;simp only[DJ,t.flat_length];omega
def Lies.part{l:List Nd}{b:Nat}{t:Tn}(h:Lies l b t):(l.drop b).take t.size=t.flat b:=by obtain⟨pre,post,rfl,rfl⟩:=h;rw[List.drop_left,<-t.flat_length pre.length,List.take_left]
def iJ(st:List Int):List Int->Int->Option Int
 |[],at_=>some at_
 |k::ks,at_=>if at_<0\/k≠at_ then none else iJ st ks ((st[k.toNat]?.getD 0) - 1)
def iP:List Int->List (List Int)->Option (List Int)
 |st,[]=>some st
 |st,n::l=>match iJ st n.reverse ((st.length:Int) - 1) with
  |none=>none
  |some at_=>iP (st++[at_+1]) l
def uK(l:List (List Int)):Option (List Int):=if 1<=l.length/\l.length<=400 then iP [] l else none
def ks(l:List Nd):List (List Int):=l.map (·.kids)
def IZ(l:List Nd):Bool:=match uK (ks l) with
 |none=>false
 |some st=>st[l.length - 1]?.getD 0==0
def Pq(l:List Nd):(ks l).length=l.length:=by simp[ks]
def avd(a b:List Nd):ks (a++b)=ks a++ks b:=by simp[ks]
def VL(st:List Int):List Tn->Prop
 |[]=>True
 |t::ts=>st[sizes (t::ts) - 1]? =some (sizes ts:Int)/\VL st ts
def ami{st u:List Int}:∀{ts:List Tn},sizes ts<=st.length->(VL (st++u) ts↔VL st ts)
 |[],_=>Iff.rfl
 |t::ts,h=>by
  have hp:=t.size_pos;have h1:sizes ts<=st.length:=by rw[sizes] at h;omega
  rw[VL,VL,ami h1,List.getElem?_append_left (by rw[sizes] at h|-;omega)]
def ajB{st:List Int}:∀{ks:List Int} {ts:List Tn} {a:Int},VL st ts->iJ st ks ((sizes ts:Int) - 1)=some a->
  ∃u v,ts=u++v/\ks.reverse=ends u.reverse (sizes v)/\a=(sizes v:Int) - 1
 |[],ts,a,_,h=>by rw[iJ] at h;cases h;exact⟨[],ts,rfl,rfl,rfl⟩
 |k::ks,[],a,_,h=>by rw[iJ,if_pos (.inl (by simp[sizes]))] at h;cases h
 |k::ks,t::ts,a,hr,h=>by
  have hp:=t.size_pos;have hs:sizes (t::ts)=t.size+sizes ts:=by rw[sizes]
  rw[iJ] at h;split at h
  ·cases h
  ·rename_i hc;have hk:k=(sizes (t::ts):Int) - 1:=aC;have hk':k.toNat=sizes (t::ts) - 1:=aC;rw[hk',hr.1,Option.getD_some] at h;obtain⟨u,v,rfl,h1,h2⟩:=ajB hr.2 h;refine⟨t::u,v,rfl, ?_,h2⟩;rw[List.reverse_cons,List.reverse_cons,h1,WR,J3,hk,hs,jT,ends,ends];congr 2;omega
def ajC{st:List Int}:∀{u v:List Tn},VL st (u++v)->VL st v
 |[],_,h=>h
 |_::u,_,h=>ajC (u:=u) h.2
def afk:∀(l pre:List Nd) (st r:List Int) (ts:List Tn),pre=qU ts.reverse 0->st.length=pre.length->VL st ts->iP st (ks l)=some r->
  ∃us,pre++l=qU us.reverse 0/\r.length=(pre++l).length/\VL r us
 |[],pre,st,r,ts,h1,h2,h3,h=>by rw[show ks []=[] from rfl,iP] at h;cases h;exact⟨ts,by simpa using h1,by simpa using h2,h3⟩
 |n::l,pre,st,r,ts,h1,h2,h3,h=>by
  have hk:ks (n::l)=n.kids::ks l:=rfl;have hpl:pre.length=sizes ts:=by rw[h1,uV,J3]
  rw[hk,iP] at h;split at h
  ·cases h
  ·rename_i a ha;rw[h2,hpl] at ha;obtain⟨u,v,rfl,hu,rfl⟩:=ajB h3 ha;rw[List.reverse_reverse] at hu;have hz:sizes (Tn.mk n.kind n.op n.text n.other u.reverse::v)=sizes u+1+sizes v:=by rw[sizes,Tn.size,J3]
   have:=afk l (pre++[n]) (st++[(sizes v:Int) - 1+1]) r (Tn.mk n.kind n.op n.text n.other u.reverse::v) (by
    rw[h1,List.reverse_append,List.reverse_cons,P8,P8,qU,qU,Tn.flat,List.append_nil,XG,J3,Nat.zero_add,<-hu]) (by simp[h2]) (by
    refine⟨?_, ?_⟩
    ·rw[hz,List.getElem?_append_right (by rw[h2,hpl,jT];omega),h2,hpl,jT];rw[show sizes u+1+sizes v - 1 - (sizes u+sizes v)=0 by omega];simp
    ·rw[ami (by rw[h2,hpl,jT];omega)];exact ajC h3) h
   obtain⟨us,k1,k2,k3⟩:=this;exact⟨us,by simpa using k1,by simpa using k2,k3⟩
def arZ{l:List Nd}(h:IZ l=true):∃t:Tn,l=t.flat 0/\t.size<=400:=by
 unfold IZ at h;cases hs:uK (ks l) with
 |none=>rw[hs] at h;cases h
 |some r=>
  rw[hs] at h;unfold uK at hs;split at hs
  ·rename_i hq;rw[Pq] at hq;obtain⟨us,k1,k2,k3⟩:=afk l [] [] r [] rfl rfl trivial hs;simp only[List.nil_append] at k1 k2;have hl:l.length=sizes us:=by rw[k1,uV,J3]
   cases us with
   |nil=>rw[sizes] at hl;omega
   |cons t ts=>
    rw[VL,<-hl] at k3;simp only[k3.1,Option.getD_some,beq_iff_eq] at h;have:ts=[]:=by
     cases ts with
     |nil=>rfl
     |cons u us=>have:=u.size_pos;rw[sizes] at h;omega
    subst this;refine⟨t,by simpa[qU] using k1, ?_⟩;rw[sizes,sizes] at hl;omega
  ·cases hs
mutual
def Tn.sts:Tn->Nat->List Int
 | .mk _ _ _ _ ks,b=>Wv ks b++[(b:Int)]
def Wv:List Tn->Nat->List Int
 |[],_=>[]
 |t::ts,b=>t.sts b++Wv ts (b+t.size)
end
mutual
def Tn.ajD:∀(t:Tn) (b:Nat),(t.sts b).length=t.size
 | .mk _ _ _ _ ks,b=>by rw[Tn.sts,Tn.size,DJ,Ug ks b];rfl
def Ug:∀(ks:List Tn) (b:Nat),(Wv ks b).length=sizes ks
 |[],_=>rfl
 |t::ts,b=>by rw[Wv,sizes,DJ,t.ajD b,Ug ts]
end
def Tn.ajE:∀(t:Tn) (b:Nat),∃u,t.sts b=u++[(b:Int)]/\u.length=t.size - 1
 | .mk _ _ _ _ ks,b=>⟨Wv ks b,by rw[Tn.sts],by rw[Ug,Tn.size];omega⟩
def ave{st:List Int}{b:Nat}(hb:st.length=b):∀(ks:List Tn) (u:List Int),iJ (st++Wv ks b++u) (ends ks b).reverse ((b:Int)+sizes ks - 1)=some ((b:Int) - 1):=by
 intro ks;induction hn:ks.length generalizing ks with
 |zero=>intro u;have:ks=[]:=List.length_eq_zero_iff.1 hn;subst this;simp[ends,iJ,sizes]
 |succ n ih=>
  intro u;obtain⟨ts,t,rfl⟩:∃ts t,ks=ts++[t]:=by
   have hne:ks≠[]:=by intro e;simp[e] at hn
   exact⟨ks.dropLast,ks.getLast hne,(List.dropLast_concat_getLast hne).symm⟩
  have hp:=t.size_pos;have hss:Wv (ts++[t]) b=Wv ts b++t.sts (b+sizes ts):=by
   have:∀(ts:List Tn) (b:Nat),Wv (ts++[t]) b=Wv ts b++t.sts (b+sizes ts):=by
    intro ts;induction ts with
    |nil=>intro b;simp[Wv,sizes]
    |cons v vs ihv=>intro b;rw[zca,Wv,Wv,ihv,sizes,XG,Nat.add_assoc]
   exact this ts b
  have hsz:sizes (ts++[t])=sizes ts+t.size:=by rw[jT,sizes,sizes];omega
  rw[WR,List.reverse_append,ends,ends,List.reverse_singleton,List.singleton_append,iJ,hsz];have hn':¬((b:Int)+((sizes ts+t.size:Nat):Int) - 1<0\/((b+sizes ts:Nat):Int)+t.size - 1≠(b:Int)+((sizes ts+t.size:Nat):Int) - 1):=aC;rw[if_neg hn'];obtain⟨w,hw,hwl⟩:=t.ajE (b+sizes ts);have hget:(st++Wv (ts++[t]) b++u)[(((b+sizes ts:Nat):Int)+t.size - 1).toNat]? =some ((b+sizes ts:Nat):Int):=by
   rw[hss,hw];have e:(((b+sizes ts:Nat):Int)+t.size - 1).toNat=(st++Wv ts b++w).length:=by simp only[DJ,hb,Ug,hwl];omega
   rw[e,show st++(Wv ts b++(w++[((b+sizes ts:Nat):Int)]))++u=(st++Wv ts b++w)++(((b+sizes ts:Nat):Int)::u) by simp,List.getElem?_append_right (Nat.le_refl _)];simp
  rw[hget,Option.getD_some,hss,show st++(Wv ts b++t.sts (b+sizes ts))++u=st++Wv ts b++(t.sts (b+sizes ts)++u) by simp];have:=ih ts (by simpa using hn) (t.sts (b+sizes ts)++u);rw[<-this];congr 1
mutual
def Tn.Z8:∀(t:Tn) (st:List Int) (l:List Nd),iP st (ks (t.flat st.length++l))=iP (st++t.sts st.length) (ks l)
 | .mk k o x y us,st,l=>by rw[Tn.flat,XG,afl us st];have e:ks ([⟨k,o,x,y,ends us st.length⟩]++l)=ends us st.length::ks l:=rfl;have hw:=ave (st:=st) rfl us [];rw[List.append_nil] at hw;rw[e,iP,DJ,Ug,Int.natCast_add,hw,Tn.sts];simp only;rw[XG];congr 3;simp
def afl:∀(us:List Tn) (st:List Int) (l:List Nd),iP st (ks (qU us st.length++l))=iP (st++Wv us st.length) (ks l)
 |[],st,l=>by simp[qU,Wv]
 |t::us,st,l=>by rw[qU,XG,t.Z8 st];have:=afl us (st++t.sts st.length) l;rw[DJ,t.ajD] at this;rw[this,Wv,XG]
end
def ahz(t:Tn):iP [] (ks (t.flat 0))=some (t.sts 0):=by have:=t.Z8 [] [];simpa[ks,iP] using this
def Lies.sts{l:List Nd}{t:Tn}(hl:l=t.flat 0){b:Nat}{u:Tn}(h:Lies l b u):(t.sts 0)[b+u.size - 1]? =some (b:Int):=by
 obtain⟨pre,post,e,hb⟩:=h;have h0:=ahz t;rw[<-hl,e,avd] at h0;have key:∀(a c:List (List Int)) (st r:List Int),iP st (a++c)=some r->∃m,iP st a=some m/\iP m c=some r/\m.length=st.length+a.length:=by
  intro a;induction a with
  |nil=>intro c st r h;exact⟨st,rfl,h,by simp⟩
  |cons x a ih=>
   intro c st r h;rw[zca,iP] at h;rw[iP];split at h
   ·cases h
   ·obtain⟨m,k1,k2,k3⟩:=ih c _ r h;exact⟨m,k1,k2,by rw[k3];simp;omega⟩
 obtain⟨m,k1,k2,k3⟩:=key _ _ _ _ h0;have hm:m.length=b:=by rw[k3,Pq,hb];simp
 subst hm;rw[u.Z8 m post] at k2;have pref:∀(a:List (List Int)) (st r:List Int),iP st a=some r->∃w,r=st++w:=by
  intro a;induction a with
  |nil=>intro st r h;cases h;exact⟨[],by simp⟩
  |cons x a ih=>
   intro st r h;rw[iP] at h;split at h
   ·cases h
   ·obtain⟨w,hw⟩:=ih _ r h;exact⟨_,by rw[hw,XG]⟩
 obtain⟨w,hw⟩:=pref _ _ _ k2;obtain⟨v,hv,hvl⟩:=u.ajE m.length;have hp:=u.size_pos;rw[hw,hv,show m++(v++[(m.length:Int)])++w=(m++v)++((m.length:Int)::w) by simp,show m.length+u.size - 1=(m++v).length by rw[DJ,hvl];omega,List.getElem?_append_right (Nat.le_refl _)];simp
def RZ(w:Bool):∀ts:List Tn,dN w ts=ts.map (Tn.row w)
 |[]=>rfl
 |t::ts=>by rw[dN,RZ w ts];rfl
mutual
def aE0(w:Bool):∀t:Tn,EK (t.row w)=t.row false
 | .mk k o x y ts=>by have:=jf w ts;simp only[Tn.row,EK,D.fz,this]
def jf(w:Bool):∀ts:List Tn,au (dN w ts)=dN false ts
 |[]=>rfl
 |t::ts=>by rw[dN,au,aE0 w t,jf w ts,dN]
end
end Go.Vm
namespace Go.Vm
open Go
open Go.IntKind (i64)
mutual
def tyD(P:Program):Nat->TypeId->Row->Prop
 |0,_,_=>False
 |n+1,t,row=>match P.underlying t with
  |some .bool=>∃b,row=[.bool b]
  |some (.int k)=>∃x,row=[.int k x]/\(Lit.int k x).wf=true
  |some .string=>∃s,row=[.str s]/\s.length<=maxLen
  |some (.slice e)=>∃rows,row=[.sl false (yF P e) rows]/\rows.length<=maxLen/\∀r,r∈rows->tyD P n e r
  |some (.struct fs)=>axC P n fs.toList row
  |_=>False
def axC(P:Program):Nat->List Field->Row->Prop
 |_,[],row=>row=[]
 |n,f::fs,row=>∃r1 r2,row=r1++r2/\tyD P n f.type r1/\axC P n fs r2
end
def agk(P:Program):Nat->List Field->Option Nat
 |o,[]=>some o
 |o,f::fs=>bif Nat.beq f.offset o then agk P (o+P.cellsOf f.type) fs else none
def ahA(P:Program):Nat->TypeId->Bool
 |0,_=>false
 |n+1,t=>match P.underlying t with
  |some .bool|some (.int _)|some .string=>true
  |some (.slice e)=>ahA P n e && Nat.ble 1 (yF P e)
  |some (.struct fs)=>(match agk P 0 fs.toList with|some o=>Nat.beq o (P.cellsOf t)|none=>false) && fs.toList.all λf=>ahA P n f.type
  |_=>false
def avf(P:Program)(t:TypeId):yF P t=P.cellsOf t:=by unfold yF Program.cellsOf;cases P.info? t<;>rfl
def ajF{α β:Type}{f:α->Option β}:∀{l:List α} {r:List β},l.mapM f=some r->r.length=l.length/\∀(i:Nat) x,l[i]? =some x->∃y,f x=some y/\r[i]? =some y
 |[],r,h=>by simp at h;subst h;exact⟨rfl,λi x h=>by simp at h⟩
 |a::l,r,h=>by
  rw[List.mapM_cons] at h;simp only[Option.bind_eq_bind,Option.bind_eq_some_iff,Option.pure_def,oL] at h;obtain⟨y,h1,r',h2,rfl⟩:=h;obtain⟨h3,h4⟩:=ajF h2;refine⟨by simp[h3],λi x hx=> ?_⟩;cases i with
  |zero=>simp only[List.getElem?_cons_zero,oL] at hx;subst hx;exact⟨y,h1,rfl⟩
  |succ i=>simpa using h4 i x (by simpa using hx)
def atA{α:Type}{p:Nat->α->Prop}:∀(n k:Nat),(∀i,i<n->∃x,p (k+i) x)->∃l:List α,l.length=n/\∀(i:Nat) x,l[i]? =some x->p (k+i) x
 |0,_,_=>⟨[],rfl,λi x h=>by simp at h⟩
 |n+1,k,h=>by
  obtain⟨x,hx⟩:=h 0 aC;obtain⟨l,h1,h2⟩:=atA n (k+1) (λi hi=>by
   have:=h (i+1) aC
   rwa [show k+(i+1)=k+1+i by omega] at this)
  refine⟨x::l,by simp[h1],λi y hy=> ?_⟩;cases i with
  |zero=>simp only[List.getElem?_cons_zero,oL] at hy;subst hy;exact hx
  |succ i=>
   have:=h2 i y (by simpa using hy)
   rwa [show k+1+i=k+(i+1) by omega] at this
def ao3{h:View}:∀(r:Row) (b o:Nat) (cs:List Value),(∀(j:Nat) v,cs[j]? =some v->h b (o+j)=some v)->kV h r cs->DK h r b o
 |[],_,_,_,_,_=>trivial
 |x::r,b,o,cs,hc,⟨v,cs',e,h1,h2⟩=>by
  subst e;exact⟨⟨v,by simpa using hc 0 v rfl,h1⟩,ao3 r b (o+1) cs' (λj u hj=>by
   have:=hc (j+1) u (by simpa using hj)
   rwa [show o+(j+1)=o+1+j by omega] at this) h2⟩
def amj{h:View}{s b:Nat}:∀(rs:List Row) (o:Nat),(∀(i:Nat) r,rs[i]? =some r->r.length=s/\DK h r b (o+i * s))->uJ h s rs b o
 |[],_,_=>trivial
 |r::rs,o,hr=>by
  obtain⟨h1,h2⟩:=hr 0 r rfl;refine⟨h1,by simpa using h2,amj rs (o+s) λi q hq=> ?_⟩;obtain⟨h3,h4⟩:=hr (i+1) q (by simpa using hq);refine⟨h3, ?_⟩
  rwa [show o+(i+1) * s=o+s+i * s by rw[Nat.succ_mul];omega] at h4
def ahB{h:View}:∀{r1 r2:Row} {c1 c2:List Value},kV h r1 c1->r1.length=c1.length->kV h r2 c2->kV h (r1++r2) (c1++c2)
 |[],r2,c1,c2,_,hl,h2=>by have:c1=[]:=List.length_eq_zero_iff.1 hl.symm;subst this;exact h2
 |x::r1,r2,_,c2,⟨v,cs',e,h1,h3⟩,hl,h2=>by subst e;exact⟨v,cs'++c2,rfl,h1,ahB h3 (by simpa using hl) h2⟩
def ajG{w:World}{base:Nat}{a:Addr}{n:Nat}{cs:List Value}(h:w.cells? base a n=some cs):cs.length=n/\∀j,j<n->∃v,w.cell? (a.add j)=some v/\cs[j]? =some v:=by
 unfold World.cells? at h;split at h
 ·obtain⟨h1,h2⟩:=ajF h;rw[List.length_range] at h1;refine⟨h1,λj hj=> ?_⟩;exact h2 j j (by simp[hj])
 ·cases h
section
variable {H:Type} {enc:TypeId×Value->H} {P:Program} {w:World} {base:Nat} {spare:Nat->Bool} {held:Bool}
def amk{n:Nat}(ih:∀(t:TypeId) (cs:List Value) (d:DataW H) (ps:List MemPlace),ahA P n t=true->DataW.trod enc P w base spare held n t cs=some (d,ps)->∃row:Row,row.length=cs.length/\tyD P n t row/\kV (full w) row cs):
  ∀(fs:List Field) (o tot:Nat) (cs:List Value) (xs:List (DataW H×List MemPlace)),agk P o fs=some tot->(fs.all λf=>ahA P n f.type)=true->tot<=cs.length->
   fs.mapM (λf=>DataW.trod enc P w base spare held n f.type ((cs.drop f.offset).take (P.cellsOf f.type)))=some xs->
   ∃row:Row,row.length=tot - o/\o<=tot/\axC P n fs row/\kV (full w) row ((cs.drop o).take (tot - o))
 |[],o,tot,cs,xs,hc,_,_,_=>by simp only[agk,oL] at hc;subst hc;exact⟨[],by simp,Nat.le_refl _,by simp[axC],trivial⟩
 |f::fs,o,tot,cs,xs,hc,hg,hle,hm=>by
  simp only[agk] at hc;cases hb:Nat.beq f.offset o with
  |false=>simp[hb] at hc
  |true=>
   simp only[hb,aJ] at hc;have hbo:=MB hb;simp only[List.all_cons,PO] at hg;rw[List.mapM_cons] at hm;simp only[Option.bind_eq_bind,Option.bind_eq_some_iff,Option.pure_def,oL] at hm;obtain⟨y,h1,ys,h2,rfl⟩:=hm;obtain⟨aHT,l2,le2,t2,s2⟩:=amk ih fs _ tot cs ys hc hg.2 hle h2;obtain⟨aHU,l1,t1,s1⟩:=ih _ _ y.1 y.2 hg.1 h1;rw[hbo] at l1 s1;have hl:((cs.drop o).take (P.cellsOf f.type)).length=P.cellsOf f.type:=by simp;omega
   rw[hl] at l1;refine⟨aHU++aHT,by simp[l1,l2];omega,aC,by simp only[axC];exact⟨aHU,aHT,rfl,t1,t2⟩, ?_⟩;have e:(cs.drop o).take (tot - o)=(cs.drop o).take (P.cellsOf f.type)++(cs.drop (o+P.cellsOf f.type)).take (tot - (o+P.cellsOf f.type)):=by rw[<-List.drop_drop,show tot - o=P.cellsOf f.type+(tot - (o+P.cellsOf f.type)) by omega,List.take_add]
   rw[e];exact ahB s1 (by rw[l1,hl]) s2
def anN:∀(n:Nat) (t:TypeId) (cs:List Value) (d:DataW H) (ps:List MemPlace),ahA P n t=true->DataW.trod enc P w base spare held n t cs=some (d,ps)->
  ∃row:Row,row.length=cs.length/\tyD P n t row/\kV (full w) row cs
 |0,t,cs,d,ps,hg,_=>by simp[ahA] at hg
 |n+1,t,cs,d,ps,hg,h=>by
  simp only[ahA] at hg;unfold DataW.trod at h;cases hu:P.underlying t with
  |none=>simp[hu] at hg
  |some D=>
   rw[hu] at hg h;cases D with
   |bool=>split at h<;>simp_all;rename_i b;exact⟨[.bool b],by simp,by simp[tyD,hu],_,_,rfl,rfl,trivial⟩
   |int k=>split at h<;>simp_all;rename_i k' x _;obtain⟨⟨rfl,hw⟩,_⟩:=h;refine⟨[.int _ x],by simp, ?_,_,_,rfl,rfl,trivial⟩;simp only[tyD,hu];exact⟨x,rfl,hw⟩
   |string=>
    split at h<;>simp_all;rename_i s;refine⟨[.str s.data.toList],by simp, ?_,_,_,rfl, ?_,trivial⟩
    ·simp only[tyD,hu];refine⟨_,rfl, ?_⟩;simpa using h.1
    ·simp[ro]
   |slice e=>
    simp only[PO] at hg;split at h
    all_goals first
     |(rename_i e1;cases e1;done)
     |(cases h;done)
     |(exfalso;rename_i h21 _ _ _ _ _ _ _ _ _ _ _ _ _ _ _ _ _ _ _;exact h21 _ rfl)
     |skip
    case h_7=>
     rename_i e1;refine⟨[.sl false (yF P e) []],rfl, ?_,_,_,rfl, ?_,trivial⟩
     ·simp only[tyD,hu];exact⟨[],rfl,by simp,λr hr=>by simp at hr⟩
     ·simp only[ro];exact⟨none,0,rfl,by simp,λhn=>absurd rfl hn⟩
    case h_8=>
     rename_i _ e' a len cap e1;cases e1;split at h
     ·rename_i hb;rw[Option.bind_eq_some_iff] at h;obtain⟨elems,hel,_⟩:=h;obtain⟨hl,hget⟩:=ajF hel;rw[List.length_range] at hl;have hs:=avf P e;have hpos:1<=P.cellsOf e:=by rw[<-hs];exact Nat.le_of_ble_eq_true hg.2
      have hrow:∀i,i<len->∃r:Row,tyD P n e r/\r.length=yF P e/\a.spot=none/\DK (full w) r a.block (a.off+i * yF P e):=by
       intro i hi;obtain⟨y,hy,_⟩:=hget i i (by simp[hi]);rw[Option.bind_eq_some_iff] at hy;obtain⟨cs,hcs,hy⟩:=hy;obtain⟨row,l1,t1,s1⟩:=anN n e cs y.1 y.2 hg.1 hy;obtain⟨hcl,hcg⟩:=ajG hcs;refine⟨row,t1,by rw[l1,hcl,hs], ?_, ?_⟩
       ·obtain⟨y0,hy0,_⟩:=hget 0 0 (List.getElem?_range aC);rw[Option.bind_eq_some_iff] at hy0;obtain⟨cs0,hcs0,_⟩:=hy0;obtain⟨u,hu1,_⟩:=(ajG hcs0).2 0 aC;simpa[Addr.add] using World.cell?_spot hu1
       ·refine ao3 row a.block _ cs (λj v hj=> ?_) s1;have hjn:j<P.cellsOf e:=by have:=(UN.1 hj).1;omega
        obtain⟨u,hu1,hu2⟩:=hcg j hjn;rw[hu2] at hj;cases hj;have hsp:=World.cell?_spot hu1;have e2:((a.add (i * P.cellsOf e)).add j)=⟨a.block,a.off+i * yF P e+j,none⟩:=by
         rw[hs];generalize i * P.cellsOf e=q at hsp|-;obtain⟨ab,ao,as_⟩:=a;rcases Nat.eq_zero_or_pos q with h1|h1<;>rcases Nat.eq_zero_or_pos j with h2|h2
         ·subst h1;subst h2;have:as_=none:=hsp;subst this;rfl
         ·subst h1;simp[Addr.add,show j≠0 by omega]
         ·subst h2;simp[Addr.add,show q≠0 by omega]
         ·simp[Addr.add,show q≠0 by omega,show j≠0 by omega]
        rw[e2] at hu1;exact hu1
      obtain⟨rows,r1,r2⟩:=atA (p:=λi (r:Row)=>tyD P n e r/\r.length=yF P e/\a.spot=none/\DK (full w) r a.block (a.off+i * yF P e)) len 0 (λi hi=>by rw[Nat.zero_add];exact hrow i hi);refine⟨[.sl false (yF P e) rows],rfl, ?_,_,_,rfl, ?_,trivial⟩
      ·simp only[tyD,hu];refine⟨rows,rfl,aC,λr hr=> ?_⟩;obtain⟨i,hi⟩:=List.getElem?_of_mem hr;exact(r2 i r hi).1
      ·simp only[ro];refine⟨some a,cap,by rw[r1],aC,λhn=> ?_⟩;have h0:∃r0,rows[0]? =some r0:=by
        cases rows with
        |nil=>exact absurd rfl hn
        |cons r0 _=>exact⟨r0,rfl⟩
       obtain⟨r0,h0⟩:=h0;have hsp:=(r2 0 r0 h0).2.2.1;refine⟨a.block,a.off, ?_,amj rows a.off λi r hr=> ?_⟩
       ·obtain⟨ab,ao,as_⟩:=a;simp only at hsp;subst hsp;rfl
       ·obtain⟨_,h2,_,h4⟩:=r2 i r hr;rw[Nat.zero_add] at h4;exact⟨h2,h4⟩
     ·cases h
   |struct fs=>
    simp only[PO] at hg;split at h
    all_goals first
     |(rename_i e1;cases e1;done)
     |(cases h;done)
     |(exfalso;rename_i h21 _ _ _ _ _ _ _ _ _ _ _ _ _ _ _ _ _ _ _;exact h21 _ rfl)
     |skip
    case h_9=>
     rename_i _ fs' cs' e1;cases e1;split at h
     ·rename_i hcl;rw[Option.map_eq_some_iff] at h;obtain⟨xs,hxs,_⟩:=h;cases hc:agk P 0 fs.toList with
      |none=>simp[hc] at hg
      |some tot=>simp only[hc] at hg;have htot:=MB hg.1;obtain⟨row,l1,_,t1,s1⟩:=amk (λt cs d ps hg h=>anN n t cs d ps hg h) fs.toList 0 tot _ xs hc hg.2 aC hxs;refine⟨row,by rw[l1];omega,by simp only[tyD,hu];exact t1, ?_⟩;simpa[htot,<-hcl] using s1
     ·cases h
   |_=>simp at hg
end
end Go.Vm
namespace Go.Vm
open Go Go.RowKit
open Go.IntKind (i64)
def aml{A:Adv}{f:Nat}(hm:A.move f=[]){μ:Nat->Value}{m:Mem}{H:Heap}{h:View}:∀{vs:List V} {gs:List Value} (i:Nat),dX μ m h vs gs->VA A f μ m H h i vs gs []
 |[],gs,i,q=>by simp only[dX] at q;simp only[VA];exact⟨q,trivial⟩
 |v::vs,gs,i,q=>by
  simp only[dX] at q;obtain⟨g,gs',rfl,h1,h2⟩:=q;simp only[VA];refine⟨g,gs',[],[],rfl,rfl, ?_,aml hm (i+1) h2⟩;split
  ·rename_i hmo;simp only[PS,hm,mem?,aX] at hmo;exact absurd hmo (by decide)
  ·exact⟨rfl,h1⟩
def avg{X:Ctx}(hp:anz X){f:Nat}{fn:Func}{t:TypeId}{args:List V}{gargs:List Value}{w:World}(hf:X.P.funcs[f]? =some fn)(hb:fn.body.isSome=true)(hr:fn.resultTypes=#[t])(ht:UA X.P t=false)(hm:X.U8.move f=[])(hgl:aiT X (full w))
  (hs:dX (impμ []) [] (full w) args gargs) (h:call X f args []=some ([[.bool true]],[])):
  Calls X.P f gargs.toArray w λe w'=>e=.returned (.bool true)/\Below w.heap.size w w':=by
 have hG:Given X 0 (λ_=>True) w f args [] gargs [] [] []:=by
  have hv:(full w).le (view w (λ_=>True) (· ∈([]:List Nat)++[])):=by intro b o v h;exact aiw trivial (by simp) h
  refine⟨by simp,by simp,λ_ _=>trivial,Nat.zero_le _, ?_,⟨rfl,rfl⟩,RJ hv hgl⟩;exact XO (BF _ _) hv (λ_ _=>rfl) (aml (H:=fZ w) hm 0 hs)
 refine(aBq hp f fn args [] [[.bool true]] [] hf hb h 0 (λ_=>True) w gargs [] [] [] hG).mono ?_;rintro e w' ⟨gs,M1,M2,rfl,D⟩;have hres:=D.res;rw[hr] at hres;simp only[XP] at hres;obtain⟨row,rows',g,gs',cs,N1,N2,e1,e2,_,hv,ho,hl,e3,e4,_⟩:=hres;simp only[List.cons.injEq] at e1;obtain⟨rfl,rfl⟩:=e1;subst e4;subst e2;simp only[valOf,ht,Bool.false_eq_true,if_false] at hv;subst hv;simp only[mQ,ow] at ho;obtain⟨v,cs',N1,N2,e5,_,⟨rfl,_⟩,_⟩:=ho;simp only[List.cons.injEq] at e5;obtain⟨rfl,_⟩:=e5;refine⟨rfl,⟨D.keep.os,D.keep.tape,D.keep.output,D.keep.size,λk hk=>D.keep.block k hk (by simp)⟩⟩
section
variable {H:Type} {enc:TypeId×Value->H} {P:Program} {w:World} {base:Nat} {spare:Nat->Bool} {held:Bool} {t:TypeId} {v:Value} {d:DataW H} {ps:List MemPlace}
def atC{μ:Nat->Value}{m:Mem}(h:DataW.Trod enc P w base spare held t v d ps)(hg:∀n,ahA P (n+8) t=true)(hv:v.cells.toList=[v]):
  ∃n x,tyD P (n+8) t [x]/\bQ μ m (full w) (.d x) v:=by
 obtain⟨n,hn⟩:=h;have hn':DataW.trod enc P w base spare held (n+8) t v.cells.toList=some (d,ps):=DataW.trod_le (Nat.le_add_right n 8) hn;obtain⟨row,hl,ht,hs⟩:=anN (n+8) t _ d ps (hg n) hn';rw[hv] at hl hs;cases row with
 |nil=>simp at hl
 |cons x r=>
  cases r with
  |cons _ _=>simp at hl
  |nil=>obtain⟨u,cs',e,h1,_⟩:=hs;simp only[List.cons.injEq] at e;obtain⟨rfl,_⟩:=e;exact⟨_,x,ht,by simpa[bQ] using h1⟩
end
section
variable {P:Program} {n:Nat} {t:TypeId} {row:Row}
def aBy(hu:P.underlying t=some .string)(h:tyD P (n+1) t row):∃s,row=[.str s]/\s.length<=maxLen:=by simpa[tyD,hu] using h
end
end Go.Vm
namespace Go.Vm
open Go
open Go.IntKind (i64)
section
variable {H:Type} {enc:TypeId×Value->H}
def ajH{a:Assume}{C:Checked}{os:Os}{f:FuncId}{fn:Func}{s:ChangeSpec}{conds:List PathCond}{apart fresh handsOn again:Bool}{X:World->Array Value->Prop}
  (hX:∀(w w':World) (args:Array Value),w.heap=w'.heap->X w args->X w' args)
  (own:ownKnob C.prog.godebug=none) (started:os.Started) (noInit:C.prog.inits.idxOf? f=none) (hfn:C.prog.funcs[f]? =some fn)
  (witness:∃(w:World) (tape:Tape) (i:Input),w.os=os/\(w.forCall tape i).Shaped C.prog/\i.vars=[]/\Input.okWide C.prog (w.forCall tape i) .any w.heap.size f i/\
   ((s.pre enc C.prog fn conds apart (w.forCall tape i).memory i.args/\X (w.forCall tape i).memory i.args)/\sizedMet enc C.prog fn (OpenSpec.ofChange s) apart (w.forCall tape i).memory i.args)/\a.holds C.prog (lone (Frame.enter C.prog f i.args .normal) [] (w.forCall tape i)))
  (contract:∀(W:World) (base:Nat) (args:Array Value) (ds gs:List (DataW H)) (before:List MemPlace),
   (∀(j:Nat) t v,fn.params[j]? =some t->args[j]? =some v->Value.okWide C.prog W .any base t v)->
   DataW.Whole enc C.prog fn.params.toList s.vars apart W args.toList ds gs before->X W args->W.ShapedOpen C.prog->
   Calls C.prog f args W λe W'=>∃v,e=.returned v/\s.post enc C.prog fn apart fresh handsOn again W args v W'):
  ReturnsInHanded a C os f .any (λw args=>(s.pre enc C.prog fn conds apart w args/\X w args)/\sizedMet enc C.prog fn (OpenSpec.ofChange s) apart w args) (s.post enc C.prog fn apart fresh handsOn again):=by
 refine returnsInHanded_of_calls own started noInit witness ?_;rintro w tape i _ shp _ ⟨_,_,_,g,hg,_,_,_,_,val⟩ ⟨⟨⟨ds,gs,before,whole,_⟩,hx⟩,_⟩ _;have e:g=fn:=Option.some.inj (hg.symm.trans hfn);rw[e] at val;have c:=contract (w.forCall tape i) w.heap.size i.args ds gs before val (DataW.Whole.of_heap (w':=w.forCall tape i) (by rfl) whole) (hX _ _ _ (by rfl) hx) shp;refine c.mono ?_;rintro e W' ⟨v,rfl,hp⟩;exact ChangeSpec.post_blind hp
end
def aR0:DataW Unit->Value
 | .lit (.int k n)=> .int k n
 | .lit (.bool b)=> .bool b
 | .lit (.string b)=> .string ⟨b.toArray⟩
 |_=> .tuple #[]
def amm:Nat->DataW Unit->List Value
 |0,_=>[]
 |n+1,d=>match d with
  | .agg ds=>ds.flatMap (amm n)
  |d=>[aR0 d]
def aHV(h:Array Obj)(g:Nat)(d:DataW Unit):Array Obj:=h.modify g λo=>match o with
 | .cells _ t fr=> .cells (amm 4 d).toArray t fr
 |o=>o
def layAll(h:Array Obj):List (Nat×DataW Unit)->Array Obj
 |[]=>h
 |(g,d)::l=>layAll (aHV h g d) l
noncomputable def laidWorld(P:Program)(l:List (Nat×DataW Unit))(os:Os):World:=
 let w:=World.holding P os ⟨#[],#[],[]⟩
 {w with heap:=layAll w.heap l}
def ao4{h:View}{g:Nat}:∀(row:Row) (o:Nat),(∀(j:Nat) x,row[j]? =some x->∃v,h g (o+j)=some v/\ro h x v)->DK h row g o
 |[],_,_=>trivial
 |x::row,o,q=>⟨by simpa using q 0 x rfl,ao4 row (o+1) λj y hj=>by
   have:=q (j+1) y (by simpa using hj)
   rwa [show o+(j+1)=o+1+j by omega] at this⟩
def agl{P:Program}{w:World}{nm:String}{g t e n fuel:Nat}{cs:Array Value}{ss:List (List UInt8)}{p:List MemPlace}(hu:P.underlying t=some (.array n e))(he:P.underlying e=some .string)(hc:P.cellsOf e=1)
  (hg:P.globalNamed nm=some g) (hv:w.var? P nm=some cs) (h:DataW.trod (λ_=>()) P w 0 (λ_=>true) false fuel t cs.toList=some (.agg (ss.map λs=> .lit (.string s)),p)):DK (full w) (ss.map D.str) g 0:=by
 obtain⟨xs,m,rfl,hx,hcl,hxl,hel⟩:=DataW.trod_array hu h;simp only[uI,DataW.agg.injEq] at hx;refine ao4 _ 0 λj x hj=> ?_
 rw[List.getElem?_map] at hj;cases hs:ss[j]? with
 |none=>rw[hs] at hj;cases hj
 |some s=>
  rw[hs] at hj;cases hj;have hjl:j<ss.length:=(UN.1 hs).1;have hlen:ss.length=xs.length:=by have:=congrArg List.length hx.1;simpa using this
  obtain⟨y,hy⟩:∃y,xs[j]? =some y:=⟨xs[j]'aC,by simp⟩
  have hh:=hel j aC;rw[hy] at hh;obtain⟨b,hb1,hb2,_⟩:=DataW.trod_string he hh;have hyx:y.1=.lit (.string s):=by have:=congrArg (λl=>l[j]?) hx.1;simp only[List.getElem?_map,hs,hy,Ir,oL] at this;exact this.symm
  rw[hb2] at hyx;simp only[DataW.lit.injEq,Lit.string.injEq] at hyx;rw[hc,Nat.mul_one] at hb1;have hcell:cs[j]? =some (.string b):=by have:=congrArg (λl=>l[0]?) hb1;simpa using this
  refine⟨.string b, ?_, ?_⟩
  ·have:=World.var?_cell hg hv j;rw[Nat.zero_add];show w.cell? ⟨g,j,none⟩=_;rw[this];exact hcell
  ·simp only[ro];rw[<-hyx]
end Go.Vm
